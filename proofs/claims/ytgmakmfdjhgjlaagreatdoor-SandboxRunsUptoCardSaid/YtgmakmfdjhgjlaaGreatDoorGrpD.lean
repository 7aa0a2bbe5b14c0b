/-
  Texts of our own, in one file.
-/
import Derived.Test.YtgmakmfdjhgjlaaGreatDoorGrpC
import Derived.Sort.Grow
import Derived.Deep.Draws
import Derived.WideShapes
import Derived.Shelf.Spec.SlicesGrow
import Derived.Shelf.SlSortCmp.WholeK
import Derived.WalkKit
import Derived.Lib.Walk
import Derived.Shelf.Strconv.Itoa3
import Derived.Shelf.LaysM
section
set_option linter.unusedVariables false
set_option linter.unusedSimpArgs false
set_option maxRecDepth 20000
namespace Go.Proofs.YtgmakmfdjhgjlaaGreatDoor
open Go Go.Ab
def fstT (p : List UInt8) : List UInt8 := p.takeWhile (fun c => c != 47)
def rstT (p : List UInt8) : List UInt8 := (p.dropWhile (fun c => c != 47)).drop 1
def stp (f : Fil) : Fil := ⟨rstT f.path, f.text, f.run⟩
theorem fst_ok (p : List UInt8) : (p.count 47 = 0 ∧ fstT p = p ∧ rstT p = []) ∨ (0 < p.count 47 ∧ p = fstT p ++ 47 :: rstT p) := by
  induction p with
  | nil => exact .inl ⟨rfl, rfl, rfl⟩
  | cons c p ih =>
    by_cases hc : c = 47
    · subst hc
      exact .inr ⟨by simp, rfl⟩
    · have h1 : fstT (c :: p) = c :: fstT p := by unfold fstT; rw [List.takeWhile_cons, if_pos (by simpa using hc)]
      have h2 : rstT (c :: p) = rstT p := by unfold rstT; rw [List.dropWhile_cons, if_pos (by simpa using hc)]
      have h3 : (c :: p).count 47 = p.count 47 := by rw [List.count_cons, if_neg (by simpa using hc)]; rfl
      rw [h1, h2, h3]
      rcases ih with ⟨a, b, d⟩ | ⟨a, b⟩
      · exact .inl ⟨a, by rw [b], d⟩
      · exact .inr ⟨a, by rw [List.cons_append, ← b]⟩
theorem fst_no (p : List UInt8) : (fstT p).count 47 = 0 := by
  induction p with
  | nil => rfl
  | cons c p ih =>
    unfold fstT
    rw [List.takeWhile_cons]
    split
    · rename_i h
      have : ¬ c = 47 := by simpa using h
      rw [List.count_cons, if_neg (by simpa using this)]
      exact ih
    · rfl
theorem rst_len (p : List UInt8) : (rstT p).length ≤ p.length - 1 := by
  rcases fst_ok p with ⟨_, _, h⟩ | ⟨_, h⟩
  · rw [h]; simp
  · have := congrArg List.length h
    rw [List.length_append, List.length_cons] at this; omega
theorem split_fst (p : List UInt8) : splitB 47 p = fstT p :: (if p.count 47 = 0 then [] else splitB 47 (rstT p)) := by
  induction p with
  | nil => rfl
  | cons c p ih =>
    by_cases hc : c = 47
    · subst hc
      rw [splitB, if_pos rfl, if_neg (by simp)]; rfl
    · have h1 : fstT (c :: p) = c :: fstT p := by unfold fstT; rw [List.takeWhile_cons, if_pos (by simpa using hc)]
      have h2 : rstT (c :: p) = rstT p := by unfold rstT; rw [List.dropWhile_cons, if_pos (by simpa using hc)]
      have h3 : (c :: p).count 47 = p.count 47 := by rw [List.count_cons, if_neg (by simpa using hc)]; rfl
      rw [h1, h2, h3, splitB, if_neg hc, ih]
theorem path_fst {p : List UInt8} (h : isPathB p = true) : isName (fstT p) = true ∧ p.length ≤ 100 ∧ (rstT p = [] → fstT p = p) ∧ (rstT p ≠ [] → isPathB (rstT p) = true ∧ p = fstT p ++ 47 :: rstT p) := by
  unfold isPathB at h
  rw [Bool.and_eq_true, decide_eq_true_eq, split_fst, List.all_cons, Bool.and_eq_true] at h
  obtain ⟨⟨h1, h2⟩, h3⟩ := h
  refine ⟨h1, h3, fun hr => ?_, fun hr => ?_⟩
  · rcases fst_ok p with ⟨_, k, _⟩ | ⟨k0, k⟩
    · exact k
    · rw [if_neg (by omega), hr] at h2
      simp [splitB, isName] at h2
  · rcases fst_ok p with ⟨_, _, k⟩ | ⟨k0, k⟩
    · exact absurd k hr
    · rw [if_neg (by omega)] at h2
      refine ⟨?_, k⟩
      unfold isPathB
      have := rst_len p
      rw [h2]; simp; omega
def addU (l : List (List UInt8)) (s : List UInt8) : List (List UInt8) := if s ∈ l then l else l ++ [s]
def nmsT (l : List Fil) : List (List UInt8) := l.foldl (fun ns f => addU ns (fstT f.path)) []
def grT (l : List Fil) (n : List UInt8) : List Fil := (l.filter (fun f => fstT f.path == n)).map stp
theorem addU_nodup {l : List (List UInt8)} {s : List UInt8} (h : l.Nodup) : (addU l s).Nodup := by
  unfold addU
  split
  · exact h
  · rename_i hs
    rw [List.nodup_append]
    exact ⟨h, by simp, fun a ha b hb e => hs (by simp at hb; rw [← hb, ← e]; exact ha)⟩
theorem addU_mem {l : List (List UInt8)} {s x : List UInt8} : x ∈ addU l s ↔ x ∈ l ∨ x = s := by
  unfold addU
  split
  · rename_i h; exact ⟨.inl, fun h' => h'.elim id (fun e => e ▸ h)⟩
  · simp
theorem addU_fold_nodup {α : Type} (g : α → List UInt8) : ∀ (l : List α) (a : List (List UInt8)), a.Nodup → (l.foldl (fun ns f => addU ns (g f)) a).Nodup
  | [], _, h => h
  | x :: l, a, h => addU_fold_nodup g l _ (addU_nodup h)
theorem addU_fold_mem {α : Type} (g : α → List UInt8) {x : List UInt8} : ∀ (l : List α) (a : List (List UInt8)), x ∈ l.foldl (fun ns f => addU ns (g f)) a ↔ x ∈ a ∨ ∃ f ∈ l, g f = x
  | [], a => by simp
  | y :: l, a => by
    rw [List.foldl_cons, addU_fold_mem g l, addU_mem]
    constructor
    · rintro ((h | h) | ⟨f, h, e⟩)
      · exact .inl h
      · exact .inr ⟨y, by simp, h.symm⟩
      · exact .inr ⟨f, by simp [h], e⟩
    · rintro (h | ⟨f, h, e⟩)
      · exact .inl (.inl h)
      · rcases List.mem_cons.1 h with rfl | h
        · exact .inl (.inr e.symm)
        · exact .inr ⟨f, h, e⟩
theorem nms_mem {l : List Fil} {n : List UInt8} : n ∈ nmsT l ↔ ∃ f ∈ l, fstT f.path = n := by
  unfold nmsT; rw [addU_fold_mem]; simp
theorem fst_ins {p n : List UInt8} (hn : fstT p = n) : p = n ∨ insT n p = true := by
  rcases fst_ok p with ⟨_, k, _⟩ | ⟨_, k⟩
  · left; rw [← hn, k]
  · right
    unfold insT
    rw [List.isPrefixOf_iff_prefix]
    exact ⟨rstT p, by conv => rhs; rw [k]
                      rw [← hn]; simp⟩
theorem gr_kind {l : List Fil} (h : okT l) (hp : ∀ f ∈ l, isPathB f.path = true) {n : List UInt8} (hn : n ∈ nmsT l) :
    (∃ f ∈ l, f.path = n ∧ rstT f.path = [] ∧ grT l n = [⟨[], f.text, f.run⟩]) ∨ ((∀ f ∈ l, fstT f.path = n → rstT f.path ≠ [] ∧ f.path = n ++ 47 :: rstT f.path ∧ isPathB (rstT f.path) = true) ∧ (∀ f ∈ l, f.path ≠ n) ∧ okT (grT l n)) := by
  have hc : n.count 47 = 0 := by obtain ⟨f, _, rfl⟩ := nms_mem.1 hn; exact fst_no _
  by_cases hex : ∃ f ∈ l, f.path = n
  · obtain ⟨f, hf, e⟩ := hex
    left
    have hfn : fstT f.path = n := by
      rcases fst_ok f.path with ⟨_, k, _⟩ | ⟨k, _⟩
      · rw [k, e]
      · rw [e] at k; omega
    have hr : rstT f.path = [] := by
      rcases fst_ok f.path with ⟨_, _, k⟩ | ⟨k, _⟩
      · exact k
      · rw [e] at k; omega
    refine ⟨f, hf, e, hr, ?_⟩
    obtain ⟨i, hi, rfl⟩ := List.getElem_of_mem hf
    have huniq : ∀ (j : Nat) (hj : j < l.length), fstT l[j].path = n → j = i := by
      intro j hj hjn
      rcases fst_ins hjn with h1 | h1
      · rcases Nat.lt_trichotomy i j with h2 | h2 | h2
        · have := List.pairwise_iff_getElem.1 h.1 i j hi hj h2
          rw [e, h1, bl_irr] at this; cases this
        · exact h2.symm
        · have := List.pairwise_iff_getElem.1 h.1 j i hj hi h2
          rw [e, h1, bl_irr] at this; cases this
      · have := h.2 _ (List.getElem_mem hi) _ (List.getElem_mem hj)
        rw [e, h1] at this; cases this
    have hfil : l.filter (fun f => fstT f.path == n) = [l[i]] := by
      have e1 : l = l.take i ++ l[i] :: l.drop (i + 1) := by rw [List.getElem_cons_drop, List.take_append_drop]
      conv => lhs; rw [e1]
      rw [List.filter_append, List.filter_cons_of_pos (by simpa using hfn)]
      have z1 : (l.take i).filter (fun f => fstT f.path == n) = [] := by
        rw [List.filter_eq_nil_iff]
        intro g hg hgn
        obtain ⟨j, hj, rfl⟩ := List.getElem_of_mem hg
        rw [List.length_take] at hj
        rw [List.getElem_take] at hgn
        have := huniq j (by omega) (by simpa using hgn); omega
      have z2 : (l.drop (i + 1)).filter (fun f => fstT f.path == n) = [] := by
        rw [List.filter_eq_nil_iff]
        intro g hg hgn
        obtain ⟨j, hj, rfl⟩ := List.getElem_of_mem hg
        rw [List.length_drop] at hj
        rw [List.getElem_drop] at hgn
        have := huniq (i + 1 + j) (by omega) (by simpa using hgn); omega
      rw [z1, z2]; rfl
    unfold grT
    rw [hfil, List.map_cons, List.map_nil, stp, hr]
  · right
    have hne : ∀ f ∈ l, f.path ≠ n := fun f hf e => hex ⟨f, hf, e⟩
    have hall : ∀ f ∈ l, fstT f.path = n → rstT f.path ≠ [] ∧ f.path = n ++ 47 :: rstT f.path ∧ isPathB (rstT f.path) = true := by
      intro f hf hfn
      obtain ⟨_, _, k3, k4⟩ := path_fst (hp f hf)
      have hr : rstT f.path ≠ [] := fun h => hne f hf (by rw [← hfn]; exact (k3 h).symm)
      exact ⟨hr, by rw [← hfn]; exact (k4 hr).2, (k4 hr).1⟩
    refine ⟨hall, hne, ?_, ?_⟩
    · unfold grT
      rw [List.pairwise_map]
      refine List.Pairwise.imp_of_mem ?_ (h.1.filter _)
      intro f g hf hg hfg
      obtain ⟨hf1, hf2⟩ := List.mem_filter.1 hf
      obtain ⟨hg1, hg2⟩ := List.mem_filter.1 hg
      rw [(hall f hf1 (by simpa using hf2)).2.1, (hall g hg1 (by simpa using hg2)).2.1] at hfg
      have e : ∀ x : List UInt8, n ++ 47 :: x = (n ++ [47]) ++ x := fun x => by simp
      rw [e (rstT f.path), e (rstT g.path)] at hfg
      show Op.bytesLess (rstT f.path) (rstT g.path) = true
      rw [bl_eq] at hfg ⊢
      simp only [decide_eq_true_eq] at hfg ⊢
      generalize n ++ [47] = q at hfg
      induction q with
      | nil => exact hfg
      | cons c q ih =>
        rw [List.cons_append, List.cons_append, List.cons_lt_cons_iff] at hfg
        exact ih (hfg.elim (fun h => absurd h (UInt8.lt_irrefl _)) (·.2))
    · intro f' hf0 g' hg0
      obtain ⟨f, hf, rfl⟩ := List.mem_map.1 hf0
      obtain ⟨g, hg, rfl⟩ := List.mem_map.1 hg0
      obtain ⟨hf1, hf2⟩ := List.mem_filter.1 hf
      obtain ⟨hg1, hg2⟩ := List.mem_filter.1 hg
      have := h.2 f hf1 g hg1
      rw [(hall f hf1 (by simpa using hf2)).2.1, (hall g hg1 (by simpa using hg2)).2.1] at this
      show insT (rstT f.path) (rstT g.path) = false
      unfold insT at this ⊢
      have e : ∀ x y : List UInt8, (n ++ 47 :: x) ++ y = (n ++ [47]) ++ (x ++ y) := fun x y => by simp
      have e2 : n ++ 47 :: rstT g.path = (n ++ [47]) ++ rstT g.path := by simp
      rw [e, e2] at this
      generalize n ++ [47] = q at this
      induction q with
      | nil => exact this
      | cons c q ih =>
        rw [List.cons_append, List.cons_append, List.isPrefixOf_cons_cons] at this
        simp only [beq_self_eq_true, Bool.true_and] at this
        exact ih this
structure DirOk (d : Nat) (l : List Fil) : Prop where
  len : l.length ≤ 60
  path : ∀ f ∈ l, isPathB f.path = true
  text : ∀ f ∈ l, f.text.length ≤ 100000
  ok : okT l
  dep : ∀ f ∈ l, f.path.length < d
theorem DirOk.of {l : List Fil} (h : chkT l = 0) : DirOk 101 l := by
  unfold chkT at h
  split at h
  · cases h
  rename_i h1
  split at h
  · rename_i h2; exact absurd h h2
  rename_i h2
  have h2 : formT l = 0 := Classical.not_not.1 h2
  split at h
  case isFalse => cases h
  rename_i h3
  refine ⟨by omega, fun f hf => (formT_mem h2 f hf).1, fun f hf => (formT_mem h2 f hf).2, h3, fun f hf => ?_⟩
  have := (path_fst (formT_mem h2 f hf).1).2.1
  omega
theorem DirOk.sub {d : Nat} {l : List Fil} (h : DirOk (d + 1) l) {n : List UInt8} (hn : n ∈ nmsT l) : (∃ f ∈ l, f.path = n ∧ rstT f.path = [] ∧ grT l n = [⟨[], f.text, f.run⟩]) ∨ ((∀ f ∈ grT l n, f.path ≠ []) ∧ DirOk d (grT l n)) := by
  rcases gr_kind h.ok h.path hn with k | ⟨k1, k2, k3⟩
  · exact .inl k
  · refine .inr ⟨fun g hg => ?_, ?_, fun g hg => ?_, fun g hg => ?_, k3, fun g hg => ?_⟩
    · obtain ⟨f, hf, rfl⟩ := List.mem_map.1 hg
      obtain ⟨hf1, hf2⟩ := List.mem_filter.1 hf
      exact (k1 f hf1 (by simpa using hf2)).1
    · unfold grT
      rw [List.length_map]
      exact Nat.le_trans (List.length_filter_le _ _) h.len
    all_goals
      obtain ⟨f, hf, rfl⟩ := List.mem_map.1 hg
      obtain ⟨hf1, hf2⟩ := List.mem_filter.1 hf
      have k := k1 f hf1 (by simpa using hf2)
    · exact k.2.2
    · exact h.text f hf1
    · have h1 := h.dep f hf1
      have h2 := rst_len f.path
      show (rstT f.path).length < d
      have : f.path.length ≠ 0 := fun e => by
        rw [List.length_eq_zero_iff] at e
        rw [e] at k; exact k.1 rfl
      omega
theorem sort_nodup {l : List (List UInt8)} (h : l.Nodup) : (sortT l).Nodup := (sortT_perm l).nodup_iff.2 h
theorem sort_lt {l : List (List UInt8)} (h : l.Nodup) {i j : Nat} (hij : i < j) (hj : j < (sortT l).length) : (sortT l)[i]'(by omega) < (sortT l)[j] := by
  have h1 := List.pairwise_iff_getElem.1 (sortT_pw l) i j (by omega) hj hij
  have h2 := List.pairwise_iff_getElem.1 (sort_nodup h) i j (by omega) hj hij
  rcases Std.lt_trichotomy ((sortT l)[i]'(by omega)) (sortT l)[j] with h | h | h
  · exact h
  · exact absurd h h2
  · exact absurd (List.le_antisymm h1 (List.le_of_lt h)) h2
end Go.Proofs.YtgmakmfdjhgjlaaGreatDoor
end
section
set_option linter.unusedVariables false
set_option linter.unusedSimpArgs false
namespace Go.Ab
open Go
theorem Inv.grown {cx : Cx} {r : Rl} {σ : Heap} {w w' : World} (hi : Inv cx r σ w) (hsame : ∀ b, b < w.heap.size → w'.heap[b]? = w.heap[b]?) (hs : w.heap.size ≤ w'.heap.size) (hos : w'.os = w.os) (hout : w'.output = w.output) (htape : w'.tape = w.tape) :
    Inv cx r σ w' ∧ Ext r σ w r σ w' := by
  have hsize : ∀ (b : Nat) (c : Array Value) (t : TypeId) (f : Nat × Nat), w.heap[b]? = some (Obj.cells c t f) → ∃ (c' : Array Value) (f' : Nat × Nat), w'.heap[b]? = some (Obj.cells c' t f') ∧ c'.size = c.size := by
    intro b c t f h
    have hlt : b < w.heap.size := by
      rcases Nat.lt_or_ge b w.heap.size with h' | h'
      · exact h'
      · simp [Array.getElem?_eq_none h'] at h
    exact ⟨c, f, by rw [hsame b hlt, h], rfl⟩
  have g : Grow r w r w' := ⟨fun _ h => h, fun _ h => h, fun _ _ _ h => h, fun b hb => hsame b (hi.Ilt b hb), hsize⟩
  refine ⟨⟨?_, fun id ver b o h => ?_, hi.inj, hi.imm, fun b hb => Nat.lt_of_lt_of_le (hi.Ilt b hb) hs, hi.SI, hi.glob.mono g hi.SI⟩, ?_⟩
  · intro id ver x hx
    rcases hi.box id ver x hx with ⟨b, o, h1, h2⟩ | h1
    · exact .inl ⟨b, o, h1, h2.mono g (hsame b h2.lt)⟩
    · exact .inr h1
  · obtain ⟨h1, h2⟩ := hi.lt id ver b o h
    exact ⟨h1, Nat.lt_of_lt_of_le h2 hs⟩
  · exact ⟨fun _ h => h, fun _ h => h, fun _ h => .inl h, fun _ h => .inl h, fun _ _ _ h => h, hs, Nat.le_refl _, fun b hb _ => hsame b hb, fun _ h => .inl h, hsize, hos, hout, htape, fun id ver b o h => .inl ⟨ver, o, h⟩⟩
theorem Calc.told {cx : Cx} {f : FuncId} {args : List AV} {res : AV} (he : Enters cx.P f) (hf : Free true res)
    (h : ∀ r w vs, Inv cx r [] w → VRels r w vs args → ∃ v, (∀ w', VRel r w' v res) ∧ Calls cx.P f vs w fun e w' => e = .returned v ∧ ∃ k os, w' = Sort.grow (w.drewN k) os) : Calc cx f args res :=
  calc_of hf ⟨he, fun r w vs hi hv => by
    obtain ⟨v, h1, h2⟩ := h r w vs hi hv
    refine h2.mono fun e w' ⟨he, k, os, hw⟩ => ?_
    subst he; subst hw
    have hsame : ∀ b, b < w.heap.size → (Sort.grow (w.drewN k) os).heap[b]? = w.heap[b]? := fun b hb => by
      show (w.heap ++ os)[b]? = w.heap[b]?
      rw [Array.getElem?_append_left hb]
    obtain ⟨q1, q2⟩ := hi.grown (w' := Sort.grow (w.drewN k) os) hsame (by show w.heap.size ≤ (w.heap ++ os).size; simp) rfl rfl rfl
    exact ⟨.ret res, [], r, ⟨res, rfl, .refl hf⟩, h1 _, q1, q2⟩⟩
theorem Inv.whole {cx : Cx} {r : Rl} {σ : Heap} {w : World} {g : Nat} {vs : Array Value} {name : String} (hi : Inv cx r σ w) (hg : cx.P.globalNamed name = some g) (hx : cx.X g = some vs) : w.var? cx.P name = some vs := by
  obtain ⟨_, t, f, h⟩ := hi.glob.X g vs hx
  unfold World.var?
  rw [hg]
  show (match w.heap[g]? with | some (.cells cs _ _) => some cs | _ => none) = _
  rw [h]
end Go.Ab
end
section
set_option linter.unusedVariables false
set_option linter.unusedSimpArgs false
namespace Go.Ab
open Go
def mapF (ks : List (List UInt8)) (val : List UInt8 → AV) : List (AV × AV) := ks.map fun k => (.str k, val k)
def addK (l : List (List UInt8)) (s : List UInt8) : List (List UInt8) := if s ∈ l then l else l ++ [s]
def updF (val : List UInt8 → AV) (t : List UInt8) (v : AV) : List UInt8 → AV := fun k => if k = t then v else val k
def hitF (ks : List (List UInt8)) (val : List UInt8 → AV) (t : List UInt8) : Option (Nat × AV) := if t ∈ ks then some (ks.idxOf t, val t) else none
theorem mapF_congr {ks : List (List UInt8)} {f g : List UInt8 → AV} (h : ∀ k ∈ ks, f k = g k) : mapF ks f = mapF ks g := by
  unfold mapF
  exact List.map_congr_left fun k hk => by rw [h k hk]
theorem findF (val : List UInt8 → AV) (t : List UInt8) : ∀ (ks : List (List UInt8)) (i : Nat), findK (.str t) (mapF ks val) i = some (if t ∈ ks then some (i + ks.idxOf t, val t) else none)
  | [], i => rfl
  | k :: ks, i => by
    show (match sameK (.str t) (.str k) with
      | some true => some (some (i, val k))
      | some false => findK (.str t) (mapF ks val) (i + 1)
      | none => none) = _
    show (match some (t == k) with
      | some true => some (some (i, val k))
      | some false => findK (.str t) (mapF ks val) (i + 1)
      | none => none) = _
    by_cases h : t = k
    · subst h
      rw [beq_self_eq_true]
      simp [List.idxOf_cons_self]
    · have h1 : (t == k) = false := by simpa using h
      rw [h1]
      show findK (.str t) (mapF ks val) (i + 1) = _
      rw [findF val t ks (i + 1)]
      by_cases hm : t ∈ ks
      · rw [if_pos hm, if_pos (List.mem_cons_of_mem _ hm), List.idxOf_cons, show (k == t) = false by simpa using Ne.symm h]
        show some (some (i + 1 + ks.idxOf t, val t)) = some (some (i + (ks.idxOf t + 1), val t))
        rw [show i + 1 + ks.idxOf t = i + (ks.idxOf t + 1) by omega]
      · rw [if_neg hm, if_neg (by simp [h, hm])]
theorem findF0 (ks : List (List UInt8)) (val : List UInt8 → AV) (t : List UInt8) : findK (.str t) (mapF ks val) 0 = some (hitF ks val t) := by
  rw [findF]; unfold hitF; rw [Nat.zero_add]
theorem setF {ks : List (List UInt8)} (hn : ks.Nodup) (val : List UInt8 → AV) (t : List UInt8) (v : AV) : setK (mapF ks val) (.str t) v (hitF ks val t) = mapF (addK ks t) (updF val t v) := by
  unfold hitF addK
  by_cases hm : t ∈ ks
  · rw [if_pos hm, if_pos hm]
    show (mapF ks val).set (ks.idxOf t) (.str t, v) = _
    have hlt : ks.idxOf t < ks.length := List.idxOf_lt_length_of_mem hm
    have hat : ks[ks.idxOf t] = t := List.getElem_idxOf hlt
    unfold mapF
    apply List.ext_getElem
    · simp
    · intro i h1 h2
      have hi : i < ks.length := by simpa using h1
      rw [List.getElem_set, List.getElem_map, List.getElem_map]
      by_cases hi2 : ks.idxOf t = i
      · subst hi2
        rw [if_pos rfl, hat]; unfold updF; rw [if_pos rfl]
      · rw [if_neg hi2]
        unfold updF
        rw [if_neg]
        intro e
        exact hi2 ((List.getElem_inj hn).1 (hat.trans e.symm))
  · rw [if_neg hm, if_neg hm]
    show mapF ks val ++ [(.str t, v)] = _
    unfold mapF
    rw [List.map_append]
    congr 1
    · exact List.map_congr_left fun k hk => by unfold updF; rw [if_neg (fun e : k = t => hm (e ▸ hk))]
    · simp [updF]
def mapBx (ks : List (List UInt8)) (val : List UInt8 → AV) : Option Box := some (.map (mapF ks val) none)
section
variable {cx : Cx} {n : Nat} {B : Bs} {k : List AI} {Q : Post} {fr : Fr} {σ : Heap}
theorem pan (f : Nat) {k k' : List AI} {fr fr' : Fr} {σ σ' : Heap} {C : List Prop} (hs : List Ht) {hs' : List Ht} (h : runP cx [] n f [] hs k fr σ = ⟨C, k', fr', σ', hs'⟩) (hC : AllP C)
    (hk : S cx n B k' Q fr' σ') : S cx n B k Q fr σ := by
  have hg := runP_sound (M := []) (cx := cx) (n := n) (B := B) (Q := Q) f [] hs k fr σ
  rw [h] at hg
  exact (hg hC).2 hk
theorem OpSpec.mget {o : Oper} {t kt et : TypeId} {m key : Operand} {ok : Bool} {id ver : Nat} {ks : List (List UInt8)} {val : List UInt8 → AV} {z : AV} {s : List UInt8} (ho : o.op = .lookup t m key ok) (ht : cx.P.underlying t = some (.map kt et)) (hk : keyFits cx.P kt (.str s) = true)
    (hm : ev cx fr m = .map id ver) (hkey : ev cx fr key = .str s) (hσ : σ[id]? = some (ver, mapBx ks val)) (hz : zeroV cx.P et = some z) {v : AV} (hv : okV ok (if s ∈ ks then val s else z) (decide (s ∈ ks)) = v) :
    OpSpec cx n fr σ o v σ := by
  subst hv
  have hf := findF0 ks val s
  by_cases h : s ∈ ks
  · have hh : hitF ks val s = some (ks.idxOf s, val s) := if_pos h
    refine OpSpec.map (hitF ks val s) (C := [ver = ver, findK (ev cx fr key) (mapF ks val) 0 = some (hitF ks val s)]) ?_ ⟨rfl, by rw [hkey]; exact hf, trivial⟩
    rw [ho, mapA, ht, hkey]
    simp only [hk, hm, hσ, mapBx, hh]
    rw [if_pos h, decide_eq_true h]
  · have hh : hitF ks val s = none := if_neg h
    refine OpSpec.map (hitF ks val s) (C := [ver = ver, findK (ev cx fr key) (mapF ks val) 0 = some (hitF ks val s)]) ?_ ⟨rfl, by rw [hkey]; exact hf, trivial⟩
    rw [ho, mapA, ht, hkey]
    simp only [hk, hm, hσ, mapBx, hh, hz]
    rw [if_neg h, decide_eq_false h]
theorem OpSpec.mput {o : Oper} {t kt et : TypeId} {m key x : Operand} {id ver : Nat} {ks : List (List UInt8)} {val : List UInt8 → AV} {s : List UInt8} {v : AV} (ho : o.op = .mapUpdate t m key x) (ht : cx.P.underlying t = some (.map kt et)) (hk : keyFits cx.P kt (.str s) = true)
    (hm : ev cx fr m = .map id ver) (hkey : ev cx fr key = .str s) (hx : ev cx fr x = v) (hσ : σ[id]? = some (ver, mapBx ks val)) (hn : ks.Nodup) {σ' : Heap} (hσ' : σ.set id (ver, mapBx (addK ks s) (updF val s v)) = σ') :
    OpSpec cx n fr σ o (.tup []) σ' := by
  subst hσ'
  have hf := findF0 ks val s
  refine OpSpec.map (hitF ks val s) (C := [ver = ver, findK (ev cx fr key) (mapF ks val) 0 = some (hitF ks val s)]) ?_ ⟨rfl, by rw [hkey]; exact hf, trivial⟩
  rw [ho, mapA, ht, hkey, hx]
  simp only [hk, hm, hσ, mapBx, setF hn]
  have hb : setB none (hitF ks val s) = none := by cases hitF ks val s <;> rfl
  rw [hb]
theorem OpSpec.append0 {o : Oper} {s x : Operand} {t u : TypeId} {e sz by_ : Nat} {st fl st' fl' : Bool} {xs : List AV} (ho : o.op = .call { callee := .builtin .append, args := #[s, x], argTypes := #[t, u] }) (hel : elemInfo cx.P t = some (e, sz, by_)) (hnt : notInt cx.P u = true)
    (hs : ev cx fr s = .sl st fl sz xs) (hx : ev cx fr x = .sl st' fl' sz []) : OpSpec cx n fr σ o (.sl st fl sz xs) σ := by
  intro r ac w hi hf
  have h1 := ev_rel hi hf s
  have h2 := ev_rel hi hf x
  rw [hs] at h1
  rw [hx] at h2
  obtain ⟨dst, op, ty, pos, after, guard⟩ := o
  simp only at ho
  subst ho
  obtain ⟨i, z, hu, hinfo, hz, hz1, hz2, hz3⟩ := elemInfo_some hel
  obtain ⟨d, hd, hdk⟩ := notInt_some hnt
  obtain ⟨bs, hbs⟩ := run_len_call cx.P w ac.eval .append #[s, x] #[t, u] dst ty pos after guard
  have key : ∀ (a b : Value), VRel r w a (.sl st fl sz xs) → VRel r w b (.sl st' fl' sz []) → (Builtin.append_ #[t, u] ty #[a, b]).run cx.P w = .ok a w := by
    intro a b ha hb
    have hsrc : aSrc sz (.sl st' fl' sz []) σ = some ([sz = sz, ∀ y ∈ flatA sz [], y.one = true], 0, flatA sz []) := rfl
    have hfn : flatA sz ([] : List AV) = [] := by unfold flatA; split <;> rfl
    obtain ⟨hl1, hl2, news, hl3, hl4⟩ := aSrc_run hi hsrc ⟨rfl, by (rw [hfn]; exact ⟨(fun y hy => by cases hy), trivial⟩)⟩ hb
    have hnews : news = [] := List.eq_nil_of_length_eq_zero (by rw [hl3.1, hl2]; omega)
    subst hnews
    cases a with
    | slice p n' cap =>
      obtain ⟨q1, q2, _, _⟩ := sl_cells ha
      exact run_append_room' (P := cx.P) (w := w) (ty := ty) (base := p) (sLen := n') (sCap := cap) hu hd hdk hinfo hz2 hl1 hl4 (by omega) (w2 := w) (stO_nil _ _ _ _)
    | _ => cases ha
  refine ⟨r, w, ac.eval s, .inl ?_, h1, hi, Ext.refl _ _ _⟩
  rw [hbs]
  simp only [builtin, List.map_toArray, List.map_cons, List.map_nil]
  exact exec_v (key _ _ h1 h2)
end
theorem Calc.weak {cx : Cx} {f : FuncId} {args : List AV} {res res' : AV} (h : Calc cx f args res) (hf : Free true res') (hw : ∀ r w v, VRel r w v res → VRel r w v res') : Calc cx f args res' := by
  refine ⟨hf, h.call.1, fun r w vs hi hv => (h.call.2 r w vs hi hv).mono fun e w' ⟨out, σ', r', ⟨ho, hσ⟩, hor, hi', hx'⟩ => ?_⟩
  subst ho
  cases e with
  | returned u => exact ⟨.ret res', σ', r', ⟨rfl, hσ⟩, hw _ _ _ hor, hi', hx'⟩
  | panicked chain => exact hor.elim
  | outgrown => exact hor.elim
end Go.Ab
end
section
set_option linter.unusedVariables false
set_option linter.unusedSimpArgs false
namespace Go.Ab
open Go
theorem putAll_pre {σ τ es : Heap} {n : Nat} (hn : σ.length = n) (he : es.length = n) : putAll (σ ++ τ) (List.range n) es = es ++ τ := by
  have hl : (putAll (σ ++ τ) (List.range n) es).length = (es ++ τ).length := by
    rw [putAll_length _ _ _ (by simp; omega)]; simp; omega
  refine List.ext_getElem? fun i => ?_
  rcases Nat.lt_or_ge i n with h | h
  · rw [putAll_at (List.range n) es (σ ++ τ) i i List.nodup_range (fun j hj => by rw [List.mem_range] at hj; simp; omega) (by simp; omega) (by rw [List.getElem?_append_left (by simpa using h)]; simp [h]), List.getElem?_append_left (by omega)]
  · rcases Nat.lt_or_ge i (σ ++ τ).length with h2 | h2
    · rw [putAll_other _ _ _ i h2 (by simp; omega), List.getElem?_append_right (by omega), List.getElem?_append_right (by omega), hn, he]
    · rw [List.getElem?_eq_none (by rw [hl]; simp at h2 ⊢; omega), List.getElem?_eq_none (by simp at h2 ⊢; omega)]
def RnO (ids : List Nat) : Out → Prop
  | .ret v => Rn ids v v
  | .panic v => Rn ids v v
theorem CallOk.pre {cx : Cx} {f : FuncId} {args : List AV} {σ : Heap} {R : Out → Heap → Prop} (n : Nat) (τ : Heap) (h : CallOk cx f args σ R) (hn : σ.length = n) (ha : Rns (List.range n) args args) (hs : RnH (List.range n) σ σ)
    (hR : ∀ o s, R o s → s.length = n ∧ RnH (List.range n) s s ∧ RnO (List.range n) o) : CallOk cx f args (σ ++ τ) (fun o s => ∃ s0, s = s0 ++ τ ∧ R o s0) := by
  have hp : Part (List.range n) σ (σ ++ τ) := by
    refine ⟨List.nodup_range, fun j hj => by rw [List.mem_range] at hj; simp; omega, by simp [hn], fun i j e hi he => ?_⟩
    have hil : i < σ.length := by
      rcases Nat.lt_or_ge i σ.length with h' | h'
      · exact h'
      · rw [List.getElem?_eq_none h'] at he; cases he
    have : j = i := by
      rw [List.getElem?_range (by omega)] at hi; exact (Option.some.inj hi).symm
    subst this
    refine ⟨e, by rw [List.getElem?_append_left hil]; exact he, ?_⟩
    have h1 := hs.2 j hil hil
    rw [List.getElem?_eq_getElem hil] at he
    rw [Option.some.inj he] at h1; exact h1
  refine ⟨h.1, fun r w vs hi hv => ?_⟩
  have hsub := frame_down hi hp
  have hvs : VRels (r.sub (List.range n)) w vs args := by
    refine ⟨hv.1, fun i hi' => ?_⟩
    refine (ha.2 i hi' hi').down (r := r) (r' := r.sub (List.range n)) (fun _ h => h) (fun _ h => h) hi.SI (fun i j ver p h1 h2 => ?_) (hv.2 i hi')
    simp only [Rl.sub, h1]; exact h2
  refine (h.2 _ w vs hsub hvs).mono fun e w' ⟨out, σ1, r1, hRo, ho, hi1, hx1⟩ => ?_
  obtain ⟨k1, k2, k3⟩ := hR _ _ hRo
  have hids : List.range n = List.range n ++ newIds (σ ++ τ).length (σ1.length - (List.range n).length) := by
    rw [List.length_range, k1, Nat.sub_self]; simp [newIds]
  obtain ⟨q1, q2, q3⟩ := frame_up hi hp hi1 hx1 hids k2
  rw [putAll_pre hn k1] at q1 q2
  cases e <;> cases out <;> first | exact ho.elim | skip
  · exact ⟨_, _, _, ⟨σ1, rfl, hRo⟩, q3 _ _ _ k3 ho, q1, q2⟩
  · obtain ⟨u, hu1, hu2⟩ := ho
    exact ⟨_, _, _, ⟨σ1, rfl, hRo⟩, ⟨u, hu1, q3 _ _ _ k3 hu2⟩, q1, q2⟩
theorem CallOk.pre1 {cx : Cx} {f : FuncId} {args : List AV} {σ σ' : Heap} {x : AV} (n : Nat) (τ : Heap) (h : CallOk cx f args σ (fun e s => e = .ret x ∧ s = σ')) (hn : σ.length = n) (hn' : σ'.length = n) (ha : Rns (List.range n) args args) (hs : RnH (List.range n) σ σ)
    (hs' : RnH (List.range n) σ' σ') (hx : Rn (List.range n) x x) : CallOk cx f args (σ ++ τ) (fun e s => e = .ret x ∧ s = σ' ++ τ) :=
  (h.pre n τ hn ha hs (fun o s h => by obtain ⟨rfl, rfl⟩ := h; exact ⟨hn', hs', hx⟩)).mono fun o s ⟨s0, h1, h2, h3⟩ => ⟨h2, by rw [h1, h3]⟩
theorem putAll_mid {τ σ τ' es : Heap} {k n : Nat} (hk : τ.length = k) (hn : σ.length = n) (he : es.length = n) : putAll (τ ++ (σ ++ τ')) (List.range' k n) es = τ ++ (es ++ τ') := by
  have hl : (putAll (τ ++ (σ ++ τ')) (List.range' k n) es).length = (τ ++ (es ++ τ')).length := by
    rw [putAll_length _ _ _ (by simp; omega)]; simp; omega
  refine List.ext_getElem? fun i => ?_
  by_cases hm : k ≤ i ∧ i < k + n
  · obtain ⟨h1, h2⟩ := hm
    have e1 : (List.range' k n ++ newIds (τ ++ (σ ++ τ')).length (es.length - (List.range' k n).length))[i - k]? = some i := by
      rw [List.getElem?_append_left (by simp; omega), List.getElem?_range' (by omega)]
      congr 1; omega
    rw [putAll_at (List.range' k n) es (τ ++ (σ ++ τ')) (i - k) i List.nodup_range' (fun j hj => by rw [List.mem_range'_1] at hj; simp; omega) (by simp; omega) e1, List.getElem?_append_right (by omega), hk, List.getElem?_append_left (by omega)]
  · rcases Nat.lt_or_ge i (τ ++ (σ ++ τ')).length with h2 | h2
    · rw [putAll_other _ _ _ i h2 (by rw [List.mem_range'_1]; omega)]
      rcases Nat.lt_or_ge i k with h3 | h3
      · rw [List.getElem?_append_left (by omega), List.getElem?_append_left (by omega)]
      · rw [List.getElem?_append_right (by omega), List.getElem?_append_right (by omega), List.getElem?_append_right (by omega), List.getElem?_append_right (by omega), hn, he]
    · rw [List.getElem?_eq_none (by rw [hl]; simp at h2 ⊢; omega), List.getElem?_eq_none (by simp at h2 ⊢; omega)]
theorem CallOk.mid {cx : Cx} {f : FuncId} {args args' : List AV} {σ σ' σ2 σ2' : Heap} {x x' : AV} (k n : Nat) (τ τ' : Heap) (h : CallOk cx f args σ (fun e s => e = .ret x ∧ s = σ')) (hk : τ.length = k) (hn : σ.length = n) (hn' : σ'.length = n)
    (ha : Rns (List.range' k n) args args') (hs : RnH (List.range' k n) σ σ2) (hs' : RnH (List.range' k n) σ' σ2') (hx : Rn (List.range' k n) x x') : CallOk cx f args' (τ ++ (σ2 ++ τ')) (fun e s => e = .ret x' ∧ s = τ ++ (σ2' ++ τ')) := by
  have hn2 : σ2.length = n := hs.1.symm.trans hn
  have hn2' : σ2'.length = n := hs'.1.symm.trans hn'
  have hp : Part (List.range' k n) σ (τ ++ (σ2 ++ τ')) := by
    refine ⟨List.nodup_range', fun j hj => by rw [List.mem_range'_1] at hj; simp; omega, by simp [hn], fun i j e hi he => ?_⟩
    have hil : i < σ.length := by
      rcases Nat.lt_or_ge i σ.length with h' | h'
      · exact h'
      · rw [List.getElem?_eq_none h'] at he; cases he
    have : j = k + i := by
      rw [List.getElem?_range' (by omega)] at hi; have := Option.some.inj hi; omega
    subst this
    have hil2 : i < σ2.length := by omega
    refine ⟨σ2[i], by rw [List.getElem?_append_right (by omega), List.getElem?_append_left (by omega), hk, Nat.add_sub_cancel_left, List.getElem?_eq_getElem hil2], ?_⟩
    have h1 := hs.2 i hil hil2
    rw [List.getElem?_eq_getElem hil] at he
    rw [Option.some.inj he] at h1; exact h1
  refine ⟨h.1, fun r w vs hi hv => ?_⟩
  have hsub := frame_down hi hp
  have hvs : VRels (r.sub (List.range' k n)) w vs args := by
    refine ⟨hv.1.trans ha.1.symm, fun i hi' => ?_⟩
    refine (ha.2 i hi' (by rw [← ha.1]; exact hi')).down (r := r) (r' := r.sub (List.range' k n)) (fun _ h => h) (fun _ h => h) hi.SI (fun i j ver p h1 h2 => ?_) (hv.2 i (by rw [← ha.1]; exact hi'))
    simp only [Rl.sub, h1]; exact h2
  refine (h.2 _ w vs hsub hvs).mono fun e w' ⟨out, σ1, r1, hRo, ho, hi1, hx1⟩ => ?_
  obtain ⟨rfl, rfl⟩ := hRo
  have hids : List.range' k n = List.range' k n ++ newIds (τ ++ (σ2 ++ τ')).length (σ2'.length - (List.range' k n).length) := by
    rw [List.length_range', hn2', Nat.sub_self]; simp [newIds]
  obtain ⟨q1, q2, q3⟩ := frame_up hi hp hi1 hx1 hids hs'
  rw [putAll_mid hk hn2 hn2'] at q1 q2
  cases e with
  | returned u => exact ⟨.ret x', _, _, ⟨rfl, rfl⟩, q3 _ _ _ hx ho, q1, q2⟩
  | panicked chain => exact ho.elim
  | outgrown => exact ho.elim
end Go.Ab
end
section
set_option linter.unusedVariables false
set_option linter.unusedSimpArgs false
set_option maxRecDepth 20000
set_option maxHeartbeats 4000000
namespace Go.Proofs.YtgmakmfdjhgjlaaGreatDoor
open Go Go.Ab
def celsF (g : List Fil) : List AV := (fils g).flatMap AV.cells
theorem cels_len (g : List Fil) : (celsF g).length = g.length * 3 := by
  unfold celsF fils
  induction g with
  | nil => rfl
  | cons f g ih => rw [List.map_cons, List.flatMap_cons, List.length_append, ih, List.length_cons]; show 3 + _ = _; omega
theorem cels_one (g : List Fil) : ∀ x ∈ celsF g, x.one = true := by
  intro x hx
  obtain ⟨y, hy, hx⟩ := List.mem_flatMap.1 hx
  obtain ⟨f, _, rfl⟩ := List.mem_map.1 hy
  have hx : x ∈ [AV.str f.path, .str f.text, .bool f.run] := hx
  simp at hx; rcases hx with rfl | rfl | rfl <;> rfl
theorem fil_size (g : List Fil) : ∀ x ∈ fils g, x.cells.length = 3 := by
  intro x hx
  obtain ⟨f, _, rfl⟩ := List.mem_map.1 hx
  rfl
section
variable {n : Nat} {B : Bs} {k : List AI} {Q : Post} {fr : Fr} {σ : Heap}
end
end Go.Proofs.YtgmakmfdjhgjlaaGreatDoor
end
section
set_option linter.unusedVariables false
set_option linter.unusedSimpArgs false
set_option maxRecDepth 20000
set_option maxHeartbeats 4000000
namespace Go.Proofs.YtgmakmfdjhgjlaaGreatDoor
open Go Go.Ab
theorem chk_bne (n : Nat) : (((n : Int)) != 0) = (n != 0) := by
  cases n with
  | zero => rfl
  | succ n => simp; omega
end Go.Proofs.YtgmakmfdjhgjlaaGreatDoor
end
section
set_option linter.unusedVariables false
set_option linter.unusedSimpArgs false
set_option maxRecDepth 20000
set_option maxHeartbeats 4000000
namespace Go.Proofs.YtgmakmfdjhgjlaaGreatDoor
open Go Go.Ab
theorem cels_free {st : Bool} (g : List Fil) : ∀ x ∈ celsF g, Free st x := by
  intro x hx
  obtain ⟨y, hy, hx⟩ := List.mem_flatMap.1 hx
  obtain ⟨f, _, rfl⟩ := List.mem_map.1 hy
  have hx : x ∈ [AV.str f.path, .str f.text, .bool f.run] := hx
  simp at hx; rcases hx with rfl | rfl | rfl
  · exact .str
  · exact .str
  · exact .bool
end Go.Proofs.YtgmakmfdjhgjlaaGreatDoor
end
section
set_option linter.unusedVariables false
set_option linter.unusedSimpArgs false
namespace Go.Ab
open Go Go.WideShapes
def laidB (P : Program) : List Field → Nat → Option Nat
  | [], o => some o
  | f :: r, o => match Nat.beq f.offset o with
    | true => laidB P r (o + P.cellsOf f.type)
    | false => none
mutual
def plainB (P : Program) : Nat → TypeId → Bool
  | 0, _ => false
  | n + 1, t => match P.underlying t with
    | some .bool => Nat.beq (P.cellsOf t) 1
    | some (.int _) => Nat.beq (P.cellsOf t) 1
    | some .string => Nat.beq (P.cellsOf t) 1
    | some (.slice e) => match Nat.beq (P.cellsOf t) 1, Nat.beq (P.cellsOf e) 0 with
      | true, false => plainB P n e
      | _, _ => false
    | some (.struct fs) => match laidB P fs.toList 0 with
      | some m => match Nat.beq (P.cellsOf t) m with
        | true => plainAll P n fs.toList
        | false => false
      | none => false
    | _ => false
def plainAll (P : Program) : Nat → List Field → Bool
  | 0, _ => false
  | n + 1, fs => match fs with
    | [] => true
    | f :: r => match plainB P n f.type with
      | true => plainAll P n r
      | false => false
end
inductive RdD (P : Program) {H : Type} : TypeId → DataW H → AV → Prop
  | bool {t b} (ht : P.underlying t = some .bool) : RdD P t (.lit (.bool b)) (.bool b)
  | int {t k n} (ht : P.underlying t = some (.int k)) (hw : (Lit.int k n).wf = true) : RdD P t (.lit (.int k n)) (.int k n)
  | str {t s} (ht : P.underlying t = some .string) (hs : s.length ≤ maxLen) : RdD P t (.lit (.string s)) (.str s)
  | nils {t e} (ht : P.underlying t = some (.slice e)) : RdD P t .nil (.sl true false (P.cellsOf e) [])
  | sl {t e} {ds rest : List (DataW H)} {xs : List AV} (ht : P.underlying t = some (.slice e)) (hl : xs.length = ds.length) (hm : xs.length ≤ maxLen) (h : ∀ i (h1 : i < ds.length) (h2 : i < xs.length), RdD P e ds[i] xs[i]) : RdD P t (.slice ds rest) (.sl true false (P.cellsOf e) xs)
  | st {t} {fs : Array Field} {ds : List (DataW H)} {xs : List AV} (ht : P.underlying t = some (.struct fs)) (hd : ds.length = fs.size) (hx : xs.length = fs.size) (h : ∀ i (h1 : i < ds.length) (h2 : i < xs.length) (h3 : i < fs.size), RdD P fs[i].type ds[i] xs[i]) : RdD P t (.agg ds) (.agg (xs.flatMap AV.cells))
def CellsV (w : World) (cs : List Value) (az : List AV) : Prop := cs.length = az.length ∧ ∀ i (h1 : i < cs.length) (h2 : i < az.length), VRel (Rl.old w) w cs[i] az[i]
theorem CellsV.one {w : World} {v : Value} {a : AV} (h : VRel (Rl.old w) w v a) : CellsV w [v] [a] := by
  refine ⟨rfl, fun i h1 h2 => ?_⟩
  obtain rfl : i = 0 := by simpa using h1
  exact h
theorem laidB_flat {P : Program} : ∀ (fs : List Field) (o m : Nat) (w : World) (cs : List Value) (xs : List AV), laidB P fs o = some m → xs.length = fs.length → (∀ i (h1 : i < fs.length) (h2 : i < xs.length), CellsV w ((cs.drop fs[i].offset).take (P.cellsOf fs[i].type)) xs[i].cells ∧ xs[i].cells.length = P.cellsOf fs[i].type) →
    cs.length = m → o ≤ m ∧ CellsV w (cs.drop o) (xs.flatMap AV.cells)
  | [], o, m, w, cs, xs, h, hl, hc, hm => by
    simp only [laidB, Option.some.injEq] at h
    obtain rfl : xs = [] := List.eq_nil_of_length_eq_zero hl
    subst h
    refine ⟨Nat.le_refl _, ?_⟩
    rw [List.drop_of_length_le (by omega)]
    exact ⟨rfl, fun i h => absurd h (by simp)⟩
  | f :: r, o, m, w, cs, xs, h, hl, hc, hm => by
    rw [laidB] at h
    split at h
    case h_2 => cases h
    rename_i hb
    have ho := Nat.eq_of_beq_eq_true hb
    obtain ⟨x, xs, rfl⟩ : ∃ x xs', xs = x :: xs' := by
      cases xs with
      | nil => simp at hl
      | cons x xs => exact ⟨x, xs, rfl⟩
    have h0 := hc 0 (by simp) (by simp)
    simp only [List.getElem_cons_zero] at h0
    obtain ⟨h1, h2⟩ := laidB_flat r (o + P.cellsOf f.type) m w cs xs h (by simpa using hl) (fun i k1 k2 => hc (i + 1) (Nat.succ_lt_succ k1) (Nat.succ_lt_succ k2)) hm
    refine ⟨by omega, ?_⟩
    obtain ⟨⟨e1, e2⟩, e3⟩ := h0
    rw [ho] at e1 e2
    rw [List.flatMap_cons]
    have hsplit : cs.drop o = (cs.drop o).take (P.cellsOf f.type) ++ cs.drop (o + P.cellsOf f.type) := by
      rw [← List.drop_drop, List.take_append_drop]
    rw [hsplit]
    refine ⟨by rw [List.length_append, List.length_append, e1, h2.1], fun i k1 k2 => ?_⟩
    by_cases hi : i < x.cells.length
    · rw [List.getElem_append_left (by omega), List.getElem_append_left hi]
      exact e2 i (by omega) hi
    · rw [List.getElem_append_right (by omega), List.getElem_append_right (by omega)]
      have : i - ((cs.drop o).take (P.cellsOf f.type)).length = i - x.cells.length := by omega
      simp only [this]
      exact h2.2 _ _ _
theorem read_cells {H : Type} {enc : TypeId × Value → H} {P : Program} {W : World} : ∀ (fuel n : Nat) (t : TypeId) (cs : List Value) (d : DataW H) (ps : List MemPlace), DataW.trod enc P W 0 (fun _ => true) true fuel t cs = some (d, ps) → plainB P n t = true →
    ∃ a, RdD P t d a ∧ a.cells.length = P.cellsOf t ∧ CellsV W cs a.cells ∧ (∀ v, (∃ xs, v = .agg xs ∧ xs.toList = cs ∧ aggT P t = some true) ∨ ([v] = cs ∧ aggT P t = some false) → VRel (Rl.old W) W v a) := by
  intro fuel
  induction fuel with
  | zero => intro n t cs d ps h _; simp [DataW.trod] at h
  | succ fuel ih =>
    intro n t cs d ps h hp
    have hall : ∀ (n : Nat) (fs : List Field), plainAll P n fs = true → ∀ i (hi : i < fs.length), ∃ m, plainB P m fs[i].type = true := by
      intro n
      induction n with
      | zero => intro fs h; simp [plainAll] at h
      | succ n ihn =>
        intro fs h i hi
        cases fs with
        | nil => simp at hi
        | cons f r =>
          rw [plainAll] at h
          split at h
          · rename_i hb
            cases i with
            | zero => exact ⟨n, hb⟩
            | succ i => exact ihn r h i (by simpa using hi)
          · cases h
    cases n with
    | zero => simp [plainB] at hp
    | succ n =>
      rw [plainB] at hp
      split at hp
      ·
        rename_i ht
        obtain ⟨b, rfl, hx⟩ := DataW.trod_bool ht h
        cases hx
        refine ⟨.bool b, .bool ht, (Nat.eq_of_beq_eq_true hp).symm, .one .bool, ?_⟩
        rintro v (⟨xs, rfl, h1, h2⟩ | ⟨h1, h2⟩)
        · simp [aggT, ht] at h2
        · cases h1; exact .bool
      · rename_i k ht
        obtain ⟨m, rfl, hx, hw⟩ := DataW.trod_int ht h
        cases hx
        refine ⟨.int _ m, .int ht hw, (Nat.eq_of_beq_eq_true hp).symm, .one .int, ?_⟩
        rintro v (⟨xs, rfl, h1, h2⟩ | ⟨h1, h2⟩)
        · simp [aggT, ht] at h2
        · cases h1; exact .int
      · rename_i ht
        obtain ⟨s, rfl, hx, hw⟩ := DataW.trod_string ht h
        cases hx
        refine ⟨.str s.data.toList, .str ht (by rw [Array.length_toList]; exact hw), (Nat.eq_of_beq_eq_true hp).symm, .one (.str rfl), ?_⟩
        rintro v (⟨xs, rfl, h1, h2⟩ | ⟨h1, h2⟩)
        · simp [aggT, ht] at h2
        · cases h1; exact .str rfl
      ·
        rename_i e ht
        split at hp
        case h_2 => cases hp
        rename_i hc1 hc0
        have hc1 := Nat.eq_of_beq_eq_true hc1
        have hpos : 0 < P.cellsOf e := by
          rcases Nat.eq_zero_or_pos (P.cellsOf e) with h0 | h0
          · rw [h0] at hc0; cases hc0
          · exact h0
        rcases DataW.trod_slice ht h with ⟨rfl, hx⟩ | ⟨a, len, cap, elems, rest, fu, hfu, rfl, hx, _, hl, hm, hlen, hel, hsp, hns⟩
        · cases hx
          refine ⟨_, .nils ht, hc1.symm, .one (.sl0 (fun h => by cases h)), ?_⟩
          rintro v (⟨xs, rfl, h1, h2⟩ | ⟨h1, h2⟩)
          · simp [aggT, ht] at h2
          · cases h1; exact .sl0 (fun h => by cases h)
        · cases hx
          obtain rfl : fuel = fu := by omega
          have each : ∀ i (hi : i < elems.length), ∃ x, RdD P e (elems[i]).1 x ∧ x.cells.length = P.cellsOf e ∧ ∃ ecs : List Value, W.cells? 0 (a.add (i * P.cellsOf e)) (P.cellsOf e) = some ecs ∧ CellsV W ecs x.cells := by
            intro i hi
            have h1 := hel i (by omega)
            rw [List.getElem?_eq_getElem hi, Option.bind_eq_some_iff] at h1
            obtain ⟨ecs, h2, h3⟩ := h1
            obtain ⟨x, k1, k2, k3, _⟩ := ih n e ecs (elems[i]).1 (elems[i]).2 h3 hp
            exact ⟨x, k1, k2, ecs, h2, k3⟩
          have : ∃ xs : List AV, xs.length = elems.length ∧ ∀ i (hi : i < elems.length) (hx : i < xs.length), RdD P e (elems[i]).1 xs[i] ∧ xs[i].cells.length = P.cellsOf e ∧ ∃ ecs : List Value, W.cells? 0 (a.add (i * P.cellsOf e)) (P.cellsOf e) = some ecs ∧ CellsV W ecs xs[i].cells := by
            refine ⟨(List.finRange elems.length).map fun i => Classical.choose (each i.1 i.2), by simp, fun i hi hx => ?_⟩
            simp only [List.getElem_map, List.getElem_finRange]
            exact Classical.choose_spec (each i hi)
          obtain ⟨xs, hxl, hxs⟩ := this
          have hv : VRel (Rl.old W) W (.slice (some a) len cap) (.sl true false (P.cellsOf e) xs) := by
            rcases Nat.eq_zero_or_pos len with h0 | h0
            · subst h0
              obtain rfl : xs = [] := List.eq_nil_of_length_eq_zero (by omega)
              exact .sl0 (fun h => by cases h)
            · obtain ⟨b, o, sp⟩ := a
              obtain ⟨_, _, ecs0, hc, _⟩ := hxs 0 (by omega) (by omega)
              obtain ⟨_, hcl, hcc⟩ := World.cells?_some hc
              have hcell0 := hcc 0 hpos
              rw [List.getElem?_eq_getElem (by omega)] at hcell0
              have hsp : sp = none := by
                cases sp with
                | none => rfl
                | some s =>
                  simp [Addr.add, World.cell?] at hcell0
                  split at hcell0 <;> cases hcell0
              subst hsp
              have hb : b < W.heap.size := by
                rw [Addr.add_lit] at hcell0
                rcases Nat.lt_or_ge b W.heap.size with h | h
                · exact h
                · simp [World.cell?, Addr.add, Array.getElem?_eq_none h] at hcell0
              have hcel : ∀ i, i < xs.length → ∀ j, j < P.cellsOf e → ∃ v, W.cell? ⟨b, o + i * P.cellsOf e + j, none⟩ = some v ∧ ∀ (hi : i < xs.length) (hj : j < (AV.cells xs[i]).length), VRel (Rl.old W) W v (AV.cells xs[i])[j] := by
                intro i hi j hj
                obtain ⟨_, hxc, ecs, hc, hcv⟩ := hxs i (by omega) hi
                obtain ⟨_, hcl, hcc⟩ := World.cells?_some hc
                have h1 := hcc j hj
                rw [List.getElem?_eq_getElem (by omega)] at h1
                rw [Addr.add_lit, Addr.add_lit] at h1
                refine ⟨ecs[j], h1, fun _ hj' => hcv.2 j _ hj'⟩
              refine .sl (by omega) hl (fun h => by cases h) hb (fun _ => hb) (fun x hx => ?_) (fun i j => (W.cell? ⟨b, o + i * P.cellsOf e + j, none⟩).getD undef) (fun i hi j hj => ?_) (fun i hi j hj => ?_)
              · obtain ⟨i, hi, rfl⟩ := List.getElem_of_mem hx
                exact (hxs i (by omega) hi).2.1
              · obtain ⟨v, h1, _⟩ := hcel i hi j hj
                rw [h1]; rfl
              · obtain ⟨v, h1, h2⟩ := hcel i hi j (by rw [(hxs i (by omega) hi).2.1] at hj; exact hj)
                rw [h1]
                exact h2 hi hj
          refine ⟨.sl true false (P.cellsOf e) xs, .sl ht (by simp [hxl]) (by omega) (fun i h1 h2 => by simpa using (hxs i (by simpa using h1) h2).1), hc1.symm, .one hv, ?_⟩
          rintro v (⟨ys, rfl, h1, h2⟩ | ⟨h1, h2⟩)
          · simp [aggT, ht] at h2
          · cases h1; exact hv
      ·
        rename_i fs ht
        split at hp
        case h_2 => cases hp
        rename_i m hm
        split at hp
        case h_2 => cases hp
        rename_i hcm
        have hcm := Nat.eq_of_beq_eq_true hcm
        obtain ⟨ys, fu, hfu, hx, hl, hyl, hy⟩ := DataW.trod_struct ht h
        obtain rfl : fuel = fu := by omega
        cases hx
        have each : ∀ i (hi : i < fs.toList.length) (hi' : i < ys.length), ∃ x, RdD P (fs.toList[i]).type (ys[i]).1 x ∧ x.cells.length = P.cellsOf (fs.toList[i]).type ∧ CellsV W ((cs.drop (fs.toList[i]).offset).take (P.cellsOf (fs.toList[i]).type)) x.cells := by
          intro i hi hi'
          have h1 := hy i (fs.toList[i]) (by simp at hi; simp [hi])
          rw [List.getElem?_eq_getElem hi'] at h1
          obtain ⟨k, hk⟩ := hall n fs.toList hp i hi
          obtain ⟨x, k1, k2, k3, _⟩ := ih k _ _ (ys[i]).1 (ys[i]).2 h1 hk
          exact ⟨x, k1, k2, k3⟩
        have hfl : fs.toList.length = ys.length := by simp [hyl]
        have : ∃ xs : List AV, xs.length = fs.toList.length ∧ ∀ i (hi : i < fs.toList.length) (hi' : i < ys.length) (hx : i < xs.length), RdD P (fs.toList[i]).type (ys[i]).1 xs[i] ∧ xs[i].cells.length = P.cellsOf (fs.toList[i]).type ∧ CellsV W ((cs.drop (fs.toList[i]).offset).take (P.cellsOf (fs.toList[i]).type)) xs[i].cells := by
          refine ⟨(List.finRange fs.toList.length).map fun i => Classical.choose (each i.1 i.2 (by omega)), by simp, fun i hi hi' hx => ?_⟩
          simp only [List.getElem_map, List.getElem_finRange]
          exact Classical.choose_spec (each i hi hi')
        obtain ⟨xs, hxl, hxs⟩ := this
        obtain ⟨_, hcv⟩ := laidB_flat fs.toList 0 m W cs xs hm hxl (fun i h1 h2 => ⟨(hxs i h1 (by omega) h2).2.2, (hxs i h1 (by omega) h2).2.1⟩) (by omega)
        rw [List.drop_zero] at hcv
        refine ⟨.agg (xs.flatMap AV.cells), .st ht (by simp [hyl]) (by simpa using hxl) (fun i h1 h2 h3 => by
          have := (hxs i (by simpa using h3) (by simpa using h1) h2).1
          simp only [Array.getElem_toList, List.getElem_map] at this ⊢
          exact this), by show (xs.flatMap AV.cells).length = _; rw [← hcv.1]; omega, hcv, ?_⟩
        rintro v (⟨zs, rfl, h1, h2⟩ | ⟨h1, h2⟩)
        · refine .agg (by rw [← hcv.1, ← h1]; simp) (fun i hi => ?_)
          have h3 : i < cs.length := by rw [hcv.1]; exact hi
          have := hcv.2 i h3 hi
          subst h1
          rw [Array.getD_eq_getD_getElem?, Array.getElem?_eq_getElem (by simpa using h3)]
          simpa using this
        · simp [aggT, ht] at h2
      · cases hp
theorem read_plain {H : Type} {enc : TypeId × Value → H} {P : Program} {W : World} {r : Reach} {base : Nat} {n : Nat} {t : TypeId} {v : Value} {d : DataW H} {ps : List MemPlace} (hp : plainB P n t = true) (hv : Value.okWide P W r base t v)
    (h : DataW.Trod enc P W 0 (fun _ => true) true t v d ps) : ∃ a, VRel (Rl.old W) W v a ∧ RdD P t d a := by
  obtain ⟨fuel, hf⟩ := h
  obtain ⟨a, h1, _, _, h2⟩ := read_cells fuel n t _ d ps hf hp
  refine ⟨a, h2 v ?_, h1⟩
  cases n with
  | zero => simp [plainB] at hp
  | succ n =>
    rw [plainB] at hp
    split at hp
    · rename_i ht
      obtain ⟨b, rfl⟩ := okWide_bool ht hv
      exact .inr ⟨rfl, by simp [aggT, ht]⟩
    · rename_i k ht
      obtain ⟨b, rfl⟩ := okWide_int ht hv
      exact .inr ⟨rfl, by simp [aggT, ht]⟩
    · rename_i ht
      obtain ⟨b, rfl⟩ := okWide_string ht hv
      exact .inr ⟨rfl, by simp [aggT, ht]⟩
    · rename_i e ht
      obtain ⟨a, len, cap, rfl⟩ := okWide_slice ht hv
      exact .inr ⟨rfl, by simp [aggT, ht]⟩
    · rename_i fs ht
      obtain ⟨cs, rfl, _⟩ := okWide_struct ht hv
      exact .inl ⟨cs, rfl, rfl, by simp [aggT, ht]⟩
    · cases hp
def RdDAll (P : Program) {H : Type} : List Field → List (DataW H) → List AV → Prop
  | [], [], [] => True
  | f :: fs, d :: ds, x :: xs => RdD P f.type d x ∧ RdDAll P fs ds xs
  | _, _, _ => False
theorem RdDAll.of {P : Program} {H : Type} : ∀ {fs : List Field} {ds : List (DataW H)} {xs : List AV}, ds.length = fs.length → xs.length = fs.length → (∀ i (h1 : i < ds.length) (h2 : i < xs.length) (h3 : i < fs.length), RdD P fs[i].type ds[i] xs[i]) → RdDAll P fs ds xs
  | [], ds, xs, h1, h2, _ => by
    obtain rfl : ds = [] := List.eq_nil_of_length_eq_zero h1
    obtain rfl : xs = [] := List.eq_nil_of_length_eq_zero h2
    trivial
  | f :: fs, ds, xs, h1, h2, h => by
    cases ds with
    | nil => simp at h1
    | cons d ds =>
      cases xs with
      | nil => simp at h2
      | cons x xs =>
        exact ⟨h 0 (by simp) (by simp) (by simp), RdDAll.of (by simpa using h1) (by simpa using h2) (fun i k1 k2 k3 => h (i + 1) (Nat.succ_lt_succ k1) (Nat.succ_lt_succ k2) (Nat.succ_lt_succ k3))⟩
theorem RdDAll.cons {P : Program} {H : Type} {f : Field} {fs : List Field} {ds : List (DataW H)} {xs : List AV} (h : RdDAll P (f :: fs) ds xs) : ∃ d ds' x xs', ds = d :: ds' ∧ xs = x :: xs' ∧ RdD P f.type d x ∧ RdDAll P fs ds' xs' := by
  match ds, xs, h with
  | d :: ds', x :: xs', ⟨h1, h2⟩ => exact ⟨d, ds', x, xs', rfl, rfl, h1, h2⟩
theorem RdDAll.nil {P : Program} {H : Type} {ds : List (DataW H)} {xs : List AV} (h : RdDAll P [] ds xs) : ds = [] ∧ xs = [] := by
  match ds, xs, h with
  | [], [], _ => exact ⟨rfl, rfl⟩
section
variable {P : Program} {H : Type} {t : TypeId} {d : DataW H} {a : AV}
theorem RdD.inv_st {fs : Array Field} (h : RdD P t d a) (ht : P.underlying t = some (.struct fs)) : ∃ ds xs, d = .agg ds ∧ a = .agg (xs.flatMap AV.cells) ∧ RdDAll P fs.toList ds xs := by
  cases h with
  | st ht' hd hx h =>
    rw [ht] at ht'
    cases ht'
    exact ⟨_, _, rfl, rfl, .of (by simpa using hd) (by simpa using hx) (fun i h1 h2 h3 => by simpa using h i h1 h2 (by simpa using h3))⟩
  | bool ht' => rw [ht] at ht'; cases ht'
  | str ht' => rw [ht] at ht'; cases ht'
  | int ht' => rw [ht] at ht'; cases ht'
  | nils ht' => rw [ht] at ht'; cases ht'
  | sl ht' => rw [ht] at ht'; cases ht'
theorem RdD.inv_str (h : RdD P t d a) (ht : P.underlying t = some .string) : ∃ s, d = .lit (.string s) ∧ a = .str s ∧ s.length ≤ maxLen := by
  cases h with
  | str ht' hs => exact ⟨_, rfl, rfl, hs⟩
  | bool ht' => rw [ht] at ht'; cases ht'
  | int ht' => rw [ht] at ht'; cases ht'
  | nils ht' => rw [ht] at ht'; cases ht'
  | sl ht' => rw [ht] at ht'; cases ht'
  | st ht' => rw [ht] at ht'; cases ht'
theorem RdD.inv_bool (h : RdD P t d a) (ht : P.underlying t = some .bool) : ∃ b, d = .lit (.bool b) ∧ a = .bool b := by
  cases h with
  | bool ht' => exact ⟨_, rfl, rfl⟩
  | int ht' => rw [ht] at ht'; cases ht'
  | str ht' => rw [ht] at ht'; cases ht'
  | nils ht' => rw [ht] at ht'; cases ht'
  | sl ht' => rw [ht] at ht'; cases ht'
  | st ht' => rw [ht] at ht'; cases ht'
theorem RdD.inv_sl {e : TypeId} (h : RdD P t d a) (ht : P.underlying t = some (.slice e)) :
    ∃ (ds : List (DataW H)) (xs : List AV), a = .sl true false (P.cellsOf e) xs ∧ xs.length = ds.length ∧ xs.length ≤ maxLen ∧ (∀ i (h1 : i < ds.length) (h2 : i < xs.length), RdD P e ds[i] xs[i]) ∧ ((d = .nil ∧ ds = []) ∨ ∃ rest, d = .slice ds rest) := by
  cases h with
  | nils ht' => rw [ht] at ht'; cases ht'; exact ⟨[], [], rfl, rfl, Nat.zero_le _, fun i h => absurd h (by simp), .inl ⟨rfl, rfl⟩⟩
  | sl ht' hl hm h => rw [ht] at ht'; cases ht'; exact ⟨_, _, rfl, hl, hm, h, .inr ⟨_, rfl⟩⟩
  | bool ht' => rw [ht] at ht'; cases ht'
  | int ht' => rw [ht] at ht'; cases ht'
  | str ht' => rw [ht] at ht'; cases ht'
  | st ht' => rw [ht] at ht'; cases ht'
theorem RdD.each {α : Type} {e : TypeId} (f : α → AV) (g : α → DataW H → Prop) {ds : List (DataW H)} {xs : List AV} (hl : xs.length = ds.length) (h : ∀ i (h1 : i < ds.length) (h2 : i < xs.length), RdD P e ds[i] xs[i])
    (hf : ∀ d x, RdD P e d x → ∃ y, x = f y ∧ g y d) : ∃ ys : List α, xs = ys.map f ∧ ys.length = ds.length ∧ ∀ i (h1 : i < ds.length) (h2 : i < ys.length), g ys[i] ds[i] := by
  induction xs generalizing ds with
  | nil =>
    obtain rfl : ds = [] := List.eq_nil_of_length_eq_zero (by simpa using hl.symm)
    exact ⟨[], rfl, rfl, fun i h => absurd h (by simp)⟩
  | cons x xs ih =>
    cases ds with
    | nil => simp at hl
    | cons d ds =>
      obtain ⟨y, hy, hg⟩ := hf d x (h 0 (by simp) (by simp))
      obtain ⟨ys, h1, h2, h3⟩ := ih (ds := ds) (by simpa using hl) (fun i k1 k2 => h (i + 1) (Nat.succ_lt_succ k1) (Nat.succ_lt_succ k2))
      refine ⟨y :: ys, by rw [hy, h1]; rfl, by simp [h2], fun i k1 k2 => ?_⟩
      cases i with
      | zero => exact hg
      | succ i => exact h3 i (Nat.lt_of_succ_lt_succ k1) (Nat.lt_of_succ_lt_succ k2)
end
end Go.Ab
end
section
set_option linter.unusedVariables false
set_option linter.unusedSimpArgs false
namespace Go.Ab
open Go Go.WideShapes
mutual
def avB : AV → Nat
  | .str s => s.length
  | .sl _ _ _ xs => avS xs
  | .agg cs => avC cs
  | _ => 0
def avS : List AV → Nat
  | [] => 0
  | x :: r => avB x + 1 + avS r
def avC : List AV → Nat
  | [] => 0
  | x :: r => avB x + avC r
end
theorem avC_append (a b : List AV) : avC (a ++ b) = avC a + avC b := by
  induction a with
  | nil => simp [avC]
  | cons x a ih => simp only [List.cons_append, avC, ih]; omega
theorem avC_cells (x : AV) : avC x.cells ≤ avB x := by
  cases x <;> simp [AV.cells, avC, avB]
theorem avC_flat (xs : List AV) : avC (xs.flatMap AV.cells) ≤ avC xs := by
  induction xs with
  | nil => simp
  | cons x xs ih =>
    have := avC_cells x
    simp only [List.flatMap_cons, avC_append, avC]; omega
theorem avC_le_avS (xs : List AV) : avC xs ≤ avS xs := by
  induction xs with
  | nil => simp [avC, avS]
  | cons x xs ih => simp only [avC, avS]; omega
theorem bulk_all {P : Program} {H : Type} {B : DataW H → Nat} {BA : List (DataW H) → Nat} (hn : BA [] = 0) (hc : ∀ d r, BA (d :: r) = B d + BA r) : ∀ {ds : List (DataW H)} {xs : List AV}, xs.length = ds.length →
    (∀ i (h1 : i < ds.length) (h2 : i < xs.length), avB xs[i] + 1 ≤ B ds[i]) → avS xs ≤ BA ds
  | [], xs, hl, h => by
    obtain rfl : xs = [] := List.eq_nil_of_length_eq_zero (by simpa using hl)
    simp [avS]
  | d :: ds, xs, hl, h => by
    cases xs with
    | nil => simp at hl
    | cons x xs =>
      have h0 := h 0 (by simp) (by simp)
      have := bulk_all (P := P) (B := B) hn hc (ds := ds) (xs := xs) (by simpa using hl) (fun i h1 h2 => h (i + 1) (Nat.succ_lt_succ h1) (Nat.succ_lt_succ h2))
      simp only [avS, hc]
      simp only [List.getElem_cons_zero] at h0
      omega
theorem RdD.bulk {P : Program} {H : Type} {B : DataW H → Nat} {BA : List (DataW H) → Nat} (hn : BA [] = 0) (hc : ∀ d r, BA (d :: r) = B d + BA r) (h1 : ∀ d, 1 ≤ B d) (hs : ∀ s, B (.lit (.string s)) = s.length + 1)
    (hsl : ∀ a b, B (.slice a b) = BA a + BA b + 1) (hag : ∀ a, B (.agg a) = BA a + 1) {t : TypeId} {d : DataW H} {a : AV} (h : RdD P t d a) : avB a + 1 ≤ B d := by
  induction h with
  | bool => simpa [avB] using h1 _
  | int => simpa [avB] using h1 _
  | str => simp [avB, hs]
  | nils => simpa [avB, avS] using h1 _
  | sl ht hl hm h ih =>
    have := bulk_all (P := P) (B := B) hn hc hl ih
    rw [hsl]; simp only [avB]; omega
  | st ht hd hx h ih =>
    have := bulk_all (P := P) (B := B) hn hc (by omega) (fun i a b => ih i a b (by omega))
    rw [hag]; simp only [avB]
    rename_i t fs ds xs
    have k1 := avC_flat xs
    have k2 := avC_le_avS xs
    omega
end Go.Ab
end
section
set_option linter.unusedVariables false
set_option linter.unusedSimpArgs false
set_option maxRecDepth 20000
set_option maxHeartbeats 4000000
namespace Go.Proofs.YtgmakmfdjhgjlaaGreatDoor
open Go Go.Ab
theorem avS_fils (l : List Fil) : l.length ≤ avS (fils l) ∧ ∀ f ∈ l, f.path.length + f.text.length ≤ avS (fils l) := by
  induction l with
  | nil => exact ⟨Nat.zero_le _, fun f hf => by cases hf⟩
  | cons g r ih =>
    have e : avS (fils (g :: r)) = (g.path.length + (g.text.length + (0 + 0))) + 1 + avS (fils r) := by
      show avS (filA g :: fils r) = _
      simp only [avS, filA, avB, avC]
    rw [e]
    refine ⟨by rw [List.length_cons]; omega, fun f hf => ?_⟩
    rcases List.mem_cons.1 hf with rfl | hf
    · omega
    · have := ih.2 f hf; omega
theorem fils_of {l : List Fil} (hk : avB (.sl true false 3 (fils l)) ≤ 1048576) : FilsOk l := by
  have h : avS (fils l) ≤ 1048576 := by simpa only [avB] using hk
  have := avS_fils l
  exact ⟨by omega, fun f hf => by have := this.2 f hf; omega, fun f hf => by have := this.2 f hf; omega⟩
end Go.Proofs.YtgmakmfdjhgjlaaGreatDoor
end
section
set_option linter.unusedVariables false
set_option linter.unusedSimpArgs false
set_option maxRecDepth 20000
set_option maxHeartbeats 4000000
namespace Go.Proofs.YtgmakmfdjhgjlaaGreatDoor
open Go Go.Ab
theorem filesAre_ok {st fl st' fl' : Bool} (a b : List Fil) (e : Nat) (ha : a.length ≤ 1000000000) (hb : b.length ≤ 1000000000) (h0 : e = 0 → a = b) (h1 : e ≠ 0 → a = []) : Calc cx 15 [.sl st fl 3 (fils a), .int .i64 (e : Nat), .int .i64 (e : Nat), .sl st' fl' 3 (fils b)] (.bool true) :=
  pure_intro (fun a w => Tryz.call15 a w) Tryz.func15 rfl Tryz.ntmps15 rfl .bool fun B => by
    by_cases he : e = 0
    · obtain rfl := h0 he
      subst he
      have hS := SameFiles_ok (st := st) (fl := fl) (st' := st') (fl' := fl') a a ha ha
      rw [decide_eq_true rfl] at hS
      refine pa [.b false, .b true, .v (.bool true)] rfl ?_ ?_
      · (repeat' with_reducible apply AllP_cons) <;> try exact aC
        · exact ⟨_, hS, .cons (.refl (.sl (fun h => by cases h) (fils_free a))) (.cons (.refl (.sl (fun h => by cases h) (fils_free a))) (.nil _))⟩
      exact S_retc .bool rfl trivial rfl
    · obtain rfl := h1 he
      have hS := SameFiles_ok (st := st) (fl := fl) (st' := false) (fl' := false) [] [] (by decide) (by decide)
      rw [decide_eq_true rfl] at hS
      refine pa [.b true, .b true, .v (.bool true)] rfl ?_ ?_
      · (repeat' with_reducible apply AllP_cons) <;> try exact aC
        · show ((((e : Int)) != 0) = true)
          rw [chk_bne]; simpa using he
        · exact ⟨_, hS, .cons (.refl (.sl (fun h => by cases h) (fils_free []))) (.cons .nils (.nil _))⟩
      exact S_retc .bool rfl trivial rfl
end Go.Proofs.YtgmakmfdjhgjlaaGreatDoor
end
section
set_option linter.unusedVariables false
set_option linter.unusedSimpArgs false
set_option maxRecDepth 20000
namespace Go.Proofs.YtgmakmfdjhgjlaaGreatDoor
open Go Go.Ab Go.Shelf Go.RowKit Go.Lib Go.Sort
def lay_sortf_ren : Go.Shelf.Ren := ⟨fun | 6 => 64 | 15 => 90 | 14 => 89 | 28 => 113 | 29 => 114 | 20 => 105 | 21 => 106 | 22 => 107 | 23 => 108 | 24 => 109 | 25 => 110 | 26 => 111 | 27 => 112 | 46 => 130 | 47 => 131 | 48 => 132 | 49 => 133 | 50 => 134 | 57 => 153 | n => n, fun | 22 => 28 | 24 => 38 | 25 => 66 | 3 => 3 | 39 => 100 | 0 => 0 | 53 => 115 | 55 => 113 | 4 => 4 | 46 => 122 | 45 => 121 | 50 => 94 | 5 => 5 | 9 => 9 | 66 => 140 | 70 => 144 | 76 => 160 | 77 => 161 | n => n, fun | n => n⟩
theorem lay_sortf : Go.Proofs.SlLaysF0.n6 Tryz.prog lay_sortf_ren := {
  mixed := by kernel_rfl
  f6 := ⟨Tryz.f64.name, by decide, Tryz.func64.trans (congrArg some (by kernel_rfl))⟩
  f14 := ⟨Tryz.f89.name, by decide, Tryz.func89.trans (congrArg some (by kernel_rfl))⟩
  f15 := Tryz.func90.trans (congrArg some (by kernel_rfl))
  f20 := ⟨Tryz.f105.name, by decide, Tryz.func105.trans (congrArg some (by kernel_rfl))⟩
  f21 := ⟨Tryz.f106.name, by decide, Tryz.func106.trans (congrArg some (by kernel_rfl))⟩
  f22 := ⟨Tryz.f107.name, by decide, Tryz.func107.trans (congrArg some (by kernel_rfl))⟩
  f23 := ⟨Tryz.f108.name, by decide, Tryz.func108.trans (congrArg some (by kernel_rfl))⟩
  f24 := ⟨Tryz.f109.name, by decide, Tryz.func109.trans (congrArg some (by kernel_rfl))⟩
  f25 := ⟨Tryz.f110.name, by decide, Tryz.func110.trans (congrArg some (by kernel_rfl))⟩
  f26 := ⟨Tryz.f111.name, by decide, Tryz.func111.trans (congrArg some (by kernel_rfl))⟩
  f27 := ⟨Tryz.f112.name, by decide, Tryz.func112.trans (congrArg some (by kernel_rfl))⟩
  f28 := Tryz.func113.trans (congrArg some (by kernel_rfl))
  f29 := Tryz.func114.trans (congrArg some (by kernel_rfl))
  f46 := ⟨Tryz.f130.name, by decide, Tryz.func130.trans (congrArg some (by kernel_rfl))⟩
  f47 := Tryz.func131.trans (congrArg some (by kernel_rfl))
  f48 := Tryz.func132.trans (congrArg some (by kernel_rfl))
  f49 := ⟨Tryz.f133.name, by decide, Tryz.func133.trans (congrArg some (by kernel_rfl))⟩
  f50 := ⟨Tryz.f134.name, by decide, Tryz.func134.trans (congrArg some (by kernel_rfl))⟩
  f57 := ⟨Tryz.f153.name, by decide, Tryz.func153.trans (congrArg some (by kernel_rfl))⟩
  t0 := Tryz.underlying0
  a0 := Tryz.isAgg0
  z0 := Tryz.sizeOf0
  v0 := Tryz.zeroValue0
  t3 := Tryz.underlying3
  a3 := Tryz.isAgg3
  z3 := Tryz.sizeOf3
  v3 := Tryz.zeroValue3
  t4 := Tryz.underlying4
  a4 := Tryz.isAgg4
  z4 := Tryz.sizeOf4
  v4 := Tryz.zeroValue4
  t5 := Tryz.underlying5
  a5 := Tryz.isAgg5
  z5 := Tryz.sizeOf5
  v5 := Tryz.zeroValue5
  t9 := Tryz.underlying9
  a9 := Tryz.isAgg9
  z9 := Tryz.sizeOf9
  v9 := Tryz.zeroValue9
  t22 := Tryz.underlying28
  a22 := Tryz.isAgg28
  z22 := Tryz.sizeOf28
  v22 := Tryz.zeroValue28
  t25 := Tryz.underlying66
  a25 := Tryz.isAgg66
  z25 := Tryz.sizeOf66
  v25 := Tryz.zeroValue66
  t39 := Tryz.underlying100
  a39 := Tryz.isAgg100
  z39 := Tryz.sizeOf100
  v39 := Tryz.zeroValue100
  t45 := Tryz.underlying121
  a45 := Tryz.isAgg121
  z45 := Tryz.sizeOf121
  v45 := Tryz.zeroValue121
  t46 := Tryz.underlying122
  a46 := Tryz.isAgg122
  z46 := Tryz.sizeOf122
  v46 := Tryz.zeroValue122
  t50 := Tryz.underlying94
  a50 := Tryz.isAgg94
  z50 := Tryz.sizeOf94
  v50 := Tryz.zeroValue94
  t53 := Tryz.underlying115
  a53 := Tryz.isAgg115
  z53 := Tryz.sizeOf115
  v53 := Tryz.zeroValue115
  t55 := Tryz.underlying113
  a55 := Tryz.isAgg113
  z55 := Tryz.sizeOf113
  v55 := Tryz.zeroValue113
  t66 := Tryz.underlying140
  a66 := Tryz.isAgg140
  z66 := Tryz.sizeOf140
  v66 := Tryz.zeroValue140
  t70 := Tryz.underlying144
  a70 := Tryz.isAgg144
  z70 := Tryz.sizeOf144
  v70 := Tryz.zeroValue144
  t76 := Tryz.underlying160
  a76 := Tryz.isAgg160
  z76 := Tryz.sizeOf160
  v76 := Tryz.zeroValue160
  t77 := Tryz.underlying161
  a77 := Tryz.isAgg161
  z77 := Tryz.sizeOf161
  v77 := Tryz.zeroValue161 }
end Go.Proofs.YtgmakmfdjhgjlaaGreatDoor
end
section
set_option linter.unusedVariables false
set_option linter.unusedSimpArgs false
set_option maxRecDepth 20000
set_option maxHeartbeats 4000000
namespace Go.Proofs.YtgmakmfdjhgjlaaGreatDoor
open Go Go.Ab
theorem celsF_app (a b : List Fil) : celsF (a ++ b) = celsF a ++ celsF b := by
  unfold celsF fils; rw [List.map_append, List.flatMap_append]
theorem cels_at : ∀ {l : List Fil} {i : Nat} (h : i < l.length), ∃ r, (celsF l).drop (i * 3) = .str l[i].path :: .str l[i].text :: .bool l[i].run :: r
  | f :: l, 0, h => ⟨celsF l, rfl⟩
  | f :: l, i + 1, h => by
    obtain ⟨r, hr⟩ := cels_at (l := l) (i := i) (by simpa using h)
    refine ⟨r, ?_⟩
    have e : celsF (f :: l) = [.str f.path, .str f.text, .bool f.run] ++ celsF l := rfl
    have e2 : (i + 1) * 3 = ([.str f.path, .str f.text, .bool f.run] : List AV).length + i * 3 := by simp; omega
    rw [e, e2, List.drop_append, Nat.add_sub_cancel_left, hr, List.drop_eq_nil_of_le (by omega)]
    rfl
theorem cels_off (i : Nat) : offN 0 (mulN (i : Int).toNat 3) = i * 3 := by
  rw [Int.toNat_natCast, offN_eq, mulN_eq, Nat.zero_add]
end Go.Proofs.YtgmakmfdjhgjlaaGreatDoor
end
section
set_option linter.unusedVariables false
set_option linter.unusedSimpArgs false
set_option maxRecDepth 20000
set_option maxHeartbeats 4000000
namespace Go.Proofs.YtgmakmfdjhgjlaaGreatDoor
open Go Go.Ab
def lessN (s : List UInt8) : List (List UInt8) → Nat
  | [] => 0
  | x :: r => if Op.bytesLess x s = true then lessN s r + 1 else 0
def addT (l : List (List UInt8)) (s : List UInt8) : List (List UInt8) := if l[lessN s l]? = some s then l else l.take (lessN s l) ++ s :: l.drop (lessN s l)
theorem lessN_le (s : List UInt8) : ∀ l : List (List UInt8), lessN s l ≤ l.length
  | [] => Nat.le_refl _
  | x :: r => by
    rw [lessN]
    split
    · have := lessN_le s r; rw [List.length_cons]; omega
    · exact Nat.zero_le _
theorem lessN_lt {s : List UInt8} : ∀ {l : List (List UInt8)} {i : Nat} (hi : i < l.length), i < lessN s l → Op.bytesLess l[i] s = true
  | x :: r, i, hi, h => by
    rw [lessN] at h
    split at h
    · rename_i hx
      cases i with
      | zero => exact hx
      | succ i => exact lessN_lt (l := r) (by simpa using hi) (by omega)
    · omega
theorem lessN_at {s : List UInt8} : ∀ {l : List (List UInt8)} (h : lessN s l < l.length), Op.bytesLess l[lessN s l] s = false
  | x :: r, h => by
    by_cases hx : Op.bytesLess x s = true
    · have e : lessN s (x :: r) = lessN s r + 1 := by rw [lessN, if_pos hx]
      have h' : lessN s r < r.length := by rw [e, List.length_cons] at h; omega
      have := lessN_at h'
      simp only [e, List.getElem_cons_succ]
      exact this
    · have e : lessN s (x :: r) = 0 := by rw [lessN, if_neg hx]
      simp only [e, List.getElem_cons_zero]
      simpa using hx
end Go.Proofs.YtgmakmfdjhgjlaaGreatDoor
end
section
set_option linter.unusedVariables false
set_option linter.unusedSimpArgs false
set_option maxRecDepth 20000
set_option maxHeartbeats 4000000
namespace Go.Proofs.YtgmakmfdjhgjlaaGreatDoor
open Go Go.Ab
theorem addT_sort {m : List (List UInt8)} (hm : m.Nodup) (s : List UInt8) : addT (sortT m) s = sortT (addU m s) := by
  obtain ⟨l, hl⟩ : ∃ l, l = sortT m := ⟨_, rfl⟩
  have hlt : ∀ (i j : Nat) (hij : i < j) (hj : j < l.length), l[i]'(by omega) < l[j] := by
    subst hl; exact fun i j hij hj => sort_lt hm hij hj
  have hmem : ∀ x, x ∈ l ↔ x ∈ m := fun x => by rw [hl]; exact (sortT_perm m).mem_iff
  rw [← hl]
  have hk := lessN_le s l
  by_cases hs : l[lessN s l]? = some s
  · rw [addT, if_pos hs, addU, if_pos ((hmem s).1 (List.mem_of_getElem? hs)), hl]
  · have hbefore : ∀ i (hi : i < l.length), i < lessN s l → l[i] < s := fun i hi h => by
      have := lessN_lt hi h
      rw [bl_eq] at this; simpa using this
    have hafter : ∀ i (hi : i < l.length), lessN s l ≤ i → s < l[i] := by
      intro i hi h
      have hk2 : lessN s l < l.length := by omega
      have h1 := lessN_at hk2
      rw [bl_eq] at h1
      have h1 : ¬ l[lessN s l] < s := by simpa using h1
      have h2 : l[lessN s l] ≠ s := fun e => hs (by rw [List.getElem?_eq_getElem hk2, e])
      have h3 : s < l[lessN s l] := by
        rcases Std.lt_trichotomy l[lessN s l] s with h | h | h
        · exact absurd h h1
        · exact absurd h h2
        · exact h
      rcases Nat.lt_or_ge (lessN s l) i with h4 | h4
      · exact List.lt_trans h3 (hlt _ _ h4 hi)
      · have : lessN s l = i := by omega
        simpa only [this] using h3
    have hns : s ∉ m := by
      intro h
      obtain ⟨i, hi, e⟩ := List.getElem_of_mem ((hmem s).2 h)
      rcases Nat.lt_or_ge i (lessN s l) with h1 | h1
      · have := hbefore i hi h1; rw [e] at this; exact List.lt_irrefl _ this
      · have := hafter i hi h1; rw [e] at this; exact List.lt_irrefl _ this
    rw [addT, if_neg hs, addU, if_neg hns]
    refine perm_sorted ?_ ?_ (sortT_pw _)
    · refine List.perm_middle.trans ?_
      rw [List.take_append_drop]
      refine List.Perm.trans ?_ (sortT_perm _).symm
      rw [hl]
      refine ((sortT_perm m).cons s).trans ?_
      exact (List.perm_append_singleton s m).symm
    · rw [List.pairwise_append]
      have hpw : l.Pairwise (fun x y => x ≤ y) := by rw [hl]; exact sortT_pw m
      refine ⟨hpw.sublist (List.take_sublist _ _), ?_, ?_⟩
      · rw [List.pairwise_cons]
        refine ⟨fun x hx => ?_, hpw.sublist (List.drop_sublist _ _)⟩
        obtain ⟨i, hi, rfl⟩ := List.getElem_of_mem hx
        rw [List.getElem_drop]
        rw [List.length_drop] at hi
        exact List.le_of_lt (hafter _ (by omega) (by omega))
      · intro x hx y hy
        obtain ⟨i, hi, rfl⟩ := List.getElem_of_mem hx
        rw [List.length_take] at hi
        rw [List.getElem_take]
        have h1 := hbefore i (by omega) (by omega)
        rcases List.mem_cons.1 hy with rfl | hy
        · exact List.le_of_lt h1
        · obtain ⟨j, hj, rfl⟩ := List.getElem_of_mem hy
          rw [List.length_drop] at hj
          rw [List.getElem_drop]
          exact List.le_of_lt (List.lt_trans h1 (hafter _ (by omega) (by omega)))
end Go.Proofs.YtgmakmfdjhgjlaaGreatDoor
end
section
set_option linter.unusedVariables false
set_option linter.unusedSimpArgs false
namespace Go.Ab
open Go
structure KeyLaw {α : Type} [DecidableEq α] (cx : Cx) (kt : TypeId) (key : α → AV) : Prop where
  check : ∀ (e : Bool) (r : Rl) (w : World) (v : Value) (a : α), VRel r w v (key a) → (Instr.checkKey e 10000 kt v).run cx.P w = .ok () w
  equal : ∀ (r : Rl) (w : World) (u v : Value) (a b : α), VRel r w u (key a) → VRel r w v (key b) → (Op.equal kt u v).run cx.P w = .ok (decide (a = b)) w
  bits : ∀ (r : Rl) (w : World) (u v : Value) (a : α), VRel r w u (key a) → VRel r w v (key a) → Instr.sameBits 10000 u v = true
  slow : ∃ d, cx.P.underlying kt = some d ∧ ∀ k e l i, Instr.findNow d k (e :: l) i = none
def fieldsFit (P : Program) : List Field → List AV → Bool
  | [], _ => true
  | f :: fs, xs => match aLoad P f.type (xs.drop f.offset) with
    | some y => keyFits P f.type y && fieldsFit P fs xs
    | none => false
theorem checkKey_one {P : Program} {w : World} {k : TypeId} {key : Value} {r : Rl} {a : AV} (e : Bool) (d : Nat) (h : keyFits P k a = true) (ha : VRel r w key a) : (Instr.checkKey e (d + 1) k key).run P w = .ok () w := by
  obtain ⟨q, hu, hd⟩ := keyFits_spec h
  unfold Instr.checkKey
  rcases hd with ⟨rfl, s, rfl⟩ | ⟨j, rfl, n, m, rfl⟩ | ⟨rfl, x, rfl⟩ <;> cases ha <;> simp [run_underlying hu]
theorem checkKey_struct {P : Program} {w : World} {k : TypeId} {v : Value} {r : Rl} {az : List AV} {fs : Array Field} (e : Bool) (hu : P.underlying k = some (.struct fs)) (hf : fieldsFit P fs.toList az = true) (ha : VRel r w v (.agg az)) : (Instr.checkKey e 10000 k v).run P w = .ok () w := by
  have hva : ∃ xs, v = .agg xs := by cases ha; exact ⟨_, rfl⟩
  obtain ⟨xs, rfl⟩ := hva
  show (Instr.checkKey e (9998 + 1 + 1) k (.agg xs)).run P w = _
  rw [Instr.checkKey]
  simp only [Sem.run_bind, run_underlying hu, Result.andThen_ok]
  rw [← Array.forIn_toList]
  generalize fs.toList = L at hf
  induction L with
  | nil => simp
  | cons f L ih =>
    rw [fieldsFit] at hf
    split at hf
    case h_2 => cases hf
    rename_i y hy
    rw [Bool.and_eq_true] at hf
    obtain ⟨z, p1, p2⟩ := part_run ha hy
    have p3 := checkKey_one e 9998 hf.1 p2
    by_cases hn : f.name = "_"
    · simp only [List.forIn_cons, Sem.run_bind, hn, ne_eq, not_true_eq_false, if_false, Result.andThen_ok, Sem.run_pure]
      exact ih hf.2
    · simp only [List.forIn_cons, Sem.run_bind, hn, ne_eq, not_false_eq_true, if_true, Result.andThen_ok, p1, p3, Sem.run_pure]
      exact ih hf.2
theorem equal_struct {P : Program} {w : World} {t : TypeId} {u v : Value} {r : Rl} {az bs : List AV} {fs : Array Field} {b : Bool} (ht : P.underlying t = some (.struct fs)) (hc : cmpOk P t = true) (hb : eqFs P fs.toList az bs = some b) (hx : VRel r w u (.agg az)) (hy : VRel r w v (.agg bs)) :
    (Op.equal t u v).run P w = .ok b w := by
  have hxa : ∃ xs, u = .agg xs := by cases hx; exact ⟨_, rfl⟩
  have hya : ∃ xs, v = .agg xs := by cases hy; exact ⟨_, rfl⟩
  obtain ⟨xs, rfl⟩ := hxa
  obtain ⟨ys, rfl⟩ := hya
  have hfo : P.fieldsOf t = fs := by simp [Program.fieldsOf, ht]
  unfold cmpOk at hc
  rw [ht] at hc
  simp only [Bool.and_eq_true, Bool.not_eq_true', List.all_eq_true, bne_iff_ne] at hc
  show (Op.equalIn (9998 + 1 + 1) t _ _).run P w = _
  rw [run_equalIn_struct w (9998 + 1) t xs ys (by rw [hfo]; exact ht) hc.1.1, hfo]
  exact eqFs_run 9998 hx hy fs.toList hb hc.2
def plainA : AV → Bool
  | .str _ => true
  | .int _ _ => true
  | .bool _ => true
  | _ => false
theorem bits_one {r : Rl} {w : World} {u v : Value} {a : AV} (d : Nat) (h : plainA a = true) (hu : VRel r w u a) (hv : VRel r w v a) : Instr.sameBits d u v = true := by
  cases a <;> first | cases h | skip
  · cases hu; cases hv; unfold Instr.sameBits; simp
  · cases hu; cases hv; unfold Instr.sameBits; simp
  · cases hu with
    | str h1 =>
      cases hv with
      | str h2 =>
        unfold Instr.sameBits
        exact (MapKept.bytes_beq _ _).2 (ByteArray.ext (Array.toList_inj.1 (h1.trans h2.symm)))
theorem bits_struct {r : Rl} {w : World} {u v : Value} {az : List AV} (h : az.all plainA = true) (hu : VRel r w u (.agg az)) (hv : VRel r w v (.agg az)) : Instr.sameBits 10000 u v = true := by
  cases hu with
  | agg hn h1 =>
    cases hv with
    | agg hm h2 =>
      rename_i xs ys
      unfold Instr.sameBits
      rw [Bool.and_eq_true]
      refine ⟨by simp [hn, hm], ?_⟩
      rw [List.all_eq_true]
      rintro ⟨x, y⟩ hxy
      obtain ⟨i, hi, e⟩ := List.getElem_of_mem hxy
      rw [List.length_zip, Array.length_toList, Array.length_toList] at hi
      rw [List.getElem_zip] at e
      have hia : i < az.length := by omega
      have k1 := h1 i hia
      have k2 := h2 i hia
      have e1 : xs.getD i undef = x := by
        rw [Array.getD_eq_getD_getElem?, Array.getElem?_eq_getElem (by omega)]
        exact (congrArg Prod.fst e)
      have e2 : ys.getD i undef = y := by
        rw [Array.getD_eq_getD_getElem?, Array.getElem?_eq_getElem (by omega)]
        exact (congrArg Prod.snd e)
      rw [e1] at k1; rw [e2] at k2
      exact bits_one _ (List.all_eq_true.1 h _ (List.getElem_mem hia)) k1 k2
theorem KeyLaw.struct {α : Type} [DecidableEq α] {cx : Cx} {kt : TypeId} {fs : Array Field} {parts : α → List AV} (hu : cx.P.underlying kt = some (.struct fs)) (hc : cmpOk cx.P kt = true) (hf : ∀ a, fieldsFit cx.P fs.toList (parts a) = true) (hp : ∀ a, (parts a).all plainA = true)
    (he : ∀ a b, eqFs cx.P fs.toList (parts a) (parts b) = some (decide (a = b))) : KeyLaw cx kt (fun a => .agg (parts a)) where
  check := fun e r w v a h => checkKey_struct e hu (hf a) h
  equal := fun r w u v a b h1 h2 => equal_struct hu hc (he a b) h1 h2
  bits := fun r w u v a h1 h2 => bits_struct (hp a) h1 h2
  slow := ⟨_, hu, fun k e l i => rfl⟩
section
variable {α : Type} [DecidableEq α]
def mapG (key : α → AV) (ks : List α) (val : α → AV) : List (AV × AV) := ks.map fun k => (key k, val k)
theorem KeyLaw.find {cx : Cx} {kt : TypeId} {key : α → AV} (L : KeyLaw cx kt key) {r : Rl} {w : World} {a : α} {k : Value} (hk : VRel r w k (key a)) : ∀ (es : List MapEntry) (ks : List α) (i : Nat), es.length = ks.length → (∀ j (h : j < ks.length), ∃ e, es[j]? = some e ∧ VRel r w e.key (key ks[j])) →
    (a ∉ ks ∧ (Instr.findAsking kt k es i).run cx.P w = .ok none w) ∨ (a ∈ ks ∧ ∃ e, es[ks.idxOf a]? = some e ∧ (Instr.findAsking kt k es i).run cx.P w = .ok (some (i + ks.idxOf a, e.val)) w)
  | [], [], i, _, _ => .inl ⟨by simp, by simp [Instr.findAsking]⟩
  | [], _ :: _, _, hl, _ => by simp at hl
  | _ :: _, [], _, hl, _ => by simp at hl
  | e :: es, x :: ks, i, hl, hr => by
    obtain ⟨e0, q1, q2⟩ := hr 0 (by simp)
    simp only [List.getElem?_cons_zero, Option.some.injEq, List.getElem_cons_zero] at q1 q2
    subst q1
    have heq := L.equal r w k e.key a x hk q2
    by_cases hax : a = x
    · subst hax
      refine .inr ⟨by simp, e, by simp, ?_⟩
      rw [decide_eq_true rfl] at heq
      rw [Instr.findAsking]
      simp only [Sem.run_bind, heq, Result.andThen_ok, if_true, Sem.run_pure, List.idxOf_cons_self, Nat.add_zero]
    · rw [decide_eq_false hax] at heq
      have hf : (Instr.findAsking kt k (e :: es) i).run cx.P w = (Instr.findAsking kt k es (i + 1)).run cx.P w := by
        conv => lhs; rw [Instr.findAsking]
        simp [heq]
      have hx : (x == a) = false := by simpa using Ne.symm hax
      rcases KeyLaw.find L hk es ks (i + 1) (by simpa using hl) (fun j hj => by
        obtain ⟨e', m1, m2⟩ := hr (j + 1) (by simp; omega)
        exact ⟨e', by simpa using m1, by simpa using m2⟩) with ⟨h1, h2⟩ | ⟨h1, e', h2, h3⟩
      · exact .inl ⟨by simp [hax, h1], by rw [hf]; exact h2⟩
      · refine .inr ⟨List.mem_cons_of_mem _ h1, e', ?_, ?_⟩
        · rw [List.idxOf_cons, hx]; simpa using h2
        · rw [hf, h3, List.idxOf_cons, hx]
          simp only [cond_false]
          rw [show i + 1 + ks.idxOf a = i + (ks.idxOf a + 1) by omega]
theorem KeyLaw.findKey {cx : Cx} {kt : TypeId} {key : α → AV} (L : KeyLaw cx kt key) {r : Rl} {w : World} {a : α} {k : Value} (hk : VRel r w k (key a)) {es : Array MapEntry} {clock : Nat} {ks : List α} {val : α → AV} {st : Option (List Nat × Nat)} (hm : MapIs r w es clock (mapG key ks val) st) :
    (a ∉ ks ∧ (Instr.findKey kt k es.toList).run cx.P w = .ok none w) ∨ (a ∈ ks ∧ ∃ e, es[ks.idxOf a]? = some e ∧ VRel r w e.val (val a) ∧ VRel r w e.key (key a) ∧ (Instr.findKey kt k es.toList).run cx.P w = .ok (some (ks.idxOf a, e.val)) w) := by
  have hlen : (mapG key ks val).length = ks.length := by simp [mapG]
  have hat : ∀ j (h : j < ks.length), ∃ e, es[j]? = some e ∧ VRel r w e.key (key ks[j]) ∧ VRel r w e.val (val ks[j]) := by
    intro j hj
    obtain ⟨e, h1, h2, h3⟩ := hm.2.1 j (by omega)
    refine ⟨e, h1, ?_, ?_⟩
    · simpa [mapG] using h2
    · simpa [mapG] using h3
  obtain ⟨d, hd, hs⟩ := L.slow
  have h := L.find hk es.toList ks 0 (by rw [Array.length_toList, hm.1, hlen]) (fun j hj => by
    obtain ⟨e, h1, h2, _⟩ := hat j hj
    exact ⟨e, by rw [Array.getElem?_toList]; exact h1, h2⟩)
  have hfk : (Instr.findKey kt k es.toList).run cx.P w = (Instr.findAsking kt k es.toList 0).run cx.P w := by
    unfold Instr.findKey
    cases hes : es.toList with
    | nil => simp [run_underlying hd, Instr.findNow, Instr.findAsking]
    | cons e l => simp [run_underlying hd, hs]
  rw [hfk]
  rcases h with h | ⟨h1, e, h2, h3⟩
  · exact .inl h
  · refine .inr ⟨h1, e, by rw [← Array.getElem?_toList]; exact h2, ?_, ?_, by rw [h3, Nat.zero_add]⟩
    · obtain ⟨e', m1, m2, m3⟩ := hat _ (List.idxOf_lt_length_of_mem h1)
      rw [Array.getElem?_toList, m1] at h2
      obtain rfl := Option.some.inj h2
      rw [List.getElem_idxOf] at m3; exact m3
    · obtain ⟨e', m1, m2, m3⟩ := hat _ (List.idxOf_lt_length_of_mem h1)
      rw [Array.getElem?_toList, m1] at h2
      obtain rfl := Option.some.inj h2
      rw [List.getElem_idxOf] at m2; exact m2
variable {cx : Cx} {n : Nat} {fr : Fr} {σ : Heap}
theorem OpSpec.entryG {o : Oper} {x : Operand} {id ver mid mver since c i b : Nat} {seen bs : List Nat} {kvs : List (AV × AV)} {p q : AV} (ho : o.op = .entry x) (hx0 : ev cx fr x = .ptr id ver 0) (hσ : σ[id]? = some (ver, some (.miter mid mver since (seen ++ [b]) c)))
    (hσm : σ[mid]? = some (mver, some (.map kvs (some (bs, c))))) (hb : bs[i]? = some b) (hk : kvs[i]? = some (p, q)) : OpSpec cx n fr σ o (.tup [p, q]) σ := by
  have hik : i < kvs.length := by
    rcases Nat.lt_or_ge i kvs.length with h | h
    · exact h
    · rw [List.getElem?_eq_none h] at hk; cases hk
  have h := OpSpec.entry (n := n) ho hx0 hσ hσm hb hik
  rw [List.getElem?_eq_getElem hik] at hk
  rw [Option.some.inj hk] at h
  exact h
end
end Go.Ab
end
section
set_option linter.unusedVariables false
set_option linter.unusedSimpArgs false
set_option maxRecDepth 20000
namespace Go.Proofs.YtgmakmfdjhgjlaaGreatDoor
open Go Go.Ab
theorem xor1_ok (x y : Int) : Calc cx 116 [.int .i64 x, .int .i64 y] (.int .i64 ((IntKind.i64.wrap (x + y)).tmod 2)) :=
  pure_intro (fun a w => Tryz.call116 a w) Tryz.func116 rfl Tryz.ntmps116 rfl .int fun B => by
    refine ab 1000 rfl ⟨by decide, trivial⟩ ?_
    refine S_ret ⟨_, _, rfl, trivial, _, rfl, .refl .int⟩
def bitsN (G : Nat → Nat → Nat) : Nat → Nat → Nat → Nat
  | 0, _, _ => 0
  | k + 1, a, b => G (a % 2) (b % 2) + 2 * bitsN G k (a / 2) (b / 2)
theorem bits_ok (G : Nat → Nat → Nat) (f : FuncId) (hG : ∀ x y, x < 2 → y < 2 → G x y < 2 ∧ Calc cx f [.int .i64 x, .int .i64 y] (.int .i64 (G x y))) (a b : Nat) (ha : a < 4294967296) (hb : b < 4294967296) :
    Calc cx 115 [.int .i64 a, .int .i64 b, .func (.func f) [] []] (.int .i64 (bitsN G 32 a b)) :=
  pure_intro (fun a w => Tryz.call115 a w) Tryz.func115 rfl Tryz.ntmps115 rfl .int fun B => by
    refine ab 1000 rfl trivial ?_
    refine S_while (α := Nat × Nat × Nat × Nat) (fun (i, a, b, n) => [(0, .int .i64 a), (1, .int .i64 b), (2, .func (.func f) [] []), (7, .int .i64 n), (8, .int .i64 ((2 ^ i : Nat) : Int)), (9, .int .i64 i)]) (fun _ => [])
      (fun (i, a', b', n) => i ≤ 32 ∧ a' < 4294967296 ∧ b' < 4294967296 ∧ n < 2 ^ i ∧ n + 2 ^ i * bitsN G (32 - i) a' b' = bitsN G 32 a b) (fun (i, _) => 32 - i) (0, a, b, 0)
      ⟨by decide, ha, hb, by decide, by simp⟩ (.cons rfl (.cons rfl (.cons rfl (.cons rfl (.cons rfl (.cons rfl (.nil _))))))) rfl ?_
    rintro ⟨i, a', b', n⟩ ⟨hi, ha', hb', hn, hN⟩
    have hG' := hG (a' % 2) (b' % 2) (Nat.mod_lt _ (by decide)) (Nat.mod_lt _ (by decide))
    have hp : 2 ^ i ≤ 2 ^ 32 := Nat.pow_le_pow_right (by decide) hi
    refine ab 1000 rfl trivial ?_
    refine S_dec rfl (fun h => ?_) (fun h => ?_)
    · have hi32 : i < 32 := by omega
      refine ab 1000 rfl ⟨by decide, by decide, trivial⟩ ?_
      refine S_pure rfl rfl rfl hG'.2 (.cons (.refl .int) (.cons (.refl .int) (.nil _))) ?_
      refine ab 1000 rfl ⟨by decide, by decide, trivial⟩ ?_
      have hg : G (a' % 2) (b' % 2) < 2 := hG'.1
      have hm : 2 ^ i * G (a' % 2) (b' % 2) ≤ 2 ^ i := by
        rcases Nat.lt_or_ge (G (a' % 2) (b' % 2)) 1 with h | h
        · rw [show G (a' % 2) (b' % 2) = 0 by omega]; simp
        · rw [show G (a' % 2) (b' % 2) = 1 by omega]; simp
      refine S_round (i + 1, a' / 2, b' / 2, n + 2 ^ i * G (a' % 2) (b' % 2)) ?_ ⟨by omega, by omega, by omega, ?_, ?_⟩ (.cons ?_ (.cons ?_ (.cons rfl (.cons ?_ (.cons ?_ (.cons ?_ (.nil _))))))) rfl
      · show 32 - (i + 1) < 32 - i; omega
      · show n + _ < 2 ^ (i + 1); rw [Nat.pow_succ]; omega
      · show n + 2 ^ i * G (a' % 2) (b' % 2) + 2 ^ (i + 1) * bitsN G (32 - (i + 1)) (a' / 2) (b' / 2) = _
        rw [← hN, show 32 - i = (32 - (i + 1)) + 1 by omega, bitsN, Nat.mul_add, Nat.pow_succ, Nat.mul_assoc (2 ^ i) 2]; omega
      · exact ai64 rfl (by omega)
      · exact ai64 rfl (by omega)
      · exact ai64 (congrArg (fun z : Int => (n : Int) + z) (w64 (k := 2 ^ i * G (a' % 2) (b' % 2)) rfl (by omega))) (by omega)
      · exact ai64 (by rw [Nat.pow_succ]; omega) (by rw [Nat.pow_succ]; omega)
      · exact ai64 rfl (by omega)
    · have hi32 : i = 32 := by omega
      subst hi32
      refine ab 1000 rfl trivial ?_
      refine S_ret ⟨_, _, rfl, trivial, _, rfl, ?_⟩
      rw [show bitsN G 32 a b = n by rw [← hN]; simp [bitsN]]
      exact .refl .int
theorem xor1_nat (x y : Nat) (hx : x < 2) (hy : y < 2) : (x + y) % 2 < 2 ∧ Calc cx 116 [.int .i64 x, .int .i64 y] (.int .i64 ((x + y) % 2 : Nat)) := by
  refine ⟨Nat.mod_lt _ (by decide), ?_⟩
  have h := xor1_ok x y
  rw [show (x : Int) + (y : Int) = ((x + y : Nat) : Int) from rfl, w64 (k := x + y) rfl (by omega)] at h
  exact h
def xor2 (a b : Nat) : Nat := bitsN (fun x y => (x + y) % 2) 32 a b
theorem bitsN_lt (G : Nat → Nat → Nat) (hG : ∀ x y, x < 2 → y < 2 → G x y < 2) : ∀ k a b, bitsN G k a b < 2 ^ k
  | 0, _, _ => by simp [bitsN]
  | k + 1, a, b => by
    have h := bitsN_lt G hG k (a / 2) (b / 2)
    have h1 := hG (a % 2) (b % 2) (Nat.mod_lt _ (by decide)) (Nat.mod_lt _ (by decide))
    rw [bitsN, Nat.pow_succ]; omega
theorem xor2_lt (a b : Nat) : xor2 a b < 4294967296 := bitsN_lt _ (fun x y _ _ => Nat.mod_lt _ (by decide)) 32 a b
theorem xor2_ok (a b : Nat) (ha : a < 4294967296) (hb : b < 4294967296) : Calc cx 115 [.int .i64 a, .int .i64 b, .func (.func 116) [] []] (.int .i64 (xor2 a b)) := by
  unfold xor2
  exact bits_ok _ _ xor1_nat a b ha hb
def xorL (l : List Nat) : Nat := l.foldl xor2 0
def ints (l : List Nat) : List AV := l.map fun (x : Nat) => .int .i64 x
theorem xor_ok {st fl : Bool} (l : List Nat) (hl : ∀ x ∈ l, x < 4294967296) (hn : l.length ≤ 4611686018427387904) : Calc cx 94 [.sl st fl 1 (ints l)] (.int .i64 (xorL l)) :=
  pure_intro (fun a w => Tryz.call94 a w) Tryz.func94 rfl Tryz.ntmps94 rfl .int fun B => by
    refine ab 1000 rfl trivial ?_
    refine S_while (α := Nat × Nat) (fun (i, n) => [(0, .sl st fl 1 (ints l)), (3, .int .i64 n), (4, .int .i64 i)]) (fun _ => []) (fun (i, n) => i ≤ l.length ∧ n < 4294967296 ∧ (l.drop i).foldl xor2 n = xorL l) (fun (i, _) => l.length - i) (0, 0)
      ⟨by simp, by decide, by simp [xorL]⟩ (.cons rfl (.cons rfl (.cons rfl (.nil _)))) rfl ?_
    rintro ⟨i, n⟩ ⟨hi, hn', hN⟩
    refine ab 1000 rfl trivial ?_
    refine S_dec rfl (fun h => ?_) (fun h => ?_)
    · have hil : i < l.length := by simp [ints] at h; omega
      refine ab 1000 rfl trivial ?_
      refine S_index (.int .i64 l[i]) rfl rfl rfl ⟨rfl, by omega, by simp [ints, List.getElem?_eq_getElem hil], trivial⟩ ?_
      refine ab 1000 rfl trivial ?_
      have hx := hl _ (List.getElem_mem hil)
      refine S_pure rfl rfl rfl (xor2_ok n l[i] hn' hx) (.cons (.refl .int) (.cons (.refl .int) (.cons (.refl (.func (by simp) (by simp))) (.nil _)))) ?_
      refine ab 1000 rfl trivial ?_
      refine S_round (i + 1, xor2 n l[i]) (by show l.length - (i + 1) < l.length - i; omega) ⟨hil, xor2_lt _ _, ?_⟩ (.cons rfl (.cons rfl (.cons (ai64 rfl (by omega)) (.nil _)))) rfl
      show (l.drop (i + 1)).foldl xor2 (xor2 n l[i]) = _
      rw [← hN, List.drop_eq_getElem_cons hil, List.foldl_cons]
    · have hil : i = l.length := by simp [ints] at h; omega
      subst hil
      refine ab 1000 rfl trivial ?_
      refine S_ret ⟨_, _, rfl, trivial, _, rfl, ?_⟩
      rw [← hN]; simp
      exact .refl .int
end Go.Proofs.YtgmakmfdjhgjlaaGreatDoor
end
section
set_option linter.unusedVariables false
set_option linter.unusedSimpArgs false
set_option maxRecDepth 20000
namespace Go.Proofs.YtgmakmfdjhgjlaaGreatDoor
open Go Go.Ab
theorem xor_half (a b : Nat) : a ^^^ b = (a % 2 + b % 2) % 2 + 2 * ((a / 2) ^^^ (b / 2)) := by
  have h1 : (a ^^^ b) / 2 = (a / 2) ^^^ (b / 2) := by
    have := Nat.shiftRight_xor_distrib (a := a) (b := b) (i := 1)
    simpa [Nat.shiftRight_eq_div_pow] using this
  have h2 : (a ^^^ b) % 2 = (a % 2 + b % 2) % 2 := by
    clear h1
    have h := @Nat.xor_mod_two_eq_one a b
    have hz := Nat.mod_two_eq_zero_or_one (a ^^^ b)
    generalize (a ^^^ b) % 2 = z at *
    rcases Nat.mod_two_eq_zero_or_one a with ha | ha <;> rcases Nat.mod_two_eq_zero_or_one b with hb | hb <;> rw [ha, hb] at h ⊢ <;> rcases hz with rfl | rfl <;> simp at h ⊢
  rw [← h1, ← h2]; omega
theorem bitsN_xor : ∀ k a b, bitsN (fun x y => (x + y) % 2) k a b = (a ^^^ b) % 2 ^ k
  | 0, a, b => by simp [bitsN, Nat.mod_one]
  | k + 1, a, b => by
    rw [bitsN, bitsN_xor k, xor_half a b, Nat.pow_succ, Nat.mul_comm (2 ^ k) 2, Nat.mod_mul]
    have h : (a % 2 + b % 2) % 2 < 2 := Nat.mod_lt _ (by decide)
    generalize (a % 2 + b % 2) % 2 = x at *
    generalize (a / 2) ^^^ (b / 2) = y at *
    have e1 : (x + 2 * y) % 2 = x := by omega
    have e2 : (x + 2 * y) / 2 = y := by omega
    rw [e1, e2]
theorem xor2_eq {a b : Nat} (ha : a < 4294967296) (hb : b < 4294967296) : xor2 a b = a ^^^ b := by
  unfold xor2
  rw [bitsN_xor]
  exact Nat.mod_eq_of_lt (Nat.xor_lt_two_pow (n := 32) ha hb)
theorem xorL_two {a b : Nat} (ha : a < 4294967296) (hb : b < 4294967296) : xorL [a, b] = a ^^^ b := by
  simp only [xorL, List.foldl_cons, List.foldl_nil]
  rw [xor2_eq (by decide) ha, Nat.zero_xor, xor2_eq ha hb]
theorem xorL_three {a b c : Nat} (ha : a < 4294967296) (hb : b < 4294967296) (hc : c < 4294967296) : xorL [a, b, c] = a ^^^ b ^^^ c := by
  simp only [xorL, List.foldl_cons, List.foldl_nil]
  rw [xor2_eq (by decide) ha, Nat.zero_xor, xor2_eq ha hb, xor2_eq (Nat.xor_lt_two_pow (n := 32) ha hb) hc]
end Go.Proofs.YtgmakmfdjhgjlaaGreatDoor
end
section
set_option linter.unusedVariables false
set_option linter.unusedSimpArgs false
set_option maxRecDepth 20000
namespace Go.Proofs.YtgmakmfdjhgjlaaGreatDoor
open Go Go.Ab
theorem Pow2_ok (m : Nat) (hm : m ≤ 62) : Calc cx 91 [.int .i64 m] (.int .i64 ((2 ^ m : Nat) : Int)) :=
  pure_intro (fun a w => Tryz.call91 a w) Tryz.func91 rfl Tryz.ntmps91 rfl .int fun B => by
    refine ab 1000 rfl trivial ?_
    refine S_while (α := Nat) (fun i => [(0, .int .i64 ((m - i : Nat) : Int)), (3, .int .i64 ((2 ^ i : Nat) : Int))]) (fun _ => []) (fun i => i ≤ m) (fun i => m - i) 0 (Nat.zero_le _) (.cons rfl (.cons rfl (.nil _))) rfl ?_
    intro i hi
    have hp : 2 ^ i ≤ 2 ^ 62 := Nat.pow_le_pow_right (by decide) (by omega)
    refine ab 1000 rfl trivial ?_
    refine S_dec rfl (fun h => ?_) (fun h => ?_)
    · have hil : i < m := by omega
      have hp2 : 2 ^ (i + 1) = 2 * 2 ^ i := by rw [Nat.pow_succ]; omega
      have hp3 : 2 ^ (i + 1) ≤ 2 ^ 62 := Nat.pow_le_pow_right (by decide) (by omega)
      refine ab 1000 rfl trivial ?_
      refine S_round (i + 1) (by show m - (i + 1) < m - i; omega) hil (.cons ?_ (.cons ?_ (.nil _))) rfl
      · exact ai64 (k := m - (i + 1)) (by omega) (by omega)
      · exact ai64 (k := 2 ^ (i + 1)) (by rw [hp2]; rfl) (by omega)
    · have him : i = m := by omega
      subst him
      refine ab 1000 rfl trivial ?_
      exact S_retc .int rfl trivial rfl
end Go.Proofs.YtgmakmfdjhgjlaaGreatDoor
end
section
set_option linter.unusedVariables false
set_option linter.unusedSimpArgs false
set_option maxRecDepth 20000
namespace Go.Proofs.YtgmakmfdjhgjlaaGreatDoor
open Go Go.Ab
theorem and_half (a b : Nat) : a &&& b = (a % 2) * (b % 2) + 2 * ((a / 2) &&& (b / 2)) := by
  have h1 : (a &&& b) / 2 = (a / 2) &&& (b / 2) := by
    have := Nat.shiftRight_and_distrib (a := a) (b := b) (i := 1)
    simpa [Nat.shiftRight_eq_div_pow] using this
  have h2 : (a &&& b) % 2 = (a % 2) * (b % 2) := by
    have h := @Nat.and_mod_two_eq_one a b
    have hz := Nat.mod_two_eq_zero_or_one (a &&& b)
    clear h1
    generalize (a &&& b) % 2 = z at *
    rcases Nat.mod_two_eq_zero_or_one a with ha | ha <;> rcases Nat.mod_two_eq_zero_or_one b with hb | hb <;> rw [ha, hb] at h ⊢ <;> rcases hz with rfl | rfl <;> simp at h ⊢
  rw [← h1, ← h2]; omega
theorem bitsN_and : ∀ k a b, bitsN (fun x y => x * y) k a b = (a &&& b) % 2 ^ k
  | 0, a, b => by simp [bitsN, Nat.mod_one]
  | k + 1, a, b => by
    rw [bitsN, bitsN_and k, and_half a b, Nat.pow_succ, Nat.mul_comm (2 ^ k) 2, Nat.mod_mul]
    have h : (a % 2) * (b % 2) < 2 := by
      rcases Nat.mod_two_eq_zero_or_one a with ha | ha <;> rcases Nat.mod_two_eq_zero_or_one b with hb | hb <;> rw [ha, hb] <;> decide
    generalize (a % 2) * (b % 2) = x at *
    generalize (a / 2) &&& (b / 2) = y at *
    have e1 : (x + 2 * y) % 2 = x := by omega
    have e2 : (x + 2 * y) / 2 = y := by omega
    rw [e1, e2]
theorem and1_nat (x y : Nat) (hx : x < 2) (hy : y < 2) : x * y < 2 ∧ Calc cx 117 [.int .i64 x, .int .i64 y] (.int .i64 (x * y : Nat)) := by
  have h2 : x * y < 2 := by
    have : x = 0 ∨ x = 1 := by omega
    rcases this with rfl | rfl <;> simp <;> omega
  refine ⟨h2, pure_intro (fun a w => Tryz.call117 a w) Tryz.func117 rfl Tryz.ntmps117 rfl .int fun B => ?_⟩
  refine ab 1000 rfl trivial ?_
  refine S_retc .int rfl trivial ?_
  exact ai64 (by simp) (by omega)
theorem And_ok (a b : Nat) (ha : a < M32) (hb : b < M32) : Calc cx 97 [.int .i64 a, .int .i64 b] (.int .i64 (a &&& b : Nat)) :=
  pure_intro (fun a w => Tryz.call97 a w) Tryz.func97 rfl Tryz.ntmps97 rfl .int fun B => by
    have hc := bits_ok (fun x y => x * y) 117 and1_nat a b ha hb
    rw [bitsN_and, Nat.mod_eq_of_lt (show a &&& b < 2 ^ 32 from Nat.lt_of_le_of_lt Nat.and_le_left ha)] at hc
    refine ab 1000 rfl trivial ?_
    refine S_pure rfl rfl rfl hc (.cons (.refl .int) (.cons (.refl .int) (.cons (.refl (.func (by simp) (by simp))) (.nil _)))) ?_
    refine ab 1000 rfl trivial ?_
    exact S_retc .int rfl trivial rfl
theorem Wrap_ok (n : Nat) (hn : n ≤ 4611686018427387904) : Calc cx 96 [.int .i64 n] (.int .i64 (n % M32 : Nat)) :=
  pure_intro (fun a w => Tryz.call96 a w) Tryz.func96 rfl Tryz.ntmps96 rfl .int fun B => by
    have e : (n : Int).tmod 4294967296 = ((n % M32 : Nat) : Int) := rfl
    refine ab 1000 rfl ⟨by decide, trivial⟩ ?_
    refine S_dec rfl (fun h => ?_) (fun h => ?_)
    · exfalso
      have h : (n : Int).tmod 4294967296 < 0 := h
      rw [e] at h; omega
    · refine ab 1000 rfl trivial ?_
      exact S_retc .int rfl trivial rfl
theorem rotr_sum {x n : Nat} (h1 : n ≤ 32) : x / 2 ^ n + x % 2 ^ n * 2 ^ (32 - n) = rotr x n ∨ M32 ≤ x := by
  rcases Nat.lt_or_ge x M32 with hx | hx
  · left
    have e : M32 = 2 ^ n * 2 ^ (32 - n) := by rw [← Nat.pow_add, show n + (32 - n) = 32 by omega]; rfl
    have e2 : x * 2 ^ (32 - n) % M32 = x % 2 ^ n * 2 ^ (32 - n) := by rw [e, Nat.mul_mod_mul_right]
    have h3 : x / 2 ^ n < 2 ^ (32 - n) := by
      rw [Nat.div_lt_iff_lt_mul (Nat.two_pow_pos n), Nat.mul_comm, ← e]; exact hx
    rw [rotr, e2, Nat.mul_comm (x % 2 ^ n), ← Nat.two_pow_add_eq_or_of_lt h3, Nat.add_comm]
  · exact .inr hx
theorem Right_ok (x n : Nat) (hx : x < M32) (h1 : 1 ≤ n) (h2 : n ≤ 31) : Calc cx 95 [.int .i64 x, .int .i64 n] (.int .i64 (rotr x n : Nat)) :=
  pure_intro (fun a w => Tryz.call95 a w) Tryz.func95 rfl Tryz.ntmps95 rfl .int fun B => by
    have hs := (rotr_sum (x := x) (n := n) (by omega)).resolve_right (by omega)
    have hlt := rotr_lt n hx
    have hw : IntKind.i64.wrap (32 - (n : Int)) = ((32 - n : Nat) : Int) := w64 (by omega) (by omega)
    have p1 : 0 < 2 ^ n := Nat.two_pow_pos n
    have p2 : 0 < 2 ^ (32 - n) := Nat.two_pow_pos _
    have hx' : x < 4294967296 := hx
    have q1 : x / 2 ^ n ≤ x := Nat.div_le_self _ _
    have hlt' : rotr x n < 4294967296 := hlt
    have d1 : IntKind.i64.wrap ((x : Int).tdiv ((2 ^ n : Nat) : Int)) = ((x / 2 ^ n : Nat) : Int) := w64 rfl (by omega)
    have d2 : (x : Int).tmod ((2 ^ n : Nat) : Int) = ((x % 2 ^ n : Nat) : Int) := rfl
    have d0 : x % 2 ^ n * 2 ^ (32 - n) < 4294967296 := Nat.lt_of_le_of_lt (Nat.le_add_left _ _) (hs ▸ hlt')
    have d3 : IntKind.i64.wrap (((x % 2 ^ n : Nat) : Int) * ((2 ^ (32 - n) : Nat) : Int)) = ((x % 2 ^ n * 2 ^ (32 - n) : Nat) : Int) := w64 (by simp) (by generalize x % 2 ^ n * 2 ^ (32 - n) = z at *; omega)
    refine ab 1000 rfl trivial ?_
    refine S_draw 13 [] [.int .i64 ((2 ^ n : Nat) : Int), .int .i64 ((2 ^ n : Nat) : Int), .int .i64 ((2 ^ (32 - n) : Nat) : Int)] rfl rfl rfl rfl ⟨rfl, rfl, ⟨_, Pow2_ok n (by omega), .cons (.refl .int) (.nil _)⟩, rfl, by omega, rfl, rfl, ⟨_, Pow2_ok n (by omega), .cons (.refl .int) (.nil _)⟩, rfl, by omega, rfl, rfl, ⟨_, Pow2_ok (32 - n) (by omega), .cons (by rw [← hw]; exact .refl .int) (.nil _)⟩, rfl, rfl, trivial⟩ ?_
    refine ab 1000 rfl trivial ?_
    refine S_retc .int rfl trivial ?_
    show AV.int .i64 (IntKind.i64.wrap (IntKind.i64.wrap ((x : Int).tdiv ((2 ^ n : Nat) : Int)) + IntKind.i64.wrap ((x : Int).tmod ((2 ^ n : Nat) : Int) * ((2 ^ (32 - n) : Nat) : Int)))) = _
    rw [d2, d1, d3]
    exact ai64 (by rw [← hs]; simp) (by omega)
theorem Constants_ok : Calc cx 92 [] (.sl true true 1 (ints kTab)) :=
  pure_intro (fun a w => Tryz.call92 a w) Tryz.func92 rfl Tryz.ntmps92 rfl (.sl (fun _ => rfl) (by intro x hx; obtain ⟨y, _, rfl⟩ := List.mem_map.1 hx; exact .int)) fun B => by
    refine ab 1000 rfl trivial ?_
    exact S_retc (.sl (fun _ => rfl) (by intro x hx; obtain ⟨y, _, rfl⟩ := List.mem_map.1 hx; exact .int)) rfl trivial rfl
def iB (v : Nat) (l : List Nat) : Nat × Option Box := (v, some (.cells (ints l) ⟨false, none⟩))
theorem Firsts_ok : CallOk cx 93 [] [] (fun o σ' => o = .ret (.ms 0 0 0 8 1 true) ∧ σ' = [iB 0 hTab]) :=
  callOk_intro (fun a w => Tryz.call93 a w) Tryz.func93 rfl Tryz.ntmps93 rfl fun B => by
    refine go (M := [1]) 1000 rfl trivial ?_
    exact S_ret ⟨_, _, rfl, trivial, rfl, rfl⟩
end Go.Proofs.YtgmakmfdjhgjlaaGreatDoor
end
section
set_option linter.unusedVariables false
set_option linter.unusedSimpArgs false
set_option maxRecDepth 20000
namespace Go.Proofs.YtgmakmfdjhgjlaaGreatDoor
open Go Go.Ab
theorem ints_len (l : List Nat) : (ints l).length = l.length := by simp [ints]
theorem ints_one (l : List Nat) : ∀ x ∈ ints l, x.one = true := by
  intro x hx; obtain ⟨y, _, rfl⟩ := List.mem_map.1 hx; rfl
theorem ints_any {st : Bool} (l : List Nat) : ∀ x ∈ ints l, Free st x := by
  intro x hx; obtain ⟨y, _, rfl⟩ := List.mem_map.1 hx; exact .int
theorem ints_get {l : List Nat} {i : Nat} (h : i < l.length) : (ints l)[i]? = some (.int .i64 (l.getD i 0 : Nat)) := by
  simp [ints, List.getD, h]
theorem ints_ld {l : List Nat} {i : Nat} (h : i < l.length) : ((ints l).drop i)[0]? = some (.int .i64 (l.getD i 0 : Nat)) := by
  simp [ints, List.getD, h]
theorem getD_mid (A : List Nat) (x : Nat) (B : List Nat) : (A ++ x :: B).getD A.length 0 = x := by simp [List.getD]
def WInv (p : List UInt8) (t : Nat) (w : List Nat) : Prop := w.length = t ∧ W32 w ∧ (t ≤ 16 → w = (words p).take t) ∧ (16 ≤ t → sched (64 - t) w = schedOf p)
theorem sum4 {Z a V b : Nat} (hZ : Z < M32) (ha : a < M32) (hV : V < M32) (hb : b < M32) :
    IntKind.i64.wrap (IntKind.i64.wrap (IntKind.i64.wrap ((Z : Int) + (a : Int)) + (V : Int)) + (b : Int)) = ((Z + a + V + b : Nat) : Int) ∧ Z + a + V + b ≤ 4611686018427387904 := by
  simp only [M32] at *
  have e1 : IntKind.i64.wrap ((Z : Int) + (a : Int)) = ((Z + a : Nat) : Int) := w64 (by omega) (by omega)
  have e2 : IntKind.i64.wrap (((Z + a : Nat) : Int) + (V : Int)) = ((Z + a + V : Nat) : Int) := w64 (by omega) (by omega)
  have e3 : IntKind.i64.wrap (((Z + a + V : Nat) : Int) + (b : Int)) = ((Z + a + V + b : Nat) : Int) := w64 (by omega) (by omega)
  rw [e1, e2, e3]
  exact ⟨rfl, by omega⟩
theorem sum5 {Z a V b d : Nat} (hZ : Z < M32) (ha : a < M32) (hV : V < M32) (hb : b < M32) (hd : d < M32) :
    IntKind.i64.wrap (IntKind.i64.wrap (IntKind.i64.wrap (IntKind.i64.wrap ((Z : Int) + (a : Int)) + (V : Int)) + (b : Int)) + (d : Int)) = ((Z + a + V + b + d : Nat) : Int) ∧ Z + a + V + b + d ≤ 4611686018427387904 := by
  obtain ⟨h1, _⟩ := sum4 hZ ha hV hb
  rw [h1]
  simp only [M32] at *
  exact ⟨w64 (by omega) (by omega), by omega⟩
theorem sum2 {Z a : Nat} (hZ : Z < M32) (ha : a < M32 + M32) : IntKind.i64.wrap ((Z : Int) + (a : Int)) = ((Z + a : Nat) : Int) ∧ Z + a ≤ 4611686018427387904 := by
  simp only [M32] at *
  exact ⟨w64 (by omega) (by omega), by omega⟩
theorem lt2 {a : Nat} (h : a < M32) : a < M32 + M32 := Nat.lt_of_lt_of_le h (Nat.le_add_left _ _)
theorem round_eq (v0 v1 v2 v3 v4 v5 v6 v7 kt wt : Nat) : round [v0, v1, v2, v3, v4, v5, v6, v7] (kt + wt) =
    [((v7 + Sig1 v4 + ((v4 &&& v5) ^^^ ((4294967295 - v4) &&& v6)) + kt + wt) % M32 + (Sig0 v0 + ((v0 &&& v1) ^^^ (v0 &&& v2) ^^^ (v1 &&& v2)))) % M32, v0, v1, v2,
      (v3 + (v7 + Sig1 v4 + ((v4 &&& v5) ^^^ ((4294967295 - v4) &&& v6)) + kt + wt) % M32) % M32, v4, v5, v6] := by
  simp only [round, List.getD, List.getElem?_cons_zero, List.getElem?_cons_succ, Option.getD_some]
  rw [Nat.add_mod_mod, ← Nat.add_assoc (v7 + Sig1 v4 + ((v4 &&& v5) ^^^ ((4294967295 - v4) &&& v6))) kt wt]
theorem div32 {X k : Nat} (hX : X < M32) : IntKind.i64.wrap ((X : Int).tdiv (k : Int)) = ((X / k : Nat) : Int) :=
  w64 rfl (by have := Nat.div_le_self X k; simp only [M32] at hX; omega)
set_option maxHeartbeats 8000000 in
theorem SumR_ok (s : List UInt8) (hs : s.length ≤ 70368744177664) : Calc cx 70 [.str s] (.str (sha s)) :=
  pure_intro (fun a w => Tryz.call70 a w) Tryz.func70 rfl Tryz.ntmps70 rfl .str fun B => by
    refine go (M := [30]) 1000 rfl ⟨?_, ?_, ?_, rfl, rfl, allOne_mem (cs := [.int .u8 128]) rfl, allOne_mem (cs := [.int .u8 128]) rfl, rfl, trivial⟩ ?_
    · show s.length + 1 ≤ 9223372036854775807; omega
    · show (s.length + 1) * 1 ≤ 140737488355328; omega
    · show 0 + s.length * 1 = (s.map byteAV).length; simp
    have hbl : ∀ k, ((s ++ [128] ++ List.replicate k (0 : UInt8))).length = s.length + 1 + k := fun k => by simp; omega
    have hpl : padLen s.length < 64 := Nat.mod_lt _ (by decide)
    refine S_while (α := Nat × Nat) (fun (u, k) => [(0, .str s), (3, .ms 0 u 0 (s.length + 1 + k) 1 false)]) (fun (u, k) => [bB u (s ++ [128] ++ List.replicate k 0) ⟨false, some 5⟩])
      (fun (u, k) => k ≤ padLen s.length) (fun (u, k) => padLen s.length - k) (1, 0)
      (Nat.zero_le _) (.cons rfl (.cons rfl (.nil _))) (by simp only [bB, List.replicate_zero, List.append_nil, List.map_append, List.map_cons, List.map_nil]; rfl) ?_
    rintro ⟨u, k⟩ hk
    refine ab 1000 rfl ⟨by decide, trivial⟩ ?_
    have hmod : (((s.length + 1 + k : Nat) : Int)).tmod 64 = (((s.length + 1 + k) % 64 : Nat) : Int) := rfl
    refine S_bne rfl (fun h56 => ?_) (fun h56 => ?_)
    · have h56 : (s.length + 1 + k) % 64 ≠ 56 := by
        have : ((((s.length + 1 + k : Nat) : Int)).tmod 64) ≠ 56 := h56
        rw [hmod] at this; omega
      have hkl : k < padLen s.length := by unfold padLen at *; omega
      refine ab 1000 rfl ⟨?_, ?_, ?_, rfl, rfl, allOne_mem (cs := [.int .u8 0]) rfl, allOne_mem (cs := [.int .u8 0]) rfl, rfl, trivial⟩ ?_
      · show s.length + 1 + k + 1 ≤ 9223372036854775807; omega
      · show (s.length + 1 + k + 1) * 1 ≤ 140737488355328; omega
      · show 0 + (s.length + 1 + k) * 1 = ((s ++ [128] ++ List.replicate k (0 : UInt8)).map byteAV).length
        rw [List.length_map, hbl]; omega
      refine S_round (u + 1, k + 1) (by show padLen s.length - (k + 1) < padLen s.length - k; omega) hkl (.cons rfl (.cons rfl (.nil _))) ?_
      show [(u + 1, some (Box.cells ((s ++ [128] ++ List.replicate k (0 : UInt8)).map byteAV ++ [.int .u8 0]) _))] = [bB (u + 1) (s ++ [128] ++ List.replicate (k + 1) 0) _]
      rw [List.replicate_succ', ← List.append_assoc]
      simp only [bB, List.map_append, List.map_cons, List.map_nil]
      rfl
    have h56 : (s.length + 1 + k) % 64 = 56 := by
      have : ((((s.length + 1 + k : Nat) : Int)).tmod 64) = 56 := h56
      rw [hmod] at this; omega
    have hkl : k = padLen s.length := by unfold padLen at *; omega
    subst hkl
    obtain ⟨base, hbase⟩ : ∃ base, base = s ++ [128] ++ List.replicate (padLen s.length) (0 : UInt8) := ⟨_, rfl⟩
    have hbl' : base.length = s.length + 1 + padLen s.length := by rw [hbase]; exact hbl _
    have hpd : padded s = base ++ be8 (8 * s.length) := by rw [hbase]; rfl
    have hw8 : IntKind.i64.wrap (8 * (s.length : Int)) = ((8 * s.length : Nat) : Int) := w64 (by omega) (by omega)
    refine ab 1000 rfl trivial ?_
    refine S_while (α := Nat × Nat) (fun (u, j) => [(3, .ms 0 u 0 (base.length + j) 1 false), (4, .int .i64 (8 * s.length : Nat)), (5, .int .i64 (7 - (j : Int)))]) (fun (u, j) => [bB u (base ++ (be8 (8 * s.length)).take j) ⟨false, some 5⟩])
      (fun (u, j) => j ≤ 8) (fun (u, j) => 8 - j) (u, 0)
      (Nat.zero_le _) (.cons (by rw [hbl']; rfl) (.cons (ai64 (by omega) (by omega)) (.cons rfl (.nil _)))) (by rw [hbase]; simp) ?_
    rintro ⟨u, j⟩ hj
    refine ab 1000 rfl trivial ?_
    refine S_dec rfl (fun hlt => ?_) (fun hlt => ?_)
    · have hj8 : j < 8 := by omega
      have hw3 : IntKind.i64.wrap (8 * (7 - (j : Int))) = ((8 * (7 - j) : Nat) : Int) := w64 (by omega) (by omega)
      refine ab 1000 rfl trivial ?_
      refine S_pure rfl rfl rfl (Pow2_ok (8 * (7 - j)) (by omega)) (.cons (by show Frz false _ (AV.int .i64 (IntKind.i64.wrap (8 * (7 - (j : Int))))) _; rw [hw3]; exact .refl .int) (.nil _)) ?_
      have hp0 : 0 < 2 ^ (8 * (7 - j)) := Nat.two_pow_pos _
      have e256 : (2 : Nat) ^ (8 * (7 - j)) = 256 ^ (7 - j) := by rw [show (256 : Nat) = 2 ^ 8 from rfl, ← Nat.pow_mul]
      have hval : AV.int .u8 (IntKind.u8.wrap ((IntKind.i64.wrap (((8 * s.length : Nat) : Int).tdiv ((2 ^ (8 * (7 - j)) : Nat) : Int))).tmod 256)) = byteAV (UInt8.ofNat (8 * s.length / 256 ^ (7 - j) % 256)) := by
        have hd : IntKind.i64.wrap (((8 * s.length : Nat) : Int).tdiv ((2 ^ (8 * (7 - j)) : Nat) : Int)) = ((8 * s.length / 256 ^ (7 - j) : Nat) : Int) := by
          rw [← e256]
          exact w64 rfl (by have := Nat.div_le_self (8 * s.length) (2 ^ (8 * (7 - j))); omega)
        rw [hd]
        show AV.int .u8 (IntKind.u8.wrap ((8 * s.length / 256 ^ (7 - j) % 256 : Nat) : Int)) = _
        rw [wrap_low rfl]
        exact byteAV_of (by simp [IntKind.bits]) (Nat.mod_lt _ (by decide))
      refine ab 1000 rfl ⟨?_, ?_, ?_, rfl, rfl, ?_, ?_, rfl, by decide, by omega, trivial⟩ ?_
      · show base.length + j + 1 ≤ 9223372036854775807; omega
      · show (base.length + j + 1) * 1 ≤ 140737488355328; omega
      · show 0 + (base.length + j) * 1 = ((base ++ (be8 (8 * s.length)).take j).map byteAV).length
        simp [be8]; omega
      · exact allOne_mem (cs := [.int .u8 _]) rfl
      · exact allOne_mem (cs := [.int .u8 _]) rfl
      refine S_round (u + 1, j + 1) (by show 8 - (j + 1) < 8 - j; omega) hj8 (.cons rfl (.cons rfl (.cons ?_ (.nil _)))) ?_
      · show AV.int .i64 (IntKind.i64.wrap (7 - (j : Int) - 1)) = .int .i64 (7 - ((j + 1 : Nat) : Int))
        exact ai64i (by omega) (by omega)
      · show [(u + 1, some (Box.cells ((base ++ (be8 (8 * s.length)).take j).map byteAV ++ [AV.int .u8 (IntKind.u8.wrap ((IntKind.i64.wrap (((8 * s.length : Nat) : Int).tdiv ((2 ^ (8 * (7 - j)) : Nat) : Int))).tmod 256))]) _))] = [bB (u + 1) (base ++ (be8 (8 * s.length)).take (j + 1)) _]
        rw [hval]
        have ht : (be8 (8 * s.length)).take (j + 1) = (be8 (8 * s.length)).take j ++ [UInt8.ofNat (8 * s.length / 256 ^ (7 - j) % 256)] := by
          rw [List.take_succ_eq_append_getElem (by simp [be8]; omega)]
          simp [be8]
        rw [ht]
        simp only [bB, List.map_append, List.map_cons, List.map_nil, List.append_assoc]
        rfl
    have hj8 : j = 8 := by omega
    subst hj8
    have htake : base ++ (be8 (8 * s.length)).take 8 = padded s := by rw [hpd, List.take_of_length_le (by simp [be8])]
    have hPl : (padded s).length = base.length + 8 := by rw [hpd, List.length_append]; simp [be8]
    have hPm := padded_mod s
    have hPb : (padded s).length ≤ 140737488355328 := by rw [padded_len]; omega
    refine S_heap [bB u (padded s) ⟨false, some 5⟩] (by rw [← htake]) ?_
    refine ab 1000 rfl trivial ?_
    refine S_pure rfl rfl rfl Constants_ok (.nil _) ?_
    refine ab 1000 rfl trivial ?_
    refine S_callf [] Firsts_ok rfl (.nil _) (Part.mk' (es := []) rfl rfl (.nil _)) rfl rfl ?_ (by rintro y σ1 ⟨h1, _⟩; cases h1)
    rintro y σ1 ⟨h1, rfl⟩
    cases h1
    refine ⟨.ms 1 0 0 8 1 true, [iB 0 hTab], .cons (.live (.cells (Rns.free (ints_any _)))) (.nil _), .ms rfl, ?_⟩
    refine S_heap [bB u (padded s) ⟨false, some 5⟩, iB 0 hTab] rfl ?_
    refine ab 1000 rfl trivial ?_
    refine S_dead ?_ ⟨_, _, .inl rfl⟩
    refine S_dead ?_ ⟨_, _, .inl rfl⟩
    refine S_dead ?_ ⟨_, _, .inl rfl⟩
    obtain ⟨P, hP⟩ : ∃ P, P = padded s := ⟨_, rfl⟩
    rw [← hP] at hPl hPm hPb ⊢
    have hHs : hashOf s = blocks (P.length / 64) hTab P := by rw [hP]; rfl
    refine S_while (α := Nat × List Nat × Nat × Nat × Nat) (fun (m, h, a, b, c) => [(3, .ms 0 u 0 P.length 1 false), (6, .sl true true 1 (ints kTab)), (7, .ms 1 0 0 8 1 true), (8, .int .i64 (64 * m : Nat))])
      (fun (m, h, a, b, c) => [bB u P ⟨false, some 5⟩, iB 0 h, (a, none), (b, none), (c, none)])
      (fun (m, h, a, b, c) => 64 * m ≤ P.length ∧ h.length = 8 ∧ W32 h ∧ blocks (P.length / 64 - m) h (P.drop (64 * m)) = hashOf s) (fun (m, h, a, b, c) => P.length - 64 * m) (0, hTab, 0, 0, 0)
      ⟨Nat.zero_le _, rfl, by show ∀ x ∈ hTab, x < M32; decide +kernel, by rw [hHs]; rfl⟩ (.cons (by rw [hPl]; rfl) (.cons rfl (.cons rfl (.cons rfl (.nil _))))) rfl ?_
    rintro ⟨m, h, a, b, c⟩ ⟨hm, hhl, hh32, hN⟩
    refine ab 1000 rfl trivial ?_
    refine S_dec rfl (fun hlt => ?_) (fun hlt => ?_)
    · have hm64 : 64 * m + 64 ≤ P.length := by omega
      obtain ⟨p, hp⟩ : ∃ p, p = P.drop (64 * m) := ⟨_, rfl⟩
      have hpl : 64 ≤ p.length := by rw [hp, List.length_drop]; omega
      have hpg : ∀ i, i < 64 → P.getD (64 * m + i) 0 = p.getD i 0 := by
        intro i hi
        rw [hp]
        simp [List.getD]
      refine ab 1000 rfl trivial ?_
      refine S_ghostF (t := 9) 1 ⟨false, none⟩ rfl rfl ⟨_, _, .inl rfl⟩ ?_
      refine S_while (α := Nat × List Nat × Nat) (fun (t, w, x) => [(3, .ms 0 u 0 P.length 1 false), (6, .sl true true 1 (ints kTab)), (7, .ms 1 0 0 8 1 true), (8, .int .i64 (64 * m : Nat)), (9, .ms 2 x 0 t 1 false), (10, .int .i64 (t : Nat))])
        (fun (t, w, x) => [bB u P ⟨false, some 5⟩, iB 0 h, iB x w, (b, none), (c, none)])
        (fun (t, w, x) => t ≤ 64 ∧ WInv p t w) (fun (t, w, x) => 64 - t) (0, [], a + 1)
        ⟨Nat.zero_le _, rfl, (by intro y hy; cases hy), fun _ => rfl, fun h => absurd h (by decide)⟩ (.cons rfl (.cons rfl (.cons rfl (.cons rfl (.cons rfl (.cons rfl (.nil _))))))) rfl ?_
      rintro ⟨t, w, x⟩ ⟨ht64, hwl, hw32, hw16, hws⟩
      have ht64 : t ≤ 64 := ht64
      refine ab 1000 rfl trivial ?_
      refine S_dec rfl (fun hlt => ?_) (fun hlt => ?_)
      · have ht : t < 64 := by omega
        refine ab 1000 rfl trivial ?_
        refine S_dec rfl (fun hlt => ?_) (fun hlt => ?_)
        · have ht16 : t < 16 := by omega
          have hw0 := hw16 (by omega)
          refine ab 1000 rfl trivial ?_
          refine S_while (α := Nat) (fun j => [(3, .ms 0 u 0 P.length 1 false), (6, .sl true true 1 (ints kTab)), (7, .ms 1 0 0 8 1 true), (8, .int .i64 (64 * m : Nat)), (9, .ms 2 x 0 t 1 false), (10, .int .i64 (t : Nat)), (11, .int .i64 (accW p (4 * t) j : Nat)), (12, .int .i64 (j : Nat))])
            (fun j => [bB u P ⟨false, some 5⟩, iB 0 h, iB x w, (b, none), (c, none)]) (fun j => j ≤ 4) (fun j => 4 - j) 0
            (Nat.zero_le _) (.cons rfl (.cons rfl (.cons rfl (.cons rfl (.cons rfl (.cons rfl (.cons rfl (.cons rfl (.nil _))))))))) rfl ?_
          intro j hj
          refine ab 1000 rfl trivial ?_
          refine S_dec rfl (fun hlt => ?_) (fun hlt => ?_)
          · have hj4 : j < 4 := by omega
            have hacc := accW_lt p (4 * t) j
            have hap : 256 ^ j ≤ 256 ^ 3 := Nat.pow_le_pow_right (by decide) (by omega)
            have hi1 : IntKind.i64.wrap (4 * (t : Int)) = ((4 * t : Nat) : Int) := w64 (by omega) (by omega)
            have hi2 : IntKind.i64.wrap (((64 * m : Nat) : Int) + ((4 * t : Nat) : Int)) = ((64 * m + 4 * t : Nat) : Int) := w64 (by omega) (by omega)
            have hi3 : IntKind.i64.wrap (((64 * m + 4 * t : Nat) : Int) + (j : Int)) = ((64 * m + (4 * t + j) : Nat) : Int) := w64 (by omega) (by omega)
            refine ab 1000 rfl trivial ?_
            refine S_index .top rfl rfl rfl ⟨rfl, by rw [hi1, hi2, hi3]; omega, by rw [hi1, hi2, hi3]; omega, trivial⟩ ?_
            refine S_load (byteAV (p.getD (4 * t + j) 0)) rfl rfl rfl ⟨rfl, ?_, trivial⟩ ?_
            · show ((P.map byteAV).drop (offN 0 (mulN (IntKind.i64.wrap (IntKind.i64.wrap (((64 * m : Nat) : Int) + IntKind.i64.wrap (4 * (t : Int))) + (j : Int))).toNat 1)))[0]? = _
              rw [hi1, hi2, hi3, offN_eq, mulN_eq, Int.toNat_natCast, Nat.mul_one, Nat.zero_add, bytes_ld (by omega), hpg _ (by omega)]
            refine ab 1000 rfl trivial ?_
            have hb8 := (p.getD (4 * t + j) 0).toNat_lt
            refine S_round (j + 1) (by show 4 - (j + 1) < 4 - j; omega) hj4 (.cons rfl (.cons rfl (.cons rfl (.cons rfl (.cons rfl (.cons rfl (.cons ?_ (.cons (ai64 rfl (by omega)) (.nil _))))))))) rfl
            show AV.int .i64 (IntKind.i64.wrap (IntKind.i64.wrap (256 * ((accW p (4 * t) j : Nat) : Int)) + IntKind.i64.wrap (((p.getD (4 * t + j) 0).toNat : Nat) : Int))) = .int .i64 (accW p (4 * t) (j + 1) : Nat)
            rw [w64 (x := 256 * ((accW p (4 * t) j : Nat) : Int)) (k := 256 * accW p (4 * t) j) (by omega) (by omega), w64 (k := (p.getD (4 * t + j) 0).toNat) rfl (by omega)]
            exact ai64 (by rw [accW]; omega) (by rw [accW]; omega)
          · have hj4 : j = 4 := by omega
            subst hj4
            have hacc := accW_lt p (4 * t) 4
            refine ab 1000 rfl ⟨?_, ?_, ?_, rfl, rfl, ?_, ?_, rfl, trivial⟩ ?_
            · show t + 1 ≤ 9223372036854775807; omega
            · show (t + 1) * 8 ≤ 140737488355328; omega
            · show 0 + t * 1 = (ints w).length; rw [ints_len]; omega
            · exact allOne_mem (cs := [.int .i64 _]) rfl
            · exact allOne_mem (cs := [.int .i64 _]) rfl
            have hnext : (words p).take (t + 1) = w ++ [accW p (4 * t) 4] := by
              rw [List.take_succ_eq_append_getElem (by rw [words_len]; exact ht16), words_get p ht16, ← hw0]
            refine S_round (t + 1, w ++ [accW p (4 * t) 4], x + 1) (by show 64 - (t + 1) < 64 - t; omega) ⟨by omega, by simp [hwl], hw32.app (.one hacc), fun _ => hnext.symm, fun h => ?_⟩ (.cons rfl (.cons rfl (.cons rfl (.cons rfl (.cons rfl (.cons (ai64 rfl (by omega)) (.nil _))))))) ?_
            · have h15 : t + 1 = 16 := by omega
              rw [← hnext, h15, List.take_of_length_le (by rw [words_len]; exact Nat.le_refl _)]; rfl
            · show [bB u P _, iB 0 h, (x + 1, some (Box.cells (ints w ++ [.int .i64 (accW p (4 * t) 4 : Nat)]) ⟨false, none⟩)), (b, none), (c, none)] = _
              simp [iB, ints]
        · have ht16 : 16 ≤ t := by omega
          have hi15 : IntKind.i64.wrap ((t : Int) - 15) = ((t - 15 : Nat) : Int) := w64 (by omega) (by omega)
          have hi2 : IntKind.i64.wrap ((t : Int) - 2) = ((t - 2 : Nat) : Int) := w64 (by omega) (by omega)
          have hi16 : IntKind.i64.wrap ((t : Int) - 16) = ((t - 16 : Nat) : Int) := w64 (by omega) (by omega)
          have hi7 : IntKind.i64.wrap ((t : Int) - 7) = ((t - 7 : Nat) : Int) := w64 (by omega) (by omega)
          have g15 : 0 ≤ IntKind.i64.wrap ((t : Int) - 15) ∧ IntKind.i64.wrap ((t : Int) - 15) < (t : Int) ∧ t - 15 < t := by rw [hi15]; omega
          have g2 : 0 ≤ IntKind.i64.wrap ((t : Int) - 2) ∧ IntKind.i64.wrap ((t : Int) - 2) < (t : Int) ∧ t - 2 < t := by rw [hi2]; omega
          have g16 : 0 ≤ IntKind.i64.wrap ((t : Int) - 16) ∧ IntKind.i64.wrap ((t : Int) - 16) < (t : Int) ∧ t - 16 < t := by rw [hi16]; omega
          have g7 : 0 ≤ IntKind.i64.wrap ((t : Int) - 7) ∧ IntKind.i64.wrap ((t : Int) - 7) < (t : Int) ∧ t - 7 < t := by rw [hi7]; omega
          have k1 : t + 1 ≤ 9223372036854775807 ∧ (t + 1) * 8 ≤ 140737488355328 ∧ 0 + t * 1 = (ints w).length := by rw [ints_len]; omega
          have k2 : 64 - (t + 1) < 64 - t ∧ t + 1 ≤ 64 ∧ ¬ t + 1 ≤ 16 ∧ (w ++ [wNext w]).length = t + 1 := by rw [List.length_append]; simp only [List.length_cons, List.length_nil]; omega
          have k3 : AV.int .i64 (IntKind.i64.wrap ((t : Int) + 1)) = .int .i64 ((t + 1 : Nat) : Int) := ai64 rfl (by omega)
          have k4 : 64 - t = (64 - (t + 1)) + 1 := by omega
          have ld : ∀ (i : Int) (k : Nat), i = (k : Int) → k < t → ((ints w).drop (offN 0 (mulN i.toNat 1)))[0]? = some (.int .i64 (w.getD k 0 : Nat)) := by
            intro i k hi hk
            rw [hi, offN_eq, mulN_eq, Int.toNat_natCast, Nat.mul_one, Nat.zero_add, ints_ld (by omega)]
          obtain ⟨X, hX⟩ : ∃ X, X = w.getD (t - 15) 0 := ⟨_, rfl⟩
          obtain ⟨Y, hY⟩ : ∃ Y, Y = w.getD (t - 2) 0 := ⟨_, rfl⟩
          obtain ⟨Z, hZ⟩ : ∃ Z, Z = w.getD (t - 16) 0 := ⟨_, rfl⟩
          obtain ⟨V, hV⟩ : ∃ V, V = w.getD (t - 7) 0 := ⟨_, rfl⟩
          have hX32 : X < M32 := by rw [hX]; exact hw32.getD _
          have hY32 : Y < M32 := by rw [hY]; exact hw32.getD _
          have hZ32 : Z < M32 := by rw [hZ]; exact hw32.getD _
          have hV32 : V < M32 := by rw [hV]; exact hw32.getD _
          refine ab 1000 rfl trivial ?_
          refine S_draw 12 [] [.top, .int .i64 (X : Nat), .top, .int .i64 (Y : Nat)] rfl rfl rfl rfl ⟨rfl, rfl, rfl, rfl, g15.1, g15.2.1, rfl, (by rw [hX]; exact ld _ _ hi15 g15.2.2), rfl, rfl, rfl, rfl, g2.1, g2.2.1, rfl, (by rw [hY]; exact ld _ _ hi2 g2.2.2), rfl, rfl, trivial⟩ ?_
          refine ab 1000 rfl trivial ?_
          refine S_pure rfl rfl rfl (Right_ok X 7 hX32 (by decide) (by decide)) (.cons (.refl .int) (.cons (.refl .int) (.nil _))) ?_
          refine ab 1000 rfl trivial ?_
          refine S_pure rfl rfl rfl (Right_ok X 18 hX32 (by decide) (by decide)) (.cons (.refl .int) (.cons (.refl .int) (.nil _))) ?_
          refine ab 1000 rfl ⟨by decide, trivial⟩ ?_
          have hx8 : IntKind.i64.wrap ((X : Int).tdiv 8) = ((X / 8 : Nat) : Int) := div32 (k := 8) hX32
          have hs0 : Calc cx 94 [.sl true true 1 (ints [rotr X 7, rotr X 18, X / 8])] (.int .i64 (sig0 X : Nat)) := by
            have := xor_ok (st := true) (fl := true) [rotr X 7, rotr X 18, X / 8] (by intro y hy; simp at hy; rcases hy with rfl | rfl | rfl; exact rotr_lt _ hX32; exact rotr_lt _ hX32; exact div_lt _ hX32) (by simp)
            rwa [xorL_three (rotr_lt _ hX32) (rotr_lt _ hX32) (div_lt _ hX32)] at this
          refine S_pure rfl rfl rfl hs0 (.cons ?_ (.nil _)) ?_
          · show Frz false _ (.sl true true 1 [.int .i64 (rotr X 7 : Nat), .int .i64 (rotr X 18 : Nat), .int .i64 (IntKind.i64.wrap ((X : Int).tdiv 8))]) _
            rw [hx8]; exact .refl (.sl (fun h => by cases h) (ints_any [rotr X 7, rotr X 18, X / 8]))
          refine ab 1000 rfl trivial ?_
          refine S_pure rfl rfl rfl (Right_ok Y 17 hY32 (by decide) (by decide)) (.cons (.refl .int) (.cons (.refl .int) (.nil _))) ?_
          refine ab 1000 rfl trivial ?_
          refine S_pure rfl rfl rfl (Right_ok Y 19 hY32 (by decide) (by decide)) (.cons (.refl .int) (.cons (.refl .int) (.nil _))) ?_
          refine ab 1000 rfl ⟨by decide, trivial⟩ ?_
          have hy10 : IntKind.i64.wrap ((Y : Int).tdiv 1024) = ((Y / 1024 : Nat) : Int) := div32 (k := 1024) hY32
          have hs1 : Calc cx 94 [.sl true true 1 (ints [rotr Y 17, rotr Y 19, Y / 1024])] (.int .i64 (sig1 Y : Nat)) := by
            have := xor_ok (st := true) (fl := true) [rotr Y 17, rotr Y 19, Y / 1024] (by intro y hy; simp at hy; rcases hy with rfl | rfl | rfl; exact rotr_lt _ hY32; exact rotr_lt _ hY32; exact div_lt _ hY32) (by simp)
            rwa [xorL_three (rotr_lt _ hY32) (rotr_lt _ hY32) (div_lt _ hY32)] at this
          refine S_pure rfl rfl rfl hs1 (.cons ?_ (.nil _)) ?_
          · show Frz false _ (.sl true true 1 [.int .i64 (rotr Y 17 : Nat), .int .i64 (rotr Y 19 : Nat), .int .i64 (IntKind.i64.wrap ((Y : Int).tdiv 1024))]) _
            rw [hy10]; exact .refl (.sl (fun h => by cases h) (ints_any [rotr Y 17, rotr Y 19, Y / 1024]))
          refine ab 1000 rfl trivial ?_
          obtain ⟨hsum, hsle⟩ := sum4 hZ32 (sig0_lt hX32) hV32 (sig1_lt hY32)
          have hnx : wNext w = (Z + sig0 X + V + sig1 Y) % M32 := by rw [wNext, hwl, hX, hY, hZ, hV]
          refine S_draw 18 [] [.top, .int .i64 (Z : Nat), .top, .int .i64 (V : Nat), .int .i64 (wNext w : Nat)] rfl rfl rfl rfl ⟨rfl, rfl, rfl, rfl, rfl, g16.1, g16.2.1, rfl, (by rw [hZ]; exact ld _ _ hi16 g16.2.2), rfl, rfl, rfl, rfl, rfl, rfl, g7.1, g7.2.1, rfl, (by rw [hV]; exact ld _ _ hi7 g7.2.2), rfl, rfl, rfl, ⟨_, (by rw [hnx]; exact Wrap_ok (Z + sig0 X + V + sig1 Y) hsle), .cons (by show Frz false _ (.int .i64 (IntKind.i64.wrap (IntKind.i64.wrap (IntKind.i64.wrap ((Z : Int) + ((sig0 X : Nat) : Int)) + (V : Int)) + ((sig1 Y : Nat) : Int)))) _; rw [hsum]; exact .refl .int) (.nil _)⟩, rfl, trivial⟩ ?_
          refine ab 1000 rfl ⟨k1.1, k1.2.1, k1.2.2, rfl, rfl, allOne_mem (cs := [.int .i64 _]) rfl, allOne_mem (cs := [.int .i64 _]) rfl, rfl, trivial⟩ ?_
          refine S_round (t + 1, w ++ [wNext w], x + 1) k2.1 ⟨k2.2.1, k2.2.2.2, hw32.app (.one (wNext_lt w)), fun h => absurd h k2.2.2.1, fun _ => ?_⟩ (.cons rfl (.cons rfl (.cons rfl (.cons rfl (.cons rfl (.cons k3 (.nil _))))))) ?_
          · have := hws ht16
            rw [k4, sched] at this
            exact this
          · show [bB u P _, iB 0 h, (x + 1, some (Box.cells (ints w ++ [.int .i64 (wNext w : Nat)]) ⟨false, none⟩)), (b, none), (c, none)] = _
            simp [iB, ints]
      · have ht : t = 64 := by omega
        subst ht
        have hW : w = schedOf p := hws (by decide)
        have hWl : w.length = 64 := hwl
        refine go (M := [137]) 1000 rfl ⟨by decide, ?_, .inl (by decide), ?_, rfl, rfl, fun y hy => ints_one h y (List.mem_of_mem_take hy), ?_, rfl, rfl, trivial⟩ ?_
        · show (0 + 8) * 8 ≤ 140737488355328; decide
        · exact Nat.zero_le _
        · show 0 + 8 * 1 ≤ (ints h).length; rw [ints_len]; omega
        refine S_drop (id := 3) rfl ?_ ⟨_, _, .inl rfl⟩
        refine S_heap [bB u P ⟨false, some 5⟩, iB 0 h, iB x w, (b + 1, none), iB (c + 1) h] ?_ ?_
        · show [_, _, _, (b + 1, none), (c + 1, some (Box.cells ((ints h).take 8) ⟨false, none⟩))] = _
          rw [List.take_of_length_le (by rw [ints_len]; omega)]; rfl
        refine S_freeze1 (t := 17) (id := 4) (len := 8) rfl rfl (by rw [ints_len]; exact hhl) (ints_one h) (ints_any h) ⟨_, _, .inl rfl⟩ ?_
        refine S_while (α := Nat × List Nat × Bool × Bool) (fun (t, v, st, fl) => [(3, .ms 0 u 0 P.length 1 false), (6, .sl true true 1 (ints kTab)), (7, .ms 1 0 0 8 1 true), (8, .int .i64 (64 * m : Nat)), (9, .ms 2 x 0 64 1 false), (17, .sl st fl 1 (ints v)), (18, .int .i64 (t : Nat))])
          (fun (t, v, st, fl) => [bB u P ⟨false, some 5⟩, iB 0 h, iB x w, (b + 1, none), (c + 1, none)])
          (fun (t, v, st, fl) => t ≤ 64 ∧ v.length = 8 ∧ W32 v ∧ rounds (64 - t) t w v = rounds 64 0 w h) (fun (t, v, st, fl) => 64 - t) (0, h, false, false)
          ⟨Nat.zero_le _, hhl, hh32, rfl⟩ (.cons rfl (.cons rfl (.cons rfl (.cons rfl (.cons rfl (.cons rfl (.cons rfl (.nil _)))))))) rfl ?_
        rintro ⟨t, v, st, fl⟩ ⟨ht64, hvl, hv32, hvN⟩
        have ht64 : t ≤ 64 := ht64
        have hvl : v.length = 8 := hvl
        refine ab 1000 rfl trivial ?_
        refine S_dec rfl (fun hlt => ?_) (fun hlt => ?_)
        · have ht : t < 64 := by omega
          obtain ⟨v0, v1, v2, v3, v4, v5, v6, v7, rfl⟩ : ∃ v0 v1 v2 v3 v4 v5 v6 v7, v = [v0, v1, v2, v3, v4, v5, v6, v7] := by
            match v, hvl with
            | [v0, v1, v2, v3, v4, v5, v6, v7], _ => exact ⟨_, _, _, _, _, _, _, _, rfl⟩
          have q0 : v0 < M32 := hv32 _ (by simp)
          have q1 : v1 < M32 := hv32 _ (by simp)
          have q2 : v2 < M32 := hv32 _ (by simp)
          have q3 : v3 < M32 := hv32 _ (by simp)
          have q4 : v4 < M32 := hv32 _ (by simp)
          have q5 : v5 < M32 := hv32 _ (by simp)
          have q6 : v6 < M32 := hv32 _ (by simp)
          have q7 : v7 < M32 := hv32 _ (by simp)
          have qn : 4294967295 - v4 < M32 := by simp only [M32]; omega
          obtain ⟨kt, hkt⟩ : ∃ kt, kt = kTab.getD t 0 := ⟨_, rfl⟩
          obtain ⟨wt, hwt⟩ : ∃ wt, wt = w.getD t 0 := ⟨_, rfl⟩
          have qk : kt < M32 := by rw [hkt]; exact kTab32.getD _
          have qw : wt < M32 := by rw [hwt]; exact hw32.getD _
          have hkg : (ints kTab)[(t : Int).toNat]? = some (.int .i64 (kt : Nat)) := by rw [Int.toNat_natCast, hkt]; exact ints_get (by show t < 64; exact ht)
          have hwg : ((ints w).drop (offN 0 (mulN (t : Int).toNat 1)))[0]? = some (.int .i64 (wt : Nat)) := by
            rw [offN_eq, mulN_eq, Int.toNat_natCast, Nat.mul_one, Nat.zero_add, hwt, ints_ld (by omega)]
          have hnw : IntKind.i64.wrap (4294967295 - (v4 : Int)) = ((4294967295 - v4 : Nat) : Int) := w64 (by simp only [M32] at q4; omega) (by omega)
          have t1 : 0 ≤ (t : Int) ∧ (t : Int) < 64 := by omega
          have t2 : 64 - (t + 1) < 64 - t ∧ t + 1 ≤ 64 := by omega
          have t3 : AV.int .i64 (IntKind.i64.wrap ((t : Int) + 1)) = .int .i64 ((t + 1 : Nat) : Int) := ai64 rfl (by omega)
          have t4 : 64 - t = (64 - (t + 1)) + 1 := by omega
          have xor2c : ∀ {a b : Nat}, a < M32 → b < M32 → Calc cx 94 [.sl true true 1 (ints [a, b])] (.int .i64 (a ^^^ b : Nat)) := fun {a b} ha hb => by
            have := xor_ok (st := true) (fl := true) [a, b] (by intro y hy; simp at hy; rcases hy with rfl | rfl; exact ha; exact hb) (by simp)
            rwa [xorL_two ha hb] at this
          have xor3c : ∀ {a b c : Nat}, a < M32 → b < M32 → c < M32 → Calc cx 94 [.sl true true 1 (ints [a, b, c])] (.int .i64 (a ^^^ b ^^^ c : Nat)) := fun {a b c} ha hb hc => by
            have := xor_ok (st := true) (fl := true) [a, b, c] (by intro y hy; simp at hy; rcases hy with rfl | rfl | rfl; exact ha; exact hb; exact hc) (by simp)
            rwa [xorL_three ha hb hc] at this
          refine ab 1000 rfl trivial ?_
          have z0 : (0 : Int) ≤ 0 := Int.le_refl _
          have z1 : (0 : Int) ≤ 1 := by decide
          have z2 : (0 : Int) ≤ 2 := by decide
          have z3 : (0 : Int) ≤ 3 := by decide
          have z4 : (0 : Int) ≤ 4 := by decide
          have z5 : (0 : Int) ≤ 5 := by decide
          have z6 : (0 : Int) ≤ 6 := by decide
          have z7 : (0 : Int) ≤ 7 := by decide
          have i2 : ∀ {σ : Heap} {a b : Nat}, Frzs σ [.int .i64 (a : Nat), .int .i64 (b : Nat)] [.int .i64 (a : Nat), .int .i64 (b : Nat)] := .cons (.refl .int) (.cons (.refl .int) (.nil _))
          have sl3 : ∀ {σ : Heap} {a b c : Nat}, Frzs σ [.sl true true 1 (ints [a, b, c])] [.sl true true 1 (ints [a, b, c])] := fun {σ a b c} => .cons (.refl (.sl (fun h => by cases h) (ints_any _))) (.nil _)
          have sl2 : ∀ {σ : Heap} {a b : Nat}, Frzs σ [.sl true true 1 (ints [a, b])] [.sl true true 1 (ints [a, b])] := fun {σ a b} => .cons (.refl (.sl (fun h => by cases h) (ints_any _))) (.nil _)
          refine S_draw 8 [] [.int .i64 (v0 : Nat), .int .i64 (v4 : Nat)] rfl rfl rfl rfl ⟨rfl, rfl, z0, rfl, rfl, rfl, rfl, z4, rfl, rfl, rfl, rfl, trivial⟩ ?_
          obtain ⟨ch, hch⟩ : ∃ ch, ch = (v4 &&& v5) ^^^ ((4294967295 - v4) &&& v6) := ⟨_, rfl⟩
          have qch : ch < M32 := by rw [hch]; exact xor_lt (and_lt q4) (and_lt qn)
          refine ab 1000 rfl trivial ?_
          refine S_draw 14 [] [.int .i64 (v5 : Nat), .int .i64 (v4 &&& v5 : Nat), .int .i64 (v6 : Nat), .int .i64 ((4294967295 - v4) &&& v6 : Nat), .int .i64 (ch : Nat)] rfl rfl rfl rfl
            ⟨rfl, rfl, rfl, z5, rfl, rfl, ⟨_, And_ok v4 v5 q4 q5, i2⟩, rfl, rfl, rfl, rfl, z6, rfl, rfl, ⟨_, And_ok (4294967295 - v4) v6 qn q6, .cons (by show Frz false _ (.int .i64 (IntKind.i64.wrap (4294967295 - (v4 : Int)))) _; rw [hnw]; exact .refl .int) (.cons (.refl .int) (.nil _))⟩, rfl, ⟨_, (by rw [hch]; exact xor2c (and_lt q4) (and_lt qn)), sl2⟩, rfl, trivial⟩ ?_
          refine ab 1000 rfl trivial ?_
          obtain ⟨hs5, hs5l⟩ := sum5 q7 (Sig1_lt q4) qch qk qw
          obtain ⟨U, hU⟩ : ∃ U, U = (v7 + Sig1 v4 + ch + kt + wt) % M32 := ⟨_, rfl⟩
          have qU : U < M32 := by rw [hU]; exact mod_lt _
          refine S_draw 26 [] [.int .i64 (v7 : Nat), .int .i64 (rotr v4 6 : Nat), .int .i64 (rotr v4 11 : Nat), .int .i64 (rotr v4 25 : Nat), .int .i64 (Sig1 v4 : Nat), .int .i64 (kt : Nat), .top, .int .i64 (wt : Nat), .int .i64 (U : Nat)] rfl rfl rfl rfl
            ⟨rfl, rfl, z7, rfl, rfl, rfl, ⟨_, Right_ok v4 6 q4 (by decide) (by decide), i2⟩, rfl, ⟨_, Right_ok v4 11 q4 (by decide) (by decide), i2⟩, rfl, ⟨_, Right_ok v4 25 q4 (by decide) (by decide), i2⟩, rfl, ⟨_, xor3c (rotr_lt 6 q4) (rotr_lt 11 q4) (rotr_lt 25 q4), sl3⟩, rfl, rfl, rfl, rfl, rfl, rfl, t1.1, hkg, rfl, rfl, rfl, rfl, rfl, t1.1, t1.2, rfl, hwg, rfl, ⟨_, (by rw [hU]; exact Wrap_ok _ hs5l), .cons (by show Frz false _ (.int .i64 (IntKind.i64.wrap (IntKind.i64.wrap (IntKind.i64.wrap (IntKind.i64.wrap ((v7 : Int) + ((Sig1 v4 : Nat) : Int)) + (ch : Int)) + (kt : Int)) + (wt : Int)))) _; rw [hs5]; exact .refl .int) (.nil _)⟩, rfl, trivial⟩ ?_
          refine ab 1000 rfl trivial ?_
          obtain ⟨mo, hmo⟩ : ∃ mo, mo = (v0 &&& v1) ^^^ (v0 &&& v2) ^^^ (v1 &&& v2) := ⟨_, rfl⟩
          have qmo : mo < M32 := by rw [hmo]; exact xor_lt (xor_lt (and_lt q0) (and_lt q0)) (and_lt q1)
          refine S_draw 20 [] [.int .i64 (v1 : Nat), .int .i64 (v0 &&& v1 : Nat), .int .i64 (v2 : Nat), .int .i64 (v0 &&& v2 : Nat), .int .i64 (v1 : Nat), .int .i64 (v2 : Nat), .int .i64 (v1 &&& v2 : Nat), .int .i64 (mo : Nat)] rfl rfl rfl rfl
            ⟨rfl, rfl, rfl, z1, rfl, rfl, ⟨_, And_ok v0 v1 q0 q1, i2⟩, rfl, rfl, rfl, z2, rfl, rfl, ⟨_, And_ok v0 v2 q0 q2, i2⟩, rfl, rfl, z1, rfl, rfl, rfl, rfl, z2, rfl, rfl, ⟨_, And_ok v1 v2 q1 q2, i2⟩, rfl, ⟨_, (by rw [hmo]; exact xor3c (and_lt q0) (and_lt q0) (and_lt q1)), sl3⟩, rfl, trivial⟩ ?_
          refine ab 1000 rfl trivial ?_
          refine S_pure rfl rfl rfl (Right_ok v0 2 q0 (by decide) (by decide)) i2 ?_
          refine ab 1000 rfl trivial ?_
          refine S_pure rfl rfl rfl (Right_ok v0 13 q0 (by decide) (by decide)) i2 ?_
          refine ab 1000 rfl trivial ?_
          refine S_pure rfl rfl rfl (Right_ok v0 22 q0 (by decide) (by decide)) i2 ?_
          refine ab 1000 rfl trivial ?_
          refine S_pure rfl rfl rfl (xor3c (rotr_lt 2 q0) (rotr_lt 13 q0) (rotr_lt 22 q0)) sl3 ?_
          have hsm := (sum2 (Z := Sig0 v0) (a := mo) (Sig0_lt q0) (lt2 qmo)).1
          have qsm : Sig0 v0 + mo < M32 + M32 := Nat.add_lt_add (Sig0_lt q0) qmo
          refine ab 1000 rfl trivial ?_
          refine S_weak (fr' := [(3, .ms 0 u 0 P.length 1 false), (6, .sl true true 1 (ints kTab)), (7, .ms 1 0 0 8 1 true), (8, .int .i64 (64 * m : Nat)), (9, .ms 2 x 0 64 1 false), (17, .sl st fl 1 (ints [v0, v1, v2, v3, v4, v5, v6, v7])), (18, .int .i64 (t : Nat)), (22, .int .i64 (U : Nat)), (24, .int .i64 (Sig0 v0 + mo : Nat))]) (.cons rfl (.cons rfl (.cons rfl (.cons rfl (.cons rfl (.cons rfl (.cons rfl (.cons rfl (.cons (congrArg (AV.int .i64) hsm) (.nil _)))))))))) ?_
          obtain ⟨na, hna⟩ : ∃ na, na = (U + (Sig0 v0 + mo)) % M32 := ⟨_, rfl⟩
          obtain ⟨ne, hne⟩ : ∃ ne, ne = (v3 + U) % M32 := ⟨_, rfl⟩
          obtain ⟨hs6, hs6l⟩ := sum2 qU qsm
          obtain ⟨hs7, hs7l⟩ := sum2 q3 (lt2 qU)
          refine S_draw 30 [] [.int .i64 (na : Nat), .int .i64 (v0 : Nat), .int .i64 (v1 : Nat), .int .i64 (v2 : Nat), .int .i64 (v3 : Nat), .int .i64 (ne : Nat), .int .i64 (v4 : Nat), .int .i64 (v5 : Nat), .int .i64 (v6 : Nat)] rfl rfl rfl rfl
            ⟨rfl, rfl, rfl, ⟨_, (by rw [hna]; exact Wrap_ok _ hs6l), .cons (by show Frz false _ (.int .i64 (IntKind.i64.wrap ((U : Int) + ((Sig0 v0 + mo : Nat) : Int)))) _; rw [hs6]; exact .refl .int) (.nil _)⟩, rfl, rfl, z0, rfl, rfl, rfl, rfl, z1, rfl, rfl, rfl, rfl, z2, rfl, rfl, rfl, rfl, z3, rfl, rfl, rfl, rfl, ⟨_, (by rw [hne]; exact Wrap_ok _ hs7l), .cons (by show Frz false _ (.int .i64 (IntKind.i64.wrap ((v3 : Int) + (U : Int)))) _; rw [hs7]; exact .refl .int) (.nil _)⟩, rfl, rfl, z4, rfl, rfl, rfl, rfl, z5, rfl, rfl, rfl, rfl, z6, rfl, rfl, rfl, rfl, trivial⟩ ?_
          refine ab 1000 rfl trivial ?_
          have hro : round [v0, v1, v2, v3, v4, v5, v6, v7] (kt + wt) = [na, v0, v1, v2, ne, v4, v5, v6] := by rw [round_eq, hna, hne, hU, hch, hmo]
          refine S_round (t + 1, [na, v0, v1, v2, ne, v4, v5, v6], true, true) t2.1 ⟨t2.2, rfl, by rw [← hro]; exact round_lt _ hv32, ?_⟩ (.cons rfl (.cons rfl (.cons rfl (.cons rfl (.cons rfl (.cons rfl (.cons t3 (.nil _)))))))) rfl
          rw [t4, rounds, ← hkt, ← hwt, hro] at hvN
          exact hvN
        · have ht : t = 64 := by omega
          subst ht
          have hvE : v = rounds 64 0 w h := hvN
          have hblk : block h p = addW h v := by rw [block, hvE, ← hW]
          have hal := addW_len h v
          refine ab 1000 rfl trivial ?_
          refine S_while (α := Nat) (fun i => [(3, .ms 0 u 0 P.length 1 false), (6, .sl true true 1 (ints kTab)), (7, .ms 1 0 0 8 1 true), (8, .int .i64 (64 * m : Nat)), (17, .sl st fl 1 (ints v)), (25, .int .i64 (i : Nat))])
            (fun i => [bB u P ⟨false, some 5⟩, iB 0 ((addW h v).take i ++ h.drop i), iB x w, (b + 1, none), (c + 1, none)])
            (fun i => i ≤ 8) (fun i => 8 - i) 0 (Nat.zero_le _) (.cons rfl (.cons rfl (.cons rfl (.cons rfl (.cons rfl (.cons rfl (.nil _))))))) (by simp) ?_
          intro i hi
          refine ab 1000 rfl trivial ?_
          refine S_dec rfl (fun hlt => ?_) (fun hlt => ?_)
          · have hi8 : i < 8 := by omega
            have c1 : 0 ≤ (i : Int) ∧ (i : Int) < 8 := by omega
            have c2 : 8 - (i + 1) < 8 - i := by omega
            have c3 : AV.int .i64 (IntKind.i64.wrap ((i : Int) + 1)) = .int .i64 ((i + 1 : Nat) : Int) := ai64 rfl (by omega)
            have htk : ((addW h v).take i).length = i := by rw [List.length_take, hal]; omega
            have hil : i < h.length := by omega
            have hiv : i < v.length := by omega
            have hdr : h.drop i = h.getD i 0 :: h.drop (i + 1) := by
              rw [List.drop_eq_getElem_cons hil]
              simp [List.getD, hil]
            have hld : ((ints ((addW h v).take i ++ h.drop i)).drop (offN 0 (mulN (i : Int).toNat 1)))[0]? = some (.int .i64 (h.getD i 0 : Nat)) := by
              have hgi : ((addW h v).take i ++ h.drop i).getD i 0 = h.getD i 0 := by
                rw [hdr]
                have h2 := getD_mid ((addW h v).take i) (h.getD i 0) (h.drop (i + 1))
                rwa [htk] at h2
              rw [offN_eq, mulN_eq, Int.toNat_natCast, Nat.mul_one, Nat.zero_add, ints_ld (by rw [List.length_append, htk, List.length_drop]; omega), hgi]
            have hvg : (ints v)[(i : Int).toNat]? = some (.int .i64 (v.getD i 0 : Nat)) := by rw [Int.toNat_natCast]; exact ints_get hiv
            obtain ⟨hh1, hhle⟩ := sum2 (hh32.getD i) (lt2 (hv32.getD i))
            have hst : offN 0 (mulN (i : Int).toNat 1) + 1 ≤ (ints ((addW h v).take i ++ h.drop i)).length := by
              rw [offN_eq, mulN_eq, Int.toNat_natCast, ints_len, List.length_append, htk, List.length_drop]; omega
            refine ab 1000 rfl trivial ?_
            refine S_draw 12 [] [.top, .int .i64 (h.getD i 0 : Nat), .int .i64 (v.getD i 0 : Nat), .int .i64 ((h.getD i 0 + v.getD i 0) % M32 : Nat)] rfl rfl rfl rfl
              ⟨rfl, rfl, rfl, rfl, rfl, c1.1, c1.2, rfl, hld, rfl, rfl, rfl, c1.1, hvg, rfl, rfl, ⟨_, Wrap_ok _ hhle, .cons (by show Frz false _ (.int .i64 (IntKind.i64.wrap (((h.getD i 0 : Nat) : Int) + ((v.getD i 0 : Nat) : Int)))) _; rw [hh1]; exact .refl .int) (.nil _)⟩, trivial⟩ ?_
            refine S_index .top rfl rfl rfl ⟨rfl, c1.1, c1.2, trivial⟩ ?_
            refine S_store rfl rfl rfl ⟨rfl, rfl, rfl, hst, trivial⟩ ?_
            refine ab 1000 rfl trivial ?_
            refine S_round (i + 1) c2 hi8 (.cons rfl (.cons rfl (.cons rfl (.cons rfl (.cons rfl (.cons c3 (.nil _))))))) ?_
            show [bB u P _, (0, some (Box.cells (setRange (ints ((addW h v).take i ++ h.drop i)) (offN 0 (mulN (i : Int).toNat 1)) [.int .i64 ((h.getD i 0 + v.getD i 0) % M32 : Nat)]) ⟨false, none⟩)), iB x w, (b + 1, none), (c + 1, none)] = _
            rw [offN_eq, mulN_eq, Int.toNat_natCast, Nat.mul_one, Nat.zero_add]
            have hta : (addW h v).take (i + 1) = (addW h v).take i ++ [(h.getD i 0 + v.getD i 0) % M32] := by
              rw [List.take_succ_eq_append_getElem (by rw [hal]; exact hi8)]
              simp [addW]
            have hsf := set_fill ((addW h v).take i) 0 ((h.getD i 0 + v.getD i 0) % M32) (h.getD i 0) (h.drop (i + 1))
            rw [htk] at hsf
            show [_, (0, some (Box.cells (List.set (ints ((addW h v).take i ++ h.drop i)) i (.int .i64 ((h.getD i 0 + v.getD i 0) % M32 : Nat))) _)), _, _, _] = _
            have hse : List.set (ints ((addW h v).take i ++ h.drop i)) i (.int .i64 ((h.getD i 0 + v.getD i 0) % M32 : Nat)) = ints ((addW h v).take (i + 1) ++ h.drop (i + 1)) := by
              rw [hta, hdr, List.append_assoc, List.singleton_append, ← hsf]
              simp only [ints, List.map_set]
            rw [hse]; rfl
          · have hi8 : i = 8 := by omega
            subst hi8
            have hfin : (addW h v).take 8 ++ h.drop 8 = block h p := by
              rw [List.take_of_length_le (by omega), List.drop_of_length_le (by omega), List.append_nil, hblk]
            rw [hfin]
            have d1 : P.length - 64 * (m + 1) < P.length - 64 * m ∧ 64 * (m + 1) ≤ P.length := by omega
            have d2 : AV.int .i64 (IntKind.i64.wrap (((64 * m : Nat) : Int) + 64)) = .int .i64 ((64 * (m + 1) : Nat) : Int) := ai64 (by omega) (by omega)
            have d3 : P.length / 64 - m = (P.length / 64 - (m + 1)) + 1 := by omega
            have d4 : 64 * m + 64 = 64 * (m + 1) := by omega
            refine S_drop (id := 2) rfl ?_ ⟨_, _, .inl rfl⟩
            refine ab 1000 rfl trivial ?_
            refine S_round (m + 1, block h p, x, b + 1, c + 1) d1.1 ⟨d1.2, block_len _ _, block_lt _ _, ?_⟩ (.cons rfl (.cons rfl (.cons rfl (.cons d2 (.nil _))))) rfl
            rw [← hN, d3, blocks, block_take, List.drop_drop, d4, hp]
    · have hm64 : 64 * m = P.length := by omega
      have hH : h = hashOf s := by
        rw [← hN, show P.length / 64 - m = 0 by omega]; rfl
      subst hH
      obtain ⟨HL, hHL⟩ : ∃ HL, HL = hashOf s := ⟨_, rfl⟩
      have hsh : sha s = HL.flatMap hexW := by rw [hHL]; rfl
      have hHl : HL.length = 8 := by rw [hHL]; exact hashOf_len s
      have hH32 : W32 HL := by rw [hHL]; exact hashOf_lt s
      rw [hsh]
      rw [← hHL] at *
      have hxl : ∀ n, (hexW n).length = 8 := fun n => by simp [hexW]
      have hfl : ∀ l : List Nat, (l.flatMap hexW).length = 8 * l.length := by
        intro l
        induction l with
        | nil => rfl
        | cons a r ih => rw [List.flatMap_cons, List.length_append, hxl, ih, List.length_cons]; omega
      refine ab 1000 rfl trivial ?_
      refine S_while (α := Nat) (fun i => [(7, .ms 1 0 0 8 1 true), (26, .str ((HL.take i).flatMap hexW)), (27, .int .i64 (i : Nat))]) (fun i => [bB u P ⟨false, some 5⟩, iB 0 HL, (a, none), (b, none), (c, none)])
        (fun i => i ≤ 8) (fun i => 8 - i) 0 (Nat.zero_le _) (.cons rfl (.cons rfl (.cons rfl (.nil _)))) rfl ?_
      intro i hi
      refine ab 1000 rfl trivial ?_
      refine S_dec rfl (fun hlt => ?_) (fun hlt => ?_)
      · have hi8 : i < 8 := by omega
        obtain ⟨nn, hnn⟩ : ∃ nn, nn = HL.getD i 0 := ⟨_, rfl⟩
        have qn : nn < M32 := by rw [hnn]; exact hH32.getD i
        have htl : ((HL.take i).flatMap hexW).length = 8 * i := by rw [hfl, List.length_take]; omega
        refine ab 1000 rfl trivial ?_
        refine S_while (α := Nat) (fun j => [(7, .ms 1 0 0 8 1 true), (26, .str ((HL.take i).flatMap hexW ++ (hexW nn).take j)), (27, .int .i64 (i : Nat)), (28, .int .i64 (7 - (j : Int)))]) (fun j => [bB u P ⟨false, some 5⟩, iB 0 HL, (a, none), (b, none), (c, none)])
          (fun j => j ≤ 8) (fun j => 8 - j) 0 (Nat.zero_le _) (.cons rfl (.cons (by simp; rfl) (.cons rfl (.cons rfl (.nil _))))) rfl ?_
        intro j hj
        refine ab 1000 rfl trivial ?_
        refine S_dec rfl (fun hlt => ?_) (fun hlt => ?_)
        · have hj8 : j < 8 := by omega
          have c1 : 0 ≤ (i : Int) ∧ (i : Int) < 8 := by omega
          have c2 : 8 - (j + 1) < 8 - j := by omega
          have hw4 : IntKind.i64.wrap (4 * (7 - (j : Int))) = ((4 * (7 - j) : Nat) : Int) := w64 (by omega) (by omega)
          have c3 : AV.int .i64 (IntKind.i64.wrap (7 - (j : Int) - 1)) = .int .i64 (7 - ((j + 1 : Nat) : Int)) := ai64i (by omega) (by omega)
          have c4 : 4 * (7 - j) ≤ 62 := by omega
          have hp0 : ((2 ^ (4 * (7 - j)) : Nat) : Int) ≠ 0 := by have := Nat.two_pow_pos (4 * (7 - j)); omega
          have hld : ((ints HL).drop (offN 0 (mulN (i : Int).toNat 1)))[0]? = some (.int .i64 (nn : Nat)) := by
            rw [offN_eq, mulN_eq, Int.toNat_natCast, Nat.mul_one, Nat.zero_add, hnn, ints_ld (by omega)]
          have e16 : (2 : Nat) ^ (4 * (7 - j)) = 16 ^ (7 - j) := by rw [show (16 : Nat) = 2 ^ 4 from rfl, ← Nat.pow_mul]
          have hdv : IntKind.i64.wrap ((nn : Int).tdiv ((2 ^ (4 * (7 - j)) : Nat) : Int)) = ((nn / 16 ^ (7 - j) : Nat) : Int) := by
            rw [← e16]; exact div32 qn
          have hm16 : (((nn / 16 ^ (7 - j) : Nat) : Int)).tmod 16 = ((nn / 16 ^ (7 - j) % 16 : Nat) : Int) := rfl
          have hlen : (((((HL.take i).flatMap hexW ++ (hexW nn).take j).length + 1 : Nat)) : Int) ≤ 9223372036854775807 := by
            rw [List.length_append, htl, List.length_take, hxl]; omega
          have hnx : (hexW nn).take (j + 1) = (hexW nn).take j ++ [hexC (nn / 16 ^ (7 - j) % 16)] := by
            rw [List.take_succ_eq_append_getElem (by rw [hxl]; exact hj8)]
            simp [hexW]
          refine ab 1000 rfl trivial ?_
          refine S_draw 13 [] [.top, .int .i64 (nn : Nat), .int .i64 ((2 ^ (4 * (7 - j)) : Nat) : Int), .str [hexC (nn / 16 ^ (7 - j) % 16)]] rfl rfl rfl rfl
            ⟨rfl, rfl, rfl, rfl, c1.1, c1.2, rfl, hld, rfl, rfl, ⟨_, Pow2_ok (4 * (7 - j)) c4, .cons (by show Frz false _ (.int .i64 (IntKind.i64.wrap (4 * (7 - (j : Int))))) _; rw [hw4]; exact .refl .int) (.nil _)⟩, rfl, hp0, rfl, by decide, ⟨_, HexDigit_ok (nn / 16 ^ (7 - j) % 16) (Nat.mod_lt _ (by decide)), .cons (by show Frz false _ (.int .i64 ((IntKind.i64.wrap ((nn : Int).tdiv ((2 ^ (4 * (7 - j)) : Nat) : Int))).tmod 16)) _; rw [hdv, hm16]; exact .refl .int) (.nil _)⟩, rfl, hlen, rfl, trivial⟩ ?_
          refine ab 1000 rfl trivial ?_
          exact S_round (j + 1) c2 hj8 (.cons rfl (.cons (by rw [hnx, ← List.append_assoc]; rfl) (.cons rfl (.cons c3 (.nil _))))) rfl
        · have hj8 : j = 8 := by omega
          subst hj8
          have hti : HL.take (i + 1) = HL.take i ++ [nn] := by
            rw [List.take_succ_eq_append_getElem (by omega), hnn]
            simp [List.getD, show i < HL.length by omega]
          have c3 : AV.int .i64 (IntKind.i64.wrap ((i : Int) + 1)) = .int .i64 ((i + 1 : Nat) : Int) := ai64 rfl (by omega)
          refine ab 1000 rfl trivial ?_
          refine S_round (i + 1) (by show 8 - (i + 1) < 8 - i; omega) hi8 (.cons rfl (.cons ?_ (.cons c3 (.nil _)))) rfl
          show AV.str ((HL.take i).flatMap hexW ++ (hexW nn).take 8) = .str ((HL.take (i + 1)).flatMap hexW)
          rw [hti, List.flatMap_append, List.take_of_length_le (l := hexW nn) (by rw [hxl]; exact Nat.le_refl _)]
          simp
      · have hi8 : i = 8 := by omega
        subst hi8
        refine ab 1000 rfl trivial ?_
        refine S_retc .str rfl trivial ?_
        show AV.str ((HL.take 8).flatMap hexW) = _
        rw [List.take_of_length_le (by omega)]
end Go.Proofs.YtgmakmfdjhgjlaaGreatDoor
end
section
set_option linter.unusedVariables false
set_option linter.unusedSimpArgs false
namespace Go.Ab
open Go
section
variable {cx : Cx} {n : Nat} {B : Bs} {k : List AI} {Q : Post} {fr : Fr} {σ : Heap}
inductive Wv : AV → AV → Prop
  | refl {a} : Wv a a
  | nils {st fl sz} : Wv .nils (.sl st fl sz [])
  | sl {st fl st' fl' sz xs} (h1 : st' = true → st = true) (h2 : fl' = true → fl = true) : Wv (.sl st fl sz xs) (.sl st' fl' sz xs)
theorem Wv.rel {r : Rl} {w : World} {v : Value} {a a' : AV} (h : Wv a a') (hv : VRel r w v a) : VRel r w v a' := by
  cases h with
  | refl => exact hv
  | nils => cases hv; exact .sl0 (fun _ => rfl)
  | sl h1 h2 =>
    cases hv with
    | sl0 hf => exact .sl0 (fun h => hf (h2 h))
    | sl hn hc0 hf hI hS hsz f hc hv => exact .sl hn hc0 (fun h => hf (h2 h)) hI (fun h => hS (h1 h)) hsz f hc hv
theorem Wv.one {a a' : AV} (h : Wv a a') (ho : a.one = true) : a'.one = true := by
  cases h with
  | refl => exact ho
  | nils => rfl
  | sl _ _ => rfl
inductive Wvs : List AV → List AV → Prop
  | nil : Wvs [] []
  | cons {a b az bs} (h : Wv a b) (hs : Wvs az bs) : Wvs (a :: az) (b :: bs)
theorem Wvs.len {az bs : List AV} (h : Wvs az bs) : az.length = bs.length := by
  induction h with
  | nil => rfl
  | cons _ _ ih => simp [ih]
theorem Wvs.get {az bs : List AV} (h : Wvs az bs) : ∀ (i : Nat) (h1 : i < az.length) (h2 : i < bs.length), Wv az[i] bs[i] := by
  induction h with
  | nil => intro i h1; simp at h1
  | cons h hs ih =>
    intro i h1 h2
    cases i with
    | zero => exact h
    | succ i => exact ih i (by simpa using h1) (by simpa using h2)
theorem S_nilF {todo : List AI} (t sz : Nat) (st fl : Bool) (h : fr.get t = .nils) (hT : ∃ c k, todo = .code c :: k ∨ ∃ all l K, todo = .ops all l K :: k)
    (hk : S cx n B todo Q ((t, .sl st fl sz []) :: fr) σ) : S cx n B todo Q fr σ := by
  have key : ∀ r w a, FRel r w n fr a → FRel r w n ((t, .sl st fl sz []) :: fr) a := by
    intro r w a hf
    refine ⟨hf.size, fun s => ?_, fun vs hm => ?_⟩
    · rw [Fr.get_cons]
      split
      · rename_i hs
        subst hs
        have hv := hf.get t
        rw [h] at hv
        exact Wv.rel .nils hv
      · exact hf.get s
    · rw [Fr.get_cons] at hm
      split at hm
      · cases hm
      · exact hf.defs vs hm
  obtain ⟨c, k, hT⟩ := hT
  rcases hT with rfl | ⟨all, l, K, rfl⟩
  · exact fun r a w hi hf hd hx => hk r a w hi (key r w a hf) hd hx
  · exact fun r a w hi hf hd hx => hk r a w hi (key r w a hf) hd hx
end
end Go.Ab
end
section
set_option linter.unusedVariables false
set_option linter.unusedSimpArgs false
set_option maxRecDepth 20000
set_option maxHeartbeats 4000000
namespace Go.Proofs.YtgmakmfdjhgjlaaGreatDoor
open Go Go.Ab
def atF (l : List Fil) (p : List UInt8) : Int := match l.findIdx? (fun f => f.path == p) with
  | some i => (i : Nat)
  | none => -1
theorem atF_at {l : List Fil} {p : List UInt8} {i : Nat} (hi : i < l.length) (h : (l[i].path == p) = true) (hn : ∀ j (hj : j < l.length), j < i → (l[j].path == p) = false) : atF l p = (i : Nat) := by
  have : l.findIdx? (fun f => f.path == p) = some i := by
    rw [List.findIdx?_eq_some_iff_getElem]
    exact ⟨hi, h, fun j hj => by simp [hn j (by omega) hj]⟩
  unfold atF; rw [this]
theorem atF_no {l : List Fil} {p : List UInt8} (hn : ∀ j (hj : j < l.length), (l[j].path == p) = false) : atF l p = -1 := by
  have : l.findIdx? (fun f => f.path == p) = none := by
    rw [List.findIdx?_eq_none_iff]
    intro f hf
    obtain ⟨j, hj, rfl⟩ := List.getElem_of_mem hf
    exact hn j hj
  unfold atF; rw [this]
theorem atF_cases (l : List Fil) (p : List UInt8) : (atF l p = -1 ∧ ∀ f ∈ l, f.path ≠ p) ∨ ∃ i, ∃ h : i < l.length, atF l p = (i : Nat) ∧ l[i].path = p := by
  unfold atF
  cases hq : l.findIdx? (fun f => f.path == p) with
  | none =>
    rw [List.findIdx?_eq_none_iff] at hq
    exact .inl ⟨rfl, fun f hf e => by have := hq f hf; simp [e] at this⟩
  | some i =>
    rw [List.findIdx?_eq_some_iff_getElem] at hq
    obtain ⟨h1, h2, _⟩ := hq
    exact .inr ⟨i, h1, rfl, by simpa using h2⟩
theorem FileAt_ok {st fl : Bool} (l : List Fil) (p : List UInt8) (hl : l.length ≤ 1000000000) : Calc cx 19 [.sl st fl 3 (fils l), .str p] (.int .i64 (atF l p)) :=
  pure_intro (fun a w => Tryz.call19 a w) Tryz.func19 rfl Tryz.ntmps19 rfl .int fun B => by
    have hll := fils_len l
    refine pB [] rfl ?_
    refine S_while (α := Nat) (fun i => [(0, .sl st fl 3 (fils l)), (1, .str p), (5, .int .i64 (i : Nat))]) (fun _ => []) (fun i => i ≤ l.length ∧ ∀ j (hj : j < l.length), j < i → (l[j].path == p) = false) (fun i => l.length - i) 0
      ⟨Nat.zero_le _, fun j hj h => absurd h (Nat.not_lt_zero _)⟩ (.cons rfl (.cons rfl (.cons rfl (.nil _)))) rfl ?_
    rintro i ⟨hi, hn⟩
    have hi : i ≤ l.length := hi
    by_cases hlt : i < l.length
    · have e1 : decide ((i : Int) < (((fils l).length : Nat) : Int)) = true := decide_eq_true (by omega)
      have g1 : (fils l)[(i : Int).toNat]? = some (filA l[i]) := fils_get hlt
      cases h : l[i].path == p with
      | true =>
        rw [atF_at hlt h hn]
        refine pB [.b true, .v (filA l[i]), .b true] rfl ?_
        exact S_retc .int rfl trivial rfl
      | false =>
        refine pB [.b true, .v (filA l[i]), .b false] rfl ?_
        exact S_round (i + 1) (by show l.length - (i + 1) < l.length - i; omega) ⟨hlt, fun j hj h' => by
          by_cases hji : j < i
          · exact hn j hj hji
          · have : j = i := by omega
            subst this; exact h⟩ (.cons rfl (.cons rfl (.cons (nX (by omega)) (.nil _)))) rfl
    · have hil : i = l.length := by omega
      subst hil
      have e1 : decide ((l.length : Int) < (((fils l).length : Nat) : Int)) = false := decide_eq_false (by omega)
      rw [atF_no (fun j hj => hn j hj hj)]
      refine pB [.b false] rfl ?_
      exact S_retc .int rfl trivial rfl
end Go.Proofs.YtgmakmfdjhgjlaaGreatDoor
end
section
set_option linter.unusedVariables false
set_option linter.unusedSimpArgs false
namespace Go.Ab
open Go
section
variable {cx : Cx} {n : Nat} {B : Bs} {k : List AI} {Q : Post} {fr : Fr} {σ : Heap}
end
theorem callOk_introB {cx : Cx} {f : FuncId} {fn : Func} {c : Code} {n : Nat} {args : List AV} {σ : Heap} {R : Out → Heap → Prop} (he : Enters cx.P f) (hf : cx.P.funcs[f]? = some fn) (hb : fn.body = some c) (hn : fn.ntmps = n) (ha : Nat.ble args.length n = true)
    (h : ∀ B : Bs, (∀ id, σ.length ≤ id → ∀ ver y, B.r.ρ id ver ≠ some y) → S cx n B [.code c] (retQ cx fn R) (enterFr 0 args) σ) : CallOk cx f args σ R := by
  refine ⟨he, fun r w vs hi hv => ?_⟩
  subst hn
  refine calls_of_wp hf hb ?_
  have hwp := h ⟨r, σ, w, false⟩ (fun id hid ver y hy => by
    obtain ⟨⟨cur, x, h1, _⟩, _⟩ := hi.lt id ver y.1 y.2 hy
    rw [List.getElem?_eq_none hid] at h1; cases h1) r _ w hi (enter_rel hv (Nat.le_of_ble_eq_true ha)) (fun _ => rfl) (Ext.refl _ _ _)
  refine wp_mono hwp fun e a w' hq => ?_
  obtain ⟨ae, fr', σ', r', hq, he, hi', hf', hd', hx'⟩ := hq
  cases e <;> cases ae <;> first | exact he.elim | skip
  · obtain ⟨C, us, h1, h2, h3⟩ := hq
    obtain ⟨v', h4, h5⟩ := results_run (fn := fn) hi' hf' h1 h2
    exact ⟨hd' rfl, v', h4, _, σ', r', h3, h5, hi', hx'⟩
  · exact hq.elim
  · exact hq.elim
  · obtain ⟨C, us, h1, h2, h3⟩ := hq
    obtain ⟨v', h4, h5⟩ := results_run (fn := fn) hi' hf' h1 h2
    exact ⟨hd' rfl, v', h4, _, σ', r', h3, h5, hi', hx'⟩
  · exact ⟨hd' rfl, _, σ', r', hq, he, hi', hx'⟩
theorem pure_introB {cx : Cx} {f : FuncId} {fn : Func} {c : Code} {n : Nat} {args : List AV} {res : AV} (he : Enters cx.P f) (hf : cx.P.funcs[f]? = some fn) (hb : fn.body = some c) (hn : fn.ntmps = n) (ha : Nat.ble args.length n = true) (hfree : Free true res)
    (h : ∀ B : Bs, (∀ id ver y, B.r.ρ id ver ≠ some y) → S cx n B [.code c] (retQ cx fn fun o σ' => ∃ v, o = .ret v ∧ Frz true σ' v res) (enterFr 0 args) []) : Calc cx f args res :=
  calc_of hfree (callOk_introB he hf hb hn ha fun B hB => h B fun id => hB id (Nat.zero_le _))
end Go.Ab
end
section
set_option linter.unusedVariables false
set_option linter.unusedSimpArgs false
set_option maxRecDepth 20000
set_option maxHeartbeats 4000000
namespace Go.Proofs.YtgmakmfdjhgjlaaGreatDoor
open Go Go.Ab
def lessF (p : List UInt8) (l : List Fil) : Nat := lessN p (l.map Fil.path)
def addF (l : List Fil) (f : Fil) : List Fil := l.take (lessF f.path l) ++ f :: l.drop (lessF f.path l)
theorem lessF_le (p : List UInt8) (l : List Fil) : lessF p l ≤ l.length := by
  have := lessN_le p (l.map Fil.path)
  rwa [List.length_map] at this
theorem lessF_lt {p : List UInt8} {l : List Fil} {i : Nat} (hi : i < l.length) (h : i < lessF p l) : Op.bytesLess l[i].path p = true := by
  have := lessN_lt (s := p) (l := l.map Fil.path) (i := i) (by simpa using hi) h
  rwa [List.getElem_map] at this
theorem lessF_at {p : List UInt8} {l : List Fil} (h : lessF p l < l.length) : Op.bytesLess l[lessF p l].path p = false := by
  have := lessN_at (s := p) (l := l.map Fil.path) (by rw [List.length_map]; exact h)
  rwa [List.getElem_map] at this
theorem flat_fils (x : List Fil) : flatA 3 (fils x) = celsF x := by
  induction x with
  | nil => rfl
  | cons f x ih =>
    show [AV.str f.path, .str f.text, .bool f.run] ++ flatA 3 (fils x) = [AV.str f.path, .str f.text, .bool f.run] ++ celsF x
    rw [ih]
theorem flat_one (x : List Fil) : ∀ y ∈ flatA 3 (fils x), y.one = true := by rw [flat_fils]; exact cels_one x
end Go.Proofs.YtgmakmfdjhgjlaaGreatDoor
end
section
set_option linter.unusedVariables false
set_option linter.unusedSimpArgs false
set_option maxRecDepth 20000
set_option maxHeartbeats 4000000
namespace Go.Proofs.YtgmakmfdjhgjlaaGreatDoor
open Go Go.Ab Go.Shelf Go.RowKit Go.Lib Go.Sort
theorem isNaN_c (x : ByteArray) (W : World) : Calls Tryz.prog 66 #[.string x] W fun e w' => e = .returned (.bool false) ∧ w' = W := by
  go_enter Tryz.func66, Tryz.ntmps66
  go_wp2
  go_ret
  exact ⟨rfl, rfl⟩
def cmpT (a b : List UInt8) : Int := if a < b then -1 else if b < a then 1 else 0
theorem bt (x : ByteArray) : x.toList = x.data.toList := by
  exact ByteArray.toList_eq x
theorem gtr_run (P : Program) (w : World) (t : TypeId) (x y : ByteArray) : (binOp .gtr t (.string x) (.string y)).run P w = .ok (.bool (Op.bytesLess y.toList x.toList)) w := by
  simp only [binOp, Op.stringOp, Sem.run_pure, Result.ok.injEq, Value.bool.injEq, and_true]
  rw [bt, bt, bl_eq, bl_eq]
  congr 1
  rw [Bool.eq_iff_iff]
  simp only [Bool.not_eq_true', Bool.or_eq_false_iff, decide_eq_false_iff_not, beq_eq_false_iff_ne, decide_eq_true_eq]
  constructor
  · rintro ⟨h1, h2⟩
    rcases Std.lt_trichotomy x.data.toList y.data.toList with h | h | h
    · exact absurd h h1
    · exact absurd h h2
    · exact h
  · intro h
    exact ⟨List.lt_asymm h, fun e => by rw [e] at h; exact absurd h (List.lt_irrefl _)⟩
theorem compare_c (x y : ByteArray) (W : World) : Calls Tryz.prog 29 #[.string x, .string y] W fun e w' => e = .returned (.int .i64 (cmpT x.data.toList y.data.toList)) ∧ w' = W := by
  go_enter Tryz.func29, Tryz.ntmps29
  go_wp2_with (go_at_call 66; refine (isNaN_c _ _).mono ?_; rintro e w' ⟨rfl, rfl⟩)
  · go_ret
    have h1 : x.data.toList < y.data.toList := by
      have := ‹Op.bytesLess x.toList y.toList = true›
      rw [bl_eq] at this
      simpa [bt] using this
    unfold cmpT
    rw [if_pos h1]
    exact ⟨rfl, rfl⟩
  · rw [gtr_run]
    simp only [Result.andThen_ok]
    go_wp2
    · go_ret
      have h0 : ¬ x.data.toList < y.data.toList := by
        have := ‹Op.bytesLess x.toList y.toList = false›
        rw [bl_eq] at this
        simpa [bt] using this
      have h1 : y.data.toList < x.data.toList := by
        have := ‹Op.bytesLess y.toList x.toList = true›
        rw [bl_eq] at this
        simpa [bt] using this
      unfold cmpT
      rw [if_neg h0, if_pos h1]
      exact ⟨rfl, rfl⟩
    · go_ret
      have h0 : ¬ x.data.toList < y.data.toList := by
        have := ‹Op.bytesLess x.toList y.toList = false›
        rw [bl_eq] at this
        simpa [bt] using this
      have h1 : ¬ y.data.toList < x.data.toList := by
        have := ‹Op.bytesLess y.toList x.toList = false›
        rw [bl_eq] at this
        simpa [bt] using this
      unfold cmpT
      rw [if_neg h0, if_neg h1]
      exact ⟨rfl, rfl⟩
instance : Inhabited Fil := ⟨⟨[], [], false⟩⟩
def encF (f : Fil) : List Value := [.string ⟨f.path.toArray⟩, .string ⟨f.text.toArray⟩, .bool f.run]
def cmpF (f g : Fil) : Int := cmpT f.path g.path
theorem ltF (f g : Fil) : ltOf cmpF f g = decide (f.path < g.path) := by
  unfold ltOf cmpF cmpT
  by_cases h1 : f.path < g.path
  · simp [h1]
  · by_cases h2 : g.path < f.path <;> simp [h1, h2]
theorem swoF : SWO (ltOf cmpF) where
  irrefl x := by rw [ltF]; simp
  trans x y z h1 h2 := by
    rw [ltF] at *
    simp only [decide_eq_true_eq] at *
    exact List.lt_trans h1 h2
  ntrans x y z h1 h2 := by
    rw [ltF] at *
    simp only [decide_eq_false_iff_not] at *
    exact fun h => by
      rcases Std.lt_trichotomy y.path z.path with h3 | h3 | h3
      · exact h2 h3
      · rw [h3] at h1; exact h1 h
      · exact h1 (List.lt_trans h h3)
end Go.Proofs.YtgmakmfdjhgjlaaGreatDoor
end
section
set_option linter.unusedVariables false
set_option linter.unusedSimpArgs false
set_option maxRecDepth 20000
set_option maxHeartbeats 4000000
namespace Go.Proofs.YtgmakmfdjhgjlaaGreatDoor
open Go Go.Ab Go.Shelf Go.RowKit Go.Lib Go.Sort
def sortFl (o : List Fil) : List Fil := o.mergeSort fun f g => decide (f.path ≤ g.path)
theorem sortFl_perm (o : List Fil) : (sortFl o).Perm o := List.mergeSort_perm _ _
theorem sortFl_pw (o : List Fil) : (sortFl o).Pairwise fun f g => f.path ≤ g.path := by
  have := List.pairwise_mergeSort (le := fun f g : Fil => decide (f.path ≤ g.path)) (fun a b c h1 h2 => leT_trans _ _ _ h1 h2) (fun a b => leT_total _ _) o
  exact this.imp fun h => by simpa using h
theorem sortFl_uniq {o x : List Fil} (hnd : (o.map Fil.path).Nodup) (hp : x.Perm o) (hs : x.Pairwise fun f g => f.path ≤ g.path) : x = sortFl o := by
  have h1 : x.map Fil.path = (sortFl o).map Fil.path := perm_sorted ((hp.trans (sortFl_perm o).symm).map _) (List.pairwise_map.2 hs) (List.pairwise_map.2 (sortFl_pw o))
  have hinj : ∀ f ∈ o, ∀ g ∈ o, f.path = g.path → f = g := by
    intro f hf g hg h
    obtain ⟨i, hi, rfl⟩ := List.getElem_of_mem hf
    obtain ⟨j, hj, rfl⟩ := List.getElem_of_mem hg
    have : i = j := (List.getElem_inj (h₀ := by simpa using hi) (h₁ := by simpa using hj) hnd).1 (by simpa using h)
    subst this; rfl
  have hl : x.length = (sortFl o).length := by have := congrArg List.length h1; simpa using this
  refine List.ext_getElem hl fun i h2 h3 => ?_
  refine hinj _ (hp.mem_iff.1 (List.getElem_mem h2)) _ ((sortFl_perm o).mem_iff.1 (List.getElem_mem h3)) ?_
  have e : (x.map Fil.path)[i]? = ((sortFl o).map Fil.path)[i]? := by rw [h1]
  rw [List.getElem?_map, List.getElem?_map, List.getElem?_eq_getElem h2, List.getElem?_eq_getElem h3] at e
  exact Option.some.inj e
def celK (f : Fil) (k : Nat) : AV := match k with | 0 => .str f.path | 1 => .str f.text | _ => .bool f.run
theorem cel_get {l : List Fil} {i : Nat} (h : i < l.length * 3) : (celsF l)[i]? = some (celK (l[i / 3]'(by omega)) (i % 3)) := by
  have hq : i / 3 < l.length := by omega
  obtain ⟨r, hr⟩ := cels_at hq
  have e : i = i / 3 * 3 + i % 3 := by omega
  have h3 : i % 3 < 3 := Nat.mod_lt _ (by decide)
  conv => lhs; rw [e]
  rw [← List.getElem?_drop, hr]
  generalize i % 3 = k at h3
  match k, h3 with
  | 0, _ => rfl
  | 1, _ => rfl
  | 2, _ => rfl
theorem flat_get {l : List Fil} {i : Nat} (h : i < l.length * 3) : (flatK encF 3 l.toArray)[i]! = (encF (l[i / 3]'(by omega)))[i % 3]! := by
  rw [get_flatK encF 3 l.toArray i (by simpa using h)]
  have hq : i / 3 < l.toArray.size := by simp; omega
  rw [getElem!_pos l.toArray (i / 3) hq]
  simp
theorem enc_rel (r : Rl) (w : World) (f : Fil) (k : Nat) (h : k < 3) : VRel r w (encF f)[k]! (celK f k) := by
  match k, h with
  | 0, _ => exact .str (by simp)
  | 1, _ => exact .str (by simp)
  | 2, _ => exact .bool
theorem enc_eq {r : Rl} {w : World} {f : Fil} {k : Nat} {v : Value} (h : k < 3) (hv : VRel r w v (celK f k)) : v = (encF f)[k]! := by
  match k, h with
  | 0, _ =>
    have hv : VRel r w v (.str f.path) := hv
    cases hv with
    | str hs => show Value.string _ = .string _; rw [← hs]
  | 1, _ =>
    have hv : VRel r w v (.str f.text) := hv
    cases hv with
    | str hs => show Value.string _ = .string _; rw [← hs]
  | 2, _ =>
    have hv : VRel r w v (.bool f.run) := hv
    cases hv; rfl
end Go.Proofs.YtgmakmfdjhgjlaaGreatDoor
end
section
set_option linter.unusedVariables false
set_option linter.unusedSimpArgs false
set_option maxRecDepth 20000
set_option maxHeartbeats 4000000
namespace Go.Proofs.YtgmakmfdjhgjlaaGreatDoor
open Go Go.Ab
def ksP (l : List Fil) : List (List UInt8) := l.foldl (fun ks f => addU ks f.path) []
def lastF (l : List Fil) (p : List UInt8) : Fil := (l.reverse.find? (fun f => f.path == p)).getD ⟨[], [], false⟩
def vaP (l : List Fil) : List UInt8 → AV := fun p => filA (lastF l p)
def ovT (c : List Fil) : List Fil := (sortT (ksP c)).map (lastF c)
theorem ksP_mem {l : List Fil} {p : List UInt8} : p ∈ ksP l ↔ ∃ f ∈ l, f.path = p := by
  unfold ksP; rw [addU_fold_mem]; simp
theorem ksP_nodup (l : List Fil) : (ksP l).Nodup := addU_fold_nodup _ l [] .nil
theorem lastF_mem {l : List Fil} {p : List UInt8} (h : p ∈ ksP l) : lastF l p ∈ l ∧ (lastF l p).path = p := by
  unfold lastF
  cases hq : l.reverse.find? (fun f => f.path == p) with
  | none =>
    rw [List.find?_eq_none] at hq
    obtain ⟨f, hf, e⟩ := ksP_mem.1 h
    exact absurd (by simpa using e) (hq f (by simpa using hf))
  | some f => exact ⟨by simpa using List.mem_of_find?_eq_some hq, by simpa using List.find?_some hq⟩
end Go.Proofs.YtgmakmfdjhgjlaaGreatDoor
end
section
set_option linter.unusedVariables false
set_option linter.unusedSimpArgs false
set_option maxRecDepth 20000
set_option maxHeartbeats 4000000
namespace Go.Proofs.YtgmakmfdjhgjlaaGreatDoor
open Go Go.Ab
theorem ov_mem {c : List Fil} {f : Fil} : f ∈ ovT c ↔ ∃ p ∈ ksP c, lastF c p = f := by
  unfold ovT
  rw [List.mem_map]
  constructor
  · rintro ⟨p, hp, h⟩; exact ⟨p, (sortT_perm _).mem_iff.1 hp, h⟩
  · rintro ⟨p, hp, h⟩; exact ⟨p, (sortT_perm _).mem_iff.2 hp, h⟩
theorem ov_sub {c : List Fil} {f : Fil} (h : f ∈ ovT c) : f ∈ c := by
  obtain ⟨p, hp, rfl⟩ := ov_mem.1 h
  exact (lastF_mem hp).1
theorem ov_has {c : List Fil} {f : Fil} (h : f ∈ c) : ∃ g ∈ ovT c, g.path = f.path := by
  have hp : f.path ∈ ksP c := ksP_mem.2 ⟨f, h, rfl⟩
  exact ⟨_, ov_mem.2 ⟨_, hp, rfl⟩, (lastF_mem hp).2⟩
end Go.Proofs.YtgmakmfdjhgjlaaGreatDoor
end
section
set_option linter.unusedVariables false
set_option linter.unusedSimpArgs false
set_option maxRecDepth 20000
set_option maxHeartbeats 4000000
namespace Go.Proofs.YtgmakmfdjhgjlaaGreatDoor
open Go Go.Ab
theorem Len0_ok : Calc cx 114 [.int .u64 0] (.int .i64 0) :=
  pure_intro (fun a w => Tryz.call114 a w) Tryz.func114 rfl Tryz.ntmps114 rfl .int fun B => by
    refine pa [.b false, .b false, .b false] rfl ?_ ?_
    · (repeat' with_reducible apply AllP_cons) <;> try exact aC
      all_goals decide +kernel
    refine S_retc .int rfl trivial ?_
    rfl
theorem LenU0_ok : Calc cx 90 [.int .u64 0] (.int .i64 0) :=
  pure_intro (fun a w => Tryz.call90 a w) Tryz.func90 rfl Tryz.ntmps90 rfl .int fun B => by
    refine pa [.b false, .v (.int .i64 0)] rfl ?_ ?_
    · (repeat' with_reducible apply AllP_cons) <;> try exact aC
      · exact ⟨_, Len0_ok, .cons (.refl .int) (.nil _)⟩
    exact S_retc .int rfl trivial rfl
end Go.Proofs.YtgmakmfdjhgjlaaGreatDoor
end
section
set_option linter.unusedVariables false
set_option linter.unusedSimpArgs false
set_option maxRecDepth 20000
set_option maxHeartbeats 4000000
namespace Go.Proofs.YtgmakmfdjhgjlaaGreatDoor
open Go Go.Ab
theorem ok_paths {l : List Fil} (h : okT l) : (l.map Fil.path).Nodup := by
  refine List.pairwise_map.2 (h.1.imp fun {f g} h e => ?_)
  rw [e, bl_irr] at h; cases h
end Go.Proofs.YtgmakmfdjhgjlaaGreatDoor
end
section
set_option linter.unusedVariables false
set_option linter.unusedSimpArgs false
set_option maxRecDepth 20000
set_option maxHeartbeats 4000000
namespace Go.Proofs.YtgmakmfdjhgjlaaGreatDoor
open Go Go.Ab
theorem lastF_app (u v : List Fil) (p : List UInt8) : lastF (u ++ v) p = if p ∈ ksP v then lastF v p else lastF u p := by
  have hf : ∀ (l : List Fil), p ∉ ksP l → l.reverse.find? (fun f => f.path == p) = none := fun l h => by
    rw [List.find?_eq_none]
    intro f hf e
    exact h (ksP_mem.2 ⟨f, by simpa using hf, by simpa using e⟩)
  have ht : ∀ (l : List Fil), p ∈ ksP l → ∃ f, l.reverse.find? (fun f => f.path == p) = some f := fun l h => by
    cases hq : l.reverse.find? (fun f => f.path == p) with
    | some f => exact ⟨f, rfl⟩
    | none =>
      rw [List.find?_eq_none] at hq
      obtain ⟨f, h1, h2⟩ := ksP_mem.1 h
      exact absurd (by simpa using h2) (hq f (by simpa using h1))
  unfold lastF
  rw [List.reverse_append, List.find?_append]
  by_cases h : p ∈ ksP v
  · rw [if_pos h]
    obtain ⟨f, hq⟩ := ht v h
    rw [hq]; rfl
  · rw [if_neg h, hf v h]; rfl
theorem ksP_ov {u : List Fil} {p : List UInt8} : p ∈ ksP (ovT u) ↔ p ∈ ksP u := by
  rw [ksP_mem, ksP_mem]
  constructor
  · rintro ⟨f, h, e⟩; exact ⟨f, ov_sub h, e⟩
  · rintro ⟨f, h, e⟩
    obtain ⟨g, h1, h2⟩ := ov_has h
    exact ⟨g, h1, h2.trans e⟩
end Go.Proofs.YtgmakmfdjhgjlaaGreatDoor
end
section
set_option linter.unusedVariables false
set_option linter.unusedSimpArgs false
set_option maxRecDepth 20000
set_option maxHeartbeats 4000000
namespace Go.Proofs.YtgmakmfdjhgjlaaGreatDoor
open Go Go.Ab
def stepF (o : List Fil) (f : Fil) : List Fil := match o.findIdx? (fun g => g.path == f.path) with
  | some j => o.set j f
  | none => addF o f
theorem ov_paths (c : List Fil) : (ovT c).map Fil.path = sortT (ksP c) := by
  unfold ovT
  rw [List.map_map]
  conv => rhs; rw [← List.map_id (sortT (ksP c))]
  refine List.map_congr_left fun p hp => ?_
  exact (lastF_mem ((sortT_perm _).mem_iff.1 hp)).2
theorem ksP_add (c : List Fil) (f : Fil) : ksP (c ++ [f]) = addU (ksP c) f.path := by unfold ksP; rw [List.foldl_append]; rfl
theorem lastF_add (c : List Fil) (f : Fil) (p : List UInt8) : lastF (c ++ [f]) p = if p = f.path then f else lastF c p := by
  rw [lastF_app]
  have hk : p ∈ ksP [f] ↔ p = f.path := by rw [ksP_mem]; simp [eq_comm]
  by_cases h : p = f.path
  · rw [if_pos (hk.2 h), if_pos h]
    obtain ⟨h1, _⟩ := lastF_mem (hk.2 h)
    simpa using h1
  · rw [if_neg (fun e => h (hk.1 e)), if_neg h]
theorem step_ov (c : List Fil) (f : Fil) : stepF (ovT c) f = ovT (c ++ [f]) := by
  have hp := ov_paths c
  by_cases hk : f.path ∈ ksP c
  · have hs : sortT (ksP (c ++ [f])) = sortT (ksP c) := by rw [ksP_add, addU, if_pos hk]
    have hm : ∃ g ∈ ovT c, g.path = f.path := by
      obtain ⟨g, h1, h2⟩ := ksP_mem.1 (ksP_ov.2 hk)
      exact ⟨g, h1, h2⟩
    unfold stepF
    cases hq : (ovT c).findIdx? (fun g => g.path == f.path) with
    | none =>
      rw [List.findIdx?_eq_none_iff] at hq
      obtain ⟨g, h1, h2⟩ := hm
      have := hq g h1
      simp [h2] at this
    | some j =>
      rw [List.findIdx?_eq_some_iff_getElem] at hq
      obtain ⟨h1, h2, _⟩ := hq
      have h2 : (ovT c)[j].path = f.path := by simpa using h2
      have hlen : (ovT c).length = (sortT (ksP c)).length := by unfold ovT; rw [List.length_map]
      have hlen' : (ovT (c ++ [f])).length = (sortT (ksP c)).length := by unfold ovT; rw [List.length_map, hs]
      have hat : ∀ k (hk : k < (ovT c).length), (ovT c)[k].path = (sortT (ksP c))[k]'(by omega) := by
        intro k hk
        have : ((ovT c).map Fil.path)[k]'(by simpa using hk) = (sortT (ksP c))[k]'(by omega) := by simp only [hp]
        rw [List.getElem_map] at this; exact this
      apply List.ext_getElem
      · rw [List.length_set]; omega
      · intro k k1 k2
        have e2 : (ovT (c ++ [f]))[k] = lastF (c ++ [f]) ((sortT (ksP c))[k]'(by omega)) := by
          have : (ovT (c ++ [f]))[k] = ((sortT (ksP (c ++ [f]))).map (lastF (c ++ [f])))[k]'(by rw [List.length_map, hs]; omega) := rfl
          rw [this, List.getElem_map]
          simp only [hs]
        have e1 : (ovT c)[k]'(by rw [List.length_set] at k1; exact k1) = lastF c ((sortT (ksP c))[k]'(by omega)) := List.getElem_map (lastF c)
        rw [List.getElem_set, e2, lastF_add]
        by_cases hjk : j = k
        · subst hjk
          rw [if_pos rfl, if_pos]
          rw [← hat j h1]; exact h2
        · rw [if_neg hjk, if_neg, e1]
          intro e
          rw [← hat k (by omega), ← h2, hat k (by omega), hat j h1] at e
          exact hjk ((List.getElem_inj (sort_nodup (ksP_nodup c))).1 e).symm
  · unfold stepF
    have hq : (ovT c).findIdx? (fun g => g.path == f.path) = none := by
      rw [List.findIdx?_eq_none_iff]
      intro g hg
      have : g.path ≠ f.path := fun e => hk (ksP_ov.1 (ksP_mem.2 ⟨g, hg, e⟩))
      simpa using this
    rw [hq]
    show addF (ovT c) f = _
    unfold addF lessF
    rw [hp]
    have hs : sortT (ksP (c ++ [f])) = (sortT (ksP c)).take (lessN f.path (sortT (ksP c))) ++ f.path :: (sortT (ksP c)).drop (lessN f.path (sortT (ksP c))) := by
      rw [ksP_add, ← addT_sort (ksP_nodup c), addT, if_neg]
      intro e
      exact hk ((sortT_perm _).mem_iff.1 (List.mem_of_getElem? e))
    have hl : ∀ l : List (List UInt8), (∀ p ∈ l, p ∈ ksP c) → l.map (lastF (c ++ [f])) = l.map (lastF c) := fun l h => List.map_congr_left fun p hp => by
      rw [lastF_add, if_neg (fun e : p = f.path => hk (e ▸ h p hp))]
    have h1 : ovT (c ++ [f]) = (sortT (ksP (c ++ [f]))).map (lastF (c ++ [f])) := rfl
    have h2 : ovT c = (sortT (ksP c)).map (lastF c) := rfl
    rw [h1, hs, List.map_append, List.map_cons, hl _ (fun p h => (sortT_perm _).mem_iff.1 (List.mem_of_mem_take h)), hl _ (fun p h => (sortT_perm _).mem_iff.1 (List.mem_of_mem_drop h)), lastF_add, if_pos rfl, h2, List.map_take, List.map_drop]
end Go.Proofs.YtgmakmfdjhgjlaaGreatDoor
end
section
set_option linter.unusedVariables false
set_option linter.unusedSimpArgs false
set_option maxRecDepth 20000
namespace Go.Proofs.YtgmakmfdjhgjlaaGreatDoor
open Go Go.Ab
def digs (n : Nat) : List UInt8 := if h : n < 10 then [UInt8.ofNat (48 + n)] else digs (n / 10) ++ [UInt8.ofNat (48 + n % 10)]
termination_by n
decreasing_by omega
theorem digs_len (n : Nat) : ∀ m, m = n → (digs m).length ≤ m + 1 := by
  induction n using Nat.strongRecOn with
  | _ n ih =>
    intro m hm
    rw [digs]
    split
    · simp
    · have := ih (m / 10) (by omega) (m / 10) rfl
      rw [List.length_append]; simp only [List.length_cons, List.length_nil]; omega
theorem DigitsOf_ok (n : Nat) : ∀ m, m = n → m ≤ 9007199254740991 → Calc cx 69 [.int .i64 (m : Nat)] (.str (digs m)) := by
  induction n using Nat.strongRecOn with
  | _ n ih =>
    intro m hm hb
    exact pure_intro (fun a w => Tryz.call69 a w) Tryz.func69 rfl Tryz.ntmps69 rfl .str fun B => by
      refine ab 1000 rfl trivial ?_
      refine S_dec rfl (fun h => ?_) (fun h => ?_)
      · have h : m < 10 := by have : (m : Int) < 10 := h; omega
        refine ab 1000 rfl ⟨?_, rfl, trivial⟩ ?_
        · intro x hx; simp at hx; subst hx; trivial
        refine S_retc .str rfl trivial ?_
        show AV.str [Ab.byteOf (.int .u8 (IntKind.u8.wrap (IntKind.i64.wrap (48 + (m : Int)))))] = _
        rw [digs, dif_pos h, w64 (k := 48 + m) (by omega) (by omega), wu8 (k := 48 + m) rfl (by omega)]
        rfl
      · have h : ¬ m < 10 := by have : ¬ (m : Int) < 10 := h; omega
        have e1 : (m : Int).tdiv 10 = ((m / 10 : Nat) : Int) := rfl
        have e2 : (m : Int).tmod 10 = ((m % 10 : Nat) : Int) := rfl
        refine ab 1000 rfl ⟨by decide, trivial⟩ ?_
        have f1 : AV.int .i64 (IntKind.i64.wrap ((m : Int).tdiv 10)) = .int .i64 ((m / 10 : Nat) : Int) := ai64 e1 (by omega)
        have f2 : AV.int .i64 ((m : Int).tmod 10) = .int .i64 ((m % 10 : Nat) : Int) := by rw [e2]
        have l1 := digs_len _ (m / 10) rfl
        have l2 := digs_len _ (m % 10) rfl
        refine S_pure rfl rfl rfl (ih (m / 10) (by omega) (m / 10) rfl (by omega)) (.cons (by show Frz false _ (AV.int .i64 (IntKind.i64.wrap ((m : Int).tdiv 10))) _; rw [f1]; exact .refl .int) (.nil _)) ?_
        refine ab 1000 rfl ⟨by decide, trivial⟩ ?_
        refine S_pure rfl rfl rfl (ih (m % 10) (by omega) (m % 10) rfl (by omega)) (.cons (by show Frz false _ (AV.int .i64 ((m : Int).tmod 10)) _; rw [f2]; exact .refl .int) (.nil _)) ?_
        refine ab 1000 rfl ⟨?_, trivial⟩ ?_
        · show (((digs (m / 10)).length + (digs (m % 10)).length : Nat) : Int) ≤ 9223372036854775807; omega
        refine S_retc .str rfl trivial ?_
        conv => rhs; rw [digs, dif_neg h]
        rw [show digs (m % 10) = [UInt8.ofNat (48 + m % 10)] by rw [digs, dif_pos (by omega)]]
        rfl
end Go.Proofs.YtgmakmfdjhgjlaaGreatDoor
end
section
set_option linter.unusedVariables false
set_option linter.unusedSimpArgs false
set_option maxRecDepth 20000
namespace Go.Proofs.YtgmakmfdjhgjlaaGreatDoor
open Go Go.Ab
def laysItoa_ren : Go.Shelf.Ren := ⟨fun | 171 => 50 | 243 => 84 | 246 => 103 | 283 => 125 | 284 => 126 | 285 => 127 | 286 => 128 | 129 => 114 | 317 => 149 | 318 => 150 | 319 => 151 | 320 => 152 | 337 => 160 | 338 => 161 | n => n, fun | 3 => 3 | 9 => 9 | 2 => 2 | 4 => 4 | 171 => 133 | 0 => 0 | 53 => 113 | 37 => 87 | 5 => 5 | 173 => 135 | 212 => 158 | 51 => 115 | 20 => 20 | 213 => 159 | 46 => 100 | 232 => 98 | 233 => 179 | n => n, fun | 17 => 3 | 18 => 8 | 19 => 9 | n => n⟩
theorem laysItoa : Go.Proofs.LaysM.n171 Tryz.prog laysItoa_ren := {
  mixed := by kernel_rfl
  f129 := Tryz.func114.trans (congrArg some (by kernel_rfl))
  f171 := Tryz.func50.trans (congrArg some (by kernel_rfl))
  f243 := Tryz.func84.trans (congrArg some (by kernel_rfl))
  f246 := Tryz.func103.trans (congrArg some (by kernel_rfl))
  f283 := Tryz.func125.trans (congrArg some (by kernel_rfl))
  f284 := Tryz.func126.trans (congrArg some (by kernel_rfl))
  f285 := Tryz.func127.trans (congrArg some (by kernel_rfl))
  f286 := Tryz.func128.trans (congrArg some (by kernel_rfl))
  f317 := Tryz.func149.trans (congrArg some (by kernel_rfl))
  f318 := Tryz.func150.trans (congrArg some (by kernel_rfl))
  f319 := Tryz.func151.trans (congrArg some (by kernel_rfl))
  f320 := Tryz.func152.trans (congrArg some (by kernel_rfl))
  f337 := Tryz.func160.trans (congrArg some (by kernel_rfl))
  f338 := Tryz.func161.trans (congrArg some (by kernel_rfl))
  t0 := Tryz.underlying0
  a0 := Tryz.isAgg0
  z0 := Tryz.sizeOf0
  v0 := Tryz.zeroValue0
  t2 := Tryz.underlying2
  a2 := Tryz.isAgg2
  z2 := Tryz.sizeOf2
  v2 := Tryz.zeroValue2
  t3 := Tryz.underlying3
  a3 := Tryz.isAgg3
  z3 := Tryz.sizeOf3
  v3 := Tryz.zeroValue3
  t4 := Tryz.underlying4
  a4 := Tryz.isAgg4
  z4 := Tryz.sizeOf4
  v4 := Tryz.zeroValue4
  t5 := Tryz.underlying5
  a5 := Tryz.isAgg5
  z5 := Tryz.sizeOf5
  v5 := Tryz.zeroValue5
  t9 := Tryz.underlying9
  a9 := Tryz.isAgg9
  z9 := Tryz.sizeOf9
  v9 := Tryz.zeroValue9
  t20 := Tryz.underlying20
  a20 := Tryz.isAgg20
  z20 := Tryz.sizeOf20
  v20 := Tryz.zeroValue20
  t37 := Tryz.underlying87
  a37 := Tryz.isAgg87
  z37 := Tryz.sizeOf87
  v37 := Tryz.zeroValue87
  t46 := Tryz.underlying100
  a46 := Tryz.isAgg100
  z46 := Tryz.sizeOf100
  v46 := Tryz.zeroValue100
  t51 := Tryz.underlying115
  a51 := Tryz.isAgg115
  z51 := Tryz.sizeOf115
  v51 := Tryz.zeroValue115
  t53 := Tryz.underlying113
  a53 := Tryz.isAgg113
  z53 := Tryz.sizeOf113
  v53 := Tryz.zeroValue113
  t171 := Tryz.underlying133
  a171 := Tryz.isAgg133
  z171 := Tryz.sizeOf133
  v171 := Tryz.zeroValue133
  t173 := Tryz.underlying135
  a173 := Tryz.isAgg135
  z173 := Tryz.sizeOf135
  v173 := Tryz.zeroValue135
  t212 := Tryz.underlying158
  a212 := Tryz.isAgg158
  z212 := Tryz.sizeOf158
  v212 := Tryz.zeroValue158
  t213 := Tryz.underlying159
  a213 := Tryz.isAgg159
  z213 := Tryz.sizeOf159
  t232 := Tryz.underlying98
  a232 := Tryz.isAgg98
  z232 := Tryz.sizeOf98
  v232 := Tryz.zeroValue98
  t233 := Tryz.underlying179
  a233 := Tryz.isAgg179
  z233 := Tryz.sizeOf179
  v233 := Tryz.zeroValue179
  g17 := by kernel_rfl
  g18 := by kernel_rfl
  g19 := by kernel_rfl
  i0 := by kernel_rfl
  i2 := by kernel_rfl
  i3 := by kernel_rfl
  i4 := by kernel_rfl
  i5 := by kernel_rfl
  i9 := by kernel_rfl
  i20 := by kernel_rfl
  i37 := by kernel_rfl
  i46 := by kernel_rfl
  i51 := by kernel_rfl
  i53 := by kernel_rfl
  i171 := by kernel_rfl
  i173 := by kernel_rfl
  i212 := by kernel_rfl
  i232 := by kernel_rfl
  i233 := by kernel_rfl
  m17 := by kernel_rfl
  m18 := by kernel_rfl
  m19 := by kernel_rfl }
theorem gPow : Tryz.prog.globalNamed "internal/strconv.uint64pow10" = some 3 := by kernel_rfl
theorem pow10_whole : (Lib.pow10Tab.map fun z => Value.int .u64 z).toArray = pow10V := by unfold Lib.pow10Tab pow10V; rw [List.map_map]; rfl
theorem Itoa_ok (n : Int) (h0 : -9223372036854775808 ≤ n) (h1 : n ≤ 9223372036854775807) : Calc cx 50 [.int .i64 n] (.str (Lib.itoa n)) :=
  .told (fun a w => Tryz.call50 a w) .str fun r w vs hi hv => by
    obtain ⟨hs, hv⟩ := hv
    have h := hv 0 (Nat.zero_lt_succ _)
    have hvs : vs = #[.int .i64 n] := by
      refine Array.ext_getElem? fun i => ?_
      match i with
      | 0 =>
        cases hx : vs[0]? with
        | none => rw [Array.getElem?_eq_none_iff] at hx; simp at hs; omega
        | some x =>
          have : vs.getD 0 undef = x := by simp [Array.getD_eq_getD_getElem?, hx]
          rw [this] at h
          cases h; rfl
      | i + 1 =>
        have : vs.size = 1 := hs
        rw [Array.getElem?_eq_none (by omega), Array.getElem?_eq_none (by simp)]
    subst hvs
    refine ⟨.string ⟨(Lib.itoa n).toArray⟩, fun w' => .str rfl, ?_⟩
    exact Any.strconv_Itoa laysItoa n h0 h1 w (by
      unfold Lib.TabIs
      rw [pow10_whole]
      exact hi.whole gPow rfl)
end Go.Proofs.YtgmakmfdjhgjlaaGreatDoor
end
section
set_option linter.unusedVariables false
set_option linter.unusedSimpArgs false
set_option maxRecDepth 20000
set_option maxHeartbeats 4000000
namespace Go.Proofs.YtgmakmfdjhgjlaaGreatDoor
open Go Go.Ab
theorem digs_dec (n : Nat) : ∀ m, m = n → digs m = Lib.decDigits m := by
  induction n using Nat.strongRecOn with
  | _ n ih =>
    intro m hm
    rw [digs, Lib.decDigits]
    by_cases h : m < 10
    · rw [dif_pos h, dif_pos h]
    · rw [dif_neg h, dif_neg h, ih (m / 10) (by omega) (m / 10) rfl]
theorem itoa_digs (n : Nat) : Lib.itoa (n : Int) = digs n := by
  rw [digs_dec n n rfl]
  unfold Lib.itoa
  rw [if_neg (by omega)]
  simp
end Go.Proofs.YtgmakmfdjhgjlaaGreatDoor
end
section
set_option linter.unusedVariables false
set_option linter.unusedSimpArgs false
set_option maxRecDepth 20000
namespace Go.Proofs.YtgmakmfdjhgjlaaGreatDoor
open Go Go.Ab
def checkL (l : List (List UInt8)) (most : Nat) : Nat := if most < l.length then 2 else if l.any (fun s => decide (100000 < s.length)) then 2 else 0
theorem CheckList_ok {st fl : Bool} (l : List (List UInt8)) (most : Nat) (hl : l.length ≤ 9223372036854775806) : Calc cx 23 [.sl st fl 1 (texts l), .int .i64 most] (.int .i64 (checkL l most : Nat)) :=
  pure_intro (fun a w => Tryz.call23 a w) Tryz.func23 rfl Tryz.ntmps23 rfl .int fun B => by
    refine ab 1000 rfl trivial ?_
    refine S_dec rfl (fun h => ?_) (fun h => ?_)
    · have h : most < l.length := by simp [texts] at h; omega
      refine ab 1000 rfl trivial ?_
      refine S_retc .int rfl trivial ?_
      rw [checkL, if_pos h]; rfl
    · have h : ¬ most < l.length := by simp [texts] at h; omega
      refine ab 1000 rfl trivial ?_
      refine S_while (α := Nat) (fun i => [(0, .sl st fl 1 (texts l)), (5, .int .i64 i)]) (fun _ => []) (fun i => i ≤ l.length ∧ (l.take i).any (fun s => decide (100000 < s.length)) = false) (fun i => l.length - i) 0
        ⟨Nat.zero_le _, rfl⟩ (.cons rfl (.cons rfl (.nil _))) rfl ?_
      rintro i ⟨hi, hN⟩
      refine ab 1000 rfl trivial ?_
      refine S_dec rfl (fun hlt => ?_) (fun hlt => ?_)
      · have hil : i < l.length := by simp [texts] at hlt; omega
        refine ab 1000 rfl trivial ?_
        refine S_index (.str l[i]) rfl rfl rfl ⟨rfl, by omega, by simp [texts, List.getElem?_eq_getElem hil], trivial⟩ ?_
        refine ab 1000 rfl trivial ?_
        refine S_dec rfl (fun hb => ?_) (fun hb => ?_)
        · have hb : 100000 < l[i].length := by omega
          refine ab 1000 rfl trivial ?_
          refine S_retc .int rfl trivial ?_
          rw [checkL, if_neg h, if_pos (List.any_eq_true.2 ⟨l[i], List.getElem_mem hil, by simpa using hb⟩)]; rfl
        · have hb : ¬ 100000 < l[i].length := by omega
          refine ab 1000 rfl trivial ?_
          refine S_round (i + 1) (by show l.length - (i + 1) < l.length - i; omega) ⟨hil, ?_⟩ (.cons rfl (.cons (ai64 rfl (by omega)) (.nil _))) rfl
          rw [List.take_succ_eq_append_getElem hil, List.any_append, hN]
          simp; omega
      · have hil : i = l.length := by simp [texts] at hlt; omega
        refine ab 1000 rfl trivial ?_
        refine S_retc .int rfl trivial ?_
        rw [hil, List.take_length] at hN
        rw [checkL, if_neg h, if_neg (by rw [hN]; simp)]; rfl
end Go.Proofs.YtgmakmfdjhgjlaaGreatDoor
end
section
set_option linter.unusedVariables false
set_option linter.unusedSimpArgs false
set_option maxRecDepth 20000
namespace Go.Proofs.YtgmakmfdjhgjlaaGreatDoor
open Go Go.Ab
structure Ln where
  op : List UInt8
  ws : List (List UInt8)
  ns : List Nat
def kSet : List UInt8 := [115, 101, 116]
def kRead : List UInt8 := [114, 101, 97, 100]
def kList : List UInt8 := [108, 105, 115, 116]
def kJoin : List UInt8 := [106, 111, 105, 110]
def kCut : List UInt8 := [99, 117, 116]
def kSize : List UInt8 := [115, 105, 122, 101]
def kSum : List UInt8 := [115, 117, 109]
def kMake : List UInt8 := [109, 97, 107, 101]
def kRun : List UInt8 := [114, 117, 110]
def kSame : List UInt8 := [115, 97, 109, 101]
def kLess : List UInt8 := [108, 101, 115, 115]
def kGoto : List UInt8 := [103, 111, 116, 111]
def kExit : List UInt8 := [101, 120, 105, 116]
def formL : List (List UInt8 × List UInt8) := [(kSet, [114, 116]), (kRead, [114, 112]), (kList, [114, 100]), (kJoin, [114, 114]), (kCut, [114, 110, 110]), (kSize, [114, 114]), (kSum, [114]), (kMake, [112, 114]), (kRun, [112, 114]), (kSame, [114, 114, 108]), (kLess, [114, 114, 108]), (kGoto, [108]), (kExit, [101])]
def formT' (w : List UInt8) : Option (List UInt8) := (formL.find? fun p => p.1 == w).map Prod.snd
def regB (s : List UInt8) : Bool := match s with
  | [c] => decide (97 ≤ c) && decide (c ≤ 104)
  | _ => false
def digB (c : UInt8) : Bool := decide (48 ≤ c) && decide (c ≤ 57)
def valN (s : List UInt8) : Nat := s.foldl (fun n c => 10 * n + (c.toNat - 48)) 0
def numT (s : List UInt8) (most : Nat) : Option Nat :=
  if s.all digB = true ∧ s ≠ [] ∧ s.length ≤ 6 ∧ ¬ (1 < s.length ∧ s.head? = some 48) ∧ valN s ≤ most then some (valN s) else none
def wordT (c : UInt8) (w : List UInt8) (lines : Nat) : Option Nat :=
  if c = 114 then (if regB w then some 0 else none)
  else if c = 112 then (if isPathB w then some 0 else none)
  else if c = 100 then (if w == [46] || isPathB w then some 0 else none)
  else if c = 110 then numT w 999999
  else if c = 108 then numT w lines
  else if c = 101 then numT w 99
  else some 0
def wordsT (lines : Nat) : List UInt8 → List (List UInt8) → Option (List Nat)
  | [], [] => some []
  | c :: f, w :: ws => match wordT c w lines with
    | none => none
    | some n => (wordsT lines f ws).map (n :: ·)
  | _, _ => none
def fst32 (p : List UInt8) : List UInt8 := p.takeWhile (fun c => c != 32)
def rst32 (p : List UInt8) : List UInt8 := (p.dropWhile (fun c => c != 32)).drop 1
def lnOf (lines : Nat) (s : List UInt8) : Option Ln :=
  match formT' (fst32 s) with
  | none => none
  | some f =>
    if f = [114, 116] then (if (rst32 s).contains 32 && regB (fst32 (rst32 s)) then some ⟨fst32 s, [fst32 (rst32 s), rst32 (rst32 s)], []⟩ else none)
    else (wordsT lines f (splitB 32 (rst32 s))).map fun ns => ⟨fst32 s, splitB 32 (rst32 s), ns⟩
def progT (lines : Nat) : List (List UInt8) → Option (List Ln)
  | [] => some []
  | s :: r => match lnOf lines s with
    | none => none
    | some x => (progT lines r).map (x :: ·)
def badLn (lines : Nat) : List (List UInt8) → Nat
  | [] => 0
  | s :: r => match lnOf lines s with
    | none => 0
    | some _ => badLn lines r + 1
def comE (l : List (List UInt8)) : Nat := if checkL l 60 = 0 then (if (progT l.length l).isSome then 0 else 1) else 2
def comI (l : List (List UInt8)) : Nat := if comE l = 1 then badLn l.length l else 0
structure Mc where
  regs : List UInt8 → List UInt8
  ks : List (List UInt8)
  made : List Fil
  pc : Nat
  left : Nat
  code : Nat
  done : Bool
def endM (c : Nat) (m : Mc) : Mc := { m with code := c, done := true }
def tripM (c : Nat) (m : Mc) : Mc := if m.left < 1 then endM 104 { m with left := 0 } else endM c { m with left := m.left - 1 }
def keepM (t : List UInt8) (k : Mc → Mc) (m : Mc) : Mc :=
  if 100000 < t.length then tripM 102 m
  else if m.left < 1 + t.length / 16 then endM 104 { m with left := 0 }
  else k { m with left := m.left - (1 + t.length / 16) }
def updT (f : List UInt8 → List UInt8) (r t : List UInt8) : List UInt8 → List UInt8 := fun k => if k = r then t else f k
def setM (r t : List UInt8) (m : Mc) : Mc := keepM t (fun m => { m with regs := updT m.regs r t, ks := addK m.ks r }) m
def badM (p : List UInt8) (c : List Fil) : Bool := (ksP c).any fun q => q != p && meetT q p
def makeM (p t : List UInt8) (run : Bool) (m : Mc) : Mc :=
  if badM p m.made = true ∨ p ∉ ksP m.made ∧ (ksP m.made).length = 60 then tripM 103 m
  else keepM t (fun m => { m with made := m.made ++ [⟨p, t, run⟩] }) m
def jumpM (is : Bool) (to : Nat) (m : Mc) : Mc :=
  if m.left < 1 then endM 104 { m with left := 0 } else if is then { m with left := m.left - 1, pc := to } else { m with left := m.left - 1 }
def exitM (c : Nat) (m : Mc) : Mc := if m.left < 1 then endM 104 { m with left := 0 } else endM c { m with left := m.left - 1 }
def listT (files : List Fil) (d : List UInt8) : List UInt8 := files.flatMap fun f => if d = [46] ∨ insT d f.path = true then f.path ++ [10] else []
def wAt (l : List (List UInt8)) (i : Nat) : List UInt8 := l.getD i []
def nAt (l : List Nat) (i : Nat) : Nat := l.getD i 0
def stepM (files : List Fil) (x : Ln) (m : Mc) : Mc :=
  let a := wAt x.ws 0
  let b := wAt x.ws 1
  if x.op = kSet then setM a b m
  else if x.op = kRead then (match files.find? (fun f => f.path == b) with | none => tripM 101 m | some f => setM a f.text m)
  else if x.op = kList then setM a (listT files b) m
  else if x.op = kJoin then setM a (m.regs a ++ m.regs b) m
  else if x.op = kCut then setM a (((m.regs a).take (min (m.regs a).length (nAt x.ns 2))).drop (min (min (m.regs a).length (nAt x.ns 2)) (nAt x.ns 1))) m
  else if x.op = kSize then setM a (digs (m.regs b).length) m
  else if x.op = kSum then setM a (sha (m.regs a)) m
  else if x.op = kMake then makeM a (m.regs b) false m
  else if x.op = kRun then makeM a (m.regs b) true m
  else if x.op = kSame then jumpM (m.regs a == m.regs b) (nAt x.ns 2) m
  else if x.op = kLess then jumpM (Op.bytesLess (m.regs a) (m.regs b)) (nAt x.ns 2) m
  else if x.op = kGoto then jumpM true (nAt x.ns 0) m
  else exitM (nAt x.ns 0) m
def runM (files : List Fil) (prog : List Ln) : Nat → Mc → Mc
  | 0, m => m
  | n + 1, m => if m.done then m else match prog[m.pc]? with
    | none => m
    | some x => runM files prog n (stepM files x { m with pc := m.pc + 1 })
def mc0 (fuel : Nat) : Mc := ⟨fun _ => [], [], [], 0, fuel, 0, false⟩
def boxE (files : List Fil) (com : List (List UInt8)) (fuel : Int) : Nat := if chkT files = 0 then (if comE com = 0 then (if fuel < 0 ∨ 100000 < fuel then 3 else 0) else comE com) else chkT files
def runT (files : List Fil) (com : List (List UInt8)) (fuel : Nat) : Mc := runM files ((progT com.length com).getD []) (fuel + 1) (mc0 fuel)
end Go.Proofs.YtgmakmfdjhgjlaaGreatDoor
end
section
set_option linter.unusedVariables false
set_option linter.unusedSimpArgs false
set_option maxRecDepth 20000
namespace Go.Proofs.YtgmakmfdjhgjlaaGreatDoor
open Go Go.Ab
theorem fst32_ok (p : List UInt8) : (p.count 32 = 0 ∧ fst32 p = p ∧ rst32 p = []) ∨ (0 < p.count 32 ∧ p = fst32 p ++ 32 :: rst32 p) := by
  induction p with
  | nil => exact .inl ⟨rfl, rfl, rfl⟩
  | cons c p ih =>
    by_cases hc : c = 32
    · subst hc
      exact .inr ⟨by simp, rfl⟩
    · have h1 : fst32 (c :: p) = c :: fst32 p := by unfold fst32; rw [List.takeWhile_cons, if_pos (by simpa using hc)]
      have h2 : rst32 (c :: p) = rst32 p := by unfold rst32; rw [List.dropWhile_cons, if_pos (by simpa using hc)]
      have h3 : (c :: p).count 32 = p.count 32 := by rw [List.count_cons, if_neg (by simpa using hc)]; rfl
      rw [h1, h2, h3]
      rcases ih with ⟨a, b, d⟩ | ⟨a, b⟩
      · exact .inl ⟨a, by rw [b], d⟩
      · exact .inr ⟨a, by rw [List.cons_append, ← b]⟩
theorem fst32_ix (p : List UInt8) : (Lib.indexByte p 32 = -1 ∧ fst32 p = p ∧ rst32 p = []) ∨ (∃ m : Nat, Lib.indexByte p 32 = m ∧ m < p.length ∧ fst32 p = p.take m ∧ rst32 p = p.drop (m + 1)) := by
  induction p with
  | nil => exact .inl ⟨rfl, rfl, rfl⟩
  | cons c p ih =>
    by_cases hc : c = 32
    · subst hc
      exact .inr ⟨0, by simp [Lib.indexByte], by simp, rfl, rfl⟩
    · have h1 : fst32 (c :: p) = c :: fst32 p := by unfold fst32; rw [List.takeWhile_cons, if_pos (by simpa using hc)]
      have h2 : rst32 (c :: p) = rst32 p := by unfold rst32; rw [List.dropWhile_cons, if_pos (by simpa using hc)]
      rw [h1, h2]
      rcases ih with ⟨a, b, d⟩ | ⟨m, a, b, d, e⟩
      · exact .inl ⟨by rw [Lib.indexByte, if_neg (by simpa using hc), if_pos (by rw [a]; rfl)], by rw [b], d⟩
      · exact .inr ⟨m + 1, by rw [Lib.indexByte, if_neg (by simpa using hc), if_neg (by rw [a]; simp), a]; rfl, by simp; omega, by rw [d]; rfl, by rw [e]; rfl⟩
theorem rst32_len (p : List UInt8) : (rst32 p).length ≤ p.length - 1 := by
  rcases fst32_ok p with ⟨_, _, h⟩ | ⟨_, h⟩
  · rw [h]; simp
  · have := congrArg List.length h
    rw [List.length_append, List.length_cons] at this; omega
theorem fst32_len (p : List UInt8) : (fst32 p).length ≤ p.length := by
  rcases fst32_ok p with ⟨_, h, _⟩ | ⟨_, h⟩
  · rw [h]; exact Nat.le_refl _
  · have := congrArg List.length h
    rw [List.length_append, List.length_cons] at this; omega
theorem split_fst32 (p : List UInt8) : splitB 32 p = fst32 p :: (if p.count 32 = 0 then [] else splitB 32 (rst32 p)) := by
  induction p with
  | nil => rfl
  | cons c p ih =>
    by_cases hc : c = 32
    · subst hc
      rw [splitB, if_pos rfl, if_neg (by simp)]; rfl
    · have h1 : fst32 (c :: p) = c :: fst32 p := by unfold fst32; rw [List.takeWhile_cons, if_pos (by simpa using hc)]
      have h2 : rst32 (c :: p) = rst32 p := by unfold rst32; rw [List.dropWhile_cons, if_pos (by simpa using hc)]
      have h3 : (c :: p).count 32 = p.count 32 := by rw [List.count_cons, if_neg (by simpa using hc)]; rfl
      rw [h1, h2, h3, splitB, if_neg hc, ih]
def cut32AV (s : List UInt8) : AV := .tup [.str (fst32 s), .str (rst32 s), .bool (decide (0 ≤ Lib.indexByte s 32))]
theorem cut32AV_free (s : List UInt8) : Free true (cut32AV s) := .tup (by intro x hx; simp at hx; rcases hx with rfl | rfl | rfl; exact .str; exact .str; exact .bool)
theorem sCut32_ok (s : List UInt8) (hs : s.length ≤ 1000000000) : Calc cx 101 [.str s, .str [32]] (cut32AV s) :=
  pure_intro (fun a w => Tryz.call101 a w) Tryz.func101 rfl Tryz.ntmps101 rfl (cut32AV_free s) fun B => by
    have hI := sIndex_ok s 32
    unfold cut32AV
    rcases fst32_ix s with ⟨h1, h2, h3⟩ | ⟨m, h1, h2, h3, h4⟩
    · rw [h1] at hI ⊢
      rw [h2, h3]
      refine pa [.v (.int .i64 (-1)), .b false] rfl ?_ ?_
      · (repeat' with_reducible apply AllP_cons) <;> try exact aC
        · exact ⟨_, hI, .cons (.refl .str) (.cons (.refl .str) (.nil _))⟩
      exact S_retc (.tup (by intro x hx; simp at hx; rcases hx with rfl | rfl | rfl; exact .str; exact .str; exact .bool)) rfl trivial rfl
    · rw [h1] at hI ⊢
      have e1 : decide ((m : Int) ≥ 0) = true := decide_eq_true (by omega)
      have hw : IntKind.i64.wrap ((m : Int) + ((([32] : List UInt8).length : Nat) : Int)) = ((m + 1 : Nat) : Int) := by
        show IntKind.i64.wrap ((m : Int) + 1) = ((m + 1 : Nat) : Int)
        exact w64 (by omega) (by omega)
      refine pa [.v (.int .i64 (m : Nat)), .b true] rfl ?_ ?_
      · (repeat' with_reducible apply AllP_cons) <;> try exact aC
        · exact ⟨_, hI, .cons (.refl .str) (.cons (.refl .str) (.nil _))⟩
        all_goals (rw [hw]; omega)
      refine S_retc (.tup (by intro x hx; simp at hx; rcases hx with rfl | rfl | rfl; exact .str; exact .str; exact .bool)) rfl trivial ?_
      rw [h3, h4]
      show AV.tup [.str (cutL none (some (m : Int)) s), .str (cutL (some (IntKind.i64.wrap ((m : Int) + ((([32] : List UInt8).length : Nat) : Int)))) none s), .bool true] = _
      rw [hw, decide_eq_true (by omega)]
      simp [cutL]
theorem Cut32_ok (s : List UInt8) (hs : s.length ≤ 1000000000) : Calc cx 74 [.str s, .str [32]] (cut32AV s) :=
  pure_intro (fun a w => Tryz.call74 a w) Tryz.func74 rfl Tryz.ntmps74 rfl (cut32AV_free s) fun B => by
    refine pa [.v (cut32AV s)] rfl ?_ ?_
    · (repeat' with_reducible apply AllP_cons) <;> try exact aC
      · exact ⟨_, sCut32_ok s hs, .cons (.refl .str) (.cons (.refl .str) (.nil _))⟩
    exact S_retc (cut32AV_free s) rfl trivial rfl
end Go.Proofs.YtgmakmfdjhgjlaaGreatDoor
end
section
set_option linter.unusedVariables false
set_option linter.unusedSimpArgs false
set_option maxRecDepth 20000
namespace Go.Proofs.YtgmakmfdjhgjlaaGreatDoor
open Go Go.Ab
def rightW (lines : Nat) (w : List UInt8) (r : List (List UInt8)) : Bool := match formT' w with
  | none => false
  | some f => if f = [114, 116] then (match r with
    | a :: _ :: _ => regB a
    | _ => false) else (wordsT lines f r).isSome
theorem regB_one {a : List UInt8} (h : regB a = true) : ∃ c, a = [c] ∧ 97 ≤ c ∧ c ≤ 104 := by
  match a, h with
  | [c], h =>
    unfold regB at h
    rw [Bool.and_eq_true, decide_eq_true_eq, decide_eq_true_eq] at h
    exact ⟨c, rfl, h.1, h.2⟩
theorem formL_mem {w f : List UInt8} (h : formT' w = some f) : (w, f) ∈ formL := by
  unfold formT' at h
  cases hq : formL.find? (fun p => p.1 == w) with
  | none => rw [hq] at h; cases h
  | some p =>
    rw [hq] at h
    have h1 := List.mem_of_find?_eq_some hq
    have h2 := List.find?_some hq
    have h2 : p.1 = w := by simpa using h2
    obtain rfl : p.2 = f := Option.some.inj h
    rw [← h2]; exact h1
theorem words_empty {lines : Nat} {w f : List UInt8} (h : formT' w = some f) (h1 : f ≠ [114, 116]) : wordsT lines f [[]] = none ∧ wordsT lines f [] = none := by
  have := formL_mem h
  simp only [formL, List.mem_cons, Prod.mk.injEq, List.not_mem_nil, or_false] at this
  rcases this with ⟨_, rfl⟩ | ⟨_, rfl⟩ | ⟨_, rfl⟩ | ⟨_, rfl⟩ | ⟨_, rfl⟩ | ⟨_, rfl⟩ | ⟨_, rfl⟩ | ⟨_, rfl⟩ | ⟨_, rfl⟩ | ⟨_, rfl⟩ | ⟨_, rfl⟩ | ⟨_, rfl⟩ | ⟨_, rfl⟩
  · exact absurd rfl h1
  all_goals refine ⟨?_, rfl⟩
  all_goals simp [wordsT, wordT, regB, isPathB, numT, splitB, isName]
theorem split32_tail (s : List UInt8) : (splitB 32 s).tail = if s.count 32 = 0 then [] else splitB 32 (rst32 s) := by rw [split_fst32]; rfl
theorem words_tail {lines : Nat} {s f : List UInt8} (h : formT' (fst32 s) = some f) (h1 : f ≠ [114, 116]) : wordsT lines f (splitB 32 (rst32 s)) = wordsT lines f (splitB 32 s).tail := by
  obtain ⟨k1, k2⟩ := words_empty (lines := lines) h h1
  rw [split32_tail]
  rcases fst32_ok s with ⟨h0, _, h2⟩ | ⟨h0, _⟩
  · rw [if_pos h0, h2, k2]; exact k1
  · rw [if_neg (show ¬ s.count 32 = 0 by omega)]
theorem split_two (s : List UInt8) : (∃ b t, splitB 32 s = fst32 s :: b :: t ∧ s.contains 32 = true) ∨ (splitB 32 s = [s] ∧ s.contains 32 = false ∧ fst32 s = s) := by
  rcases fst32_ok s with ⟨h0, h1, _⟩ | ⟨h0, _⟩
  · refine .inr ⟨split_none h0, ?_, h1⟩
    simpa using List.count_eq_zero.1 h0
  · have h2 := split_fst32 s
    rw [if_neg (show ¬ s.count 32 = 0 by omega)] at h2
    have h3 : s.contains 32 = true := by simpa using List.count_pos_iff.1 h0
    cases hq : splitB 32 (rst32 s) with
    | nil => exact absurd hq (splitB_ne _ _)
    | cons b t => rw [hq] at h2; exact .inl ⟨b, t, h2, h3⟩
theorem right_ln (lines : Nat) (s : List UInt8) : (lnOf lines s).isSome = rightW lines (fst32 s) (splitB 32 s).tail := by
  unfold lnOf rightW
  cases hf : formT' (fst32 s) with
  | none => rfl
  | some f =>
    show (if f = [114, 116] then _ else _ : Option Ln).isSome = if f = [114, 116] then _ else _
    by_cases h1 : f = [114, 116]
    · rw [if_pos h1, if_pos h1, split32_tail]
      rcases fst32_ok s with ⟨h0, _, h2⟩ | ⟨h0, _⟩
      · rw [if_pos h0, h2]; rfl
      · rw [if_neg (show ¬ s.count 32 = 0 by omega)]
        rcases split_two (rst32 s) with ⟨b, t, h3, h4⟩ | ⟨h3, h4, _⟩
        · rw [h3, h4]
          show (if (true && regB (fst32 (rst32 s))) = true then _ else _ : Option Ln).isSome = regB (fst32 (rst32 s))
          rw [Bool.true_and]
          cases regB (fst32 (rst32 s)) <;> rfl
        · rw [h3, h4]; rfl
    · rw [if_neg h1, if_neg h1, ← words_tail hf h1, Option.isSome_map]
theorem ln_set {lines : Nat} {s : List UInt8} {x : Ln} (h : lnOf lines s = some x) (h0 : fst32 s = kSet) : ∃ c b t, 97 ≤ c ∧ c ≤ 104 ∧ splitB 32 s = kSet :: [c] :: b :: t ∧ x = ⟨kSet, [[c], s.drop 6], []⟩ := by
  have hf : formT' (fst32 s) = some [114, 116] := by rw [h0]; rfl
  unfold lnOf at h
  rw [hf] at h
  replace h : (if (rst32 s).contains 32 && regB (fst32 (rst32 s)) then some (⟨fst32 s, [fst32 (rst32 s), rst32 (rst32 s)], []⟩ : Ln) else none) = some x := h
  split at h
  · rename_i hc
    rw [Bool.and_eq_true] at hc
    obtain ⟨c1, c2⟩ := hc
    obtain ⟨c, e1, e2, e3⟩ := regB_one c2
    have hs : 0 < s.count 32 := by
      rcases fst32_ok s with ⟨h0, _, h2⟩ | ⟨h0, _⟩
      · rw [h2] at c1; cases c1
      · exact h0
    rcases split_two (rst32 s) with ⟨b, t, h3, h4⟩ | ⟨h3, h4, _⟩
    · refine ⟨c, b, t, e2, e3, ?_, ?_⟩
      · rw [split_fst32, if_neg (show ¬ s.count 32 = 0 by omega), h0, h3, e1]
      · cases h
        have hd : s.drop 6 = rst32 (rst32 s) := by
          rcases fst32_ok s with ⟨h0, _, h2⟩ | ⟨_, k1⟩
          · omega
          · rcases fst32_ok (rst32 s) with ⟨k2, _, _⟩ | ⟨_, k2⟩
            · have := List.count_eq_zero.1 k2
              exact absurd (by simpa using c1) this
            · rw [k2, h0, e1] at k1
              conv => lhs; rw [k1]
              rfl
        rw [hd, h0, e1]
    · rw [h4] at c1; cases c1
  · cases h
theorem ln_other {lines : Nat} {s : List UInt8} {x : Ln} (h : lnOf lines s = some x) (h0 : fst32 s ≠ kSet) : ∃ f, formT' (fst32 s) = some f ∧ f ≠ [114, 116] ∧ x.op = fst32 s ∧ splitB 32 s = fst32 s :: x.ws ∧ wordsT lines f x.ws = some x.ns := by
  unfold lnOf at h
  cases hf : formT' (fst32 s) with
  | none => rw [hf] at h; cases h
  | some f =>
    rw [hf] at h
    have hne : f ≠ [114, 116] := by
      rintro rfl
      have := formL_mem hf
      simp only [formL, List.mem_cons, Prod.mk.injEq, List.not_mem_nil, or_false] at this
      rcases this with ⟨k, _⟩ | ⟨_, k⟩ | ⟨_, k⟩ | ⟨_, k⟩ | ⟨_, k⟩ | ⟨_, k⟩ | ⟨_, k⟩ | ⟨_, k⟩ | ⟨_, k⟩ | ⟨_, k⟩ | ⟨_, k⟩ | ⟨_, k⟩ | ⟨_, k⟩
      · exact h0 k
      all_goals exact absurd k (by decide)
    replace h : (if f = [114, 116] then _ else (wordsT lines f (splitB 32 (rst32 s))).map fun ns => (⟨fst32 s, splitB 32 (rst32 s), ns⟩ : Ln)) = some x := h
    rw [if_neg hne] at h
    cases hw : wordsT lines f (splitB 32 (rst32 s)) with
    | none => rw [hw] at h; cases h
    | some ns =>
      rw [hw] at h
      cases h
      refine ⟨f, rfl, hne, rfl, ?_, hw⟩
      rw [split_fst32]
      have h2 := hw
      rcases fst32_ok s with ⟨k0, _, k2⟩ | ⟨k0, _⟩
      · rw [k2, show splitB 32 [] = [[]] from rfl, (words_empty (lines := lines) hf hne).1] at h2; cases h2
      · rw [if_neg (show ¬ s.count 32 = 0 by omega)]
end Go.Proofs.YtgmakmfdjhgjlaaGreatDoor
end
section
set_option linter.unusedVariables false
set_option linter.unusedSimpArgs false
namespace Go.Ab
open Go
section
variable {cx : Cx} {n : Nat} {B : Bs} {k : List AI} {Q : Post} {fr : Fr} {σ : Heap}
theorem wpAny_frontG {σ' : Heap} {hp : Array Bool → Heap} {ops : Array Oper} {m : Nat} {vals : List AV} {K : List Nat} {Q' : Exit → Act → World → Prop} (hmN : m ≤ ops.size) (hlen : vals.length = m)
    (hread : ∀ j o t, j < m → ops.toList[j]? = some o → t ∈ slotsOf ops.toList o → readOk ops.toList m j t = true)
    (huniq : ∀ i j d, i < m → j < m → dstOf ops.toList i = some d → dstOf ops.toList j = some d → i = j)
    (hch : ∀ j, m < j → j < ops.size → edge ops.toList j (j - 1) = true) (hlo : ∀ j i, edge ops.toList j i = true → i < j)
    (hcl : m < ops.size → ∀ i, i < m → ∃ k, i < k ∧ k ≤ m ∧ edge ops.toList k i = true)
    (hin : ∀ listed : Array Bool, (∀ j, j < m → Listed listed j) → hp listed = σ') (hdst : ∀ (j : Nat) (o : Oper), j < m → ops.toList[j]? = some o → dstOk n o.dst = true)
    (hstep : ∀ (j : Nat) o v, j < m → ops.toList[j]? = some o → vals[j]? = some v → ∀ listed : Array Bool, listed.size = ops.size → ¬ Listed listed j → (∀ i, edge ops.toList j i = true → Listed listed i) → Down ops.toList listed → StepX cx n ops (hp listed) (hp (listed.setIfInBounds j true)) K (restr ops.toList o (ovl (ops.toList.take j) (vals.take j) fr)) o v)
    (hend : ∀ r a w, Inv cx r σ' w → FRel r w n (ovl (ops.toList.take m) vals fr) a → Dfs B a → Ext B.r B.σ B.w r σ' w → wpList cx.P ops Q' (ops.toList.drop m) a w) :
    ∀ (f : Nat) (listed : Array Bool) (r : Rl) (a : Act) (w : World), listed.size = ops.size → unl listed = f → Down ops.toList listed → (∀ j, m ≤ j → ¬ Listed listed j) →
      FL r w n fr ops.toList m vals listed a → Inv cx r (hp listed) w → Dfs B a → Ext B.r B.σ B.w r (hp listed) w → wpAny cx.P .any ops Q' f listed a w := by
  have ovlN : ∀ i, i ≤ m → ∀ vs, (ovl (ops.toList.take i) (vals.take i) fr).get n = .mark vs → fr.get n = .mark vs := by
    intro i him vs hm
    rcases ovl_get (ops.toList.take i) (vals.take i) fr n (by simp [hlen]; omega) with ⟨i', o', v', k1, k2, k3, k4⟩ | ⟨k1, k2⟩
    · exfalso
      have hi'i : i' < i := by
        rcases Nat.lt_or_ge i' i with h' | h'
        · exact h'
        · rw [List.getElem?_eq_none (by simp; omega)] at k1; cases k1
      rw [List.getElem?_take_of_lt hi'i] at k1 k3
      have hds : dstOk n o'.dst = true := hdst i' o' (by omega) k1
      rw [k2] at hds
      have := blt_lt hds
      omega
    · rw [← k2]; exact hm
  have fin : ∀ (f : Nat) (listed : Array Bool) (r : Rl) (a : Act) (w : World), listed.size = ops.size → unl listed = f → (∀ j, j < m → Listed listed j) → (∀ j, m ≤ j → ¬ Listed listed j) →
      FL r w n fr ops.toList m vals listed a → Inv cx r (hp listed) w → Dfs B a → Ext B.r B.σ B.w r (hp listed) w → wpAny cx.P .any ops Q' f listed a w := by
    intro f listed r a w hs hf hall hno hfl hi hd hx
    rw [hin _ hall] at hi hx
    have hcount : unl listed + m = ops.size := by
      have hl : listed.toList = List.replicate m true ++ List.replicate (ops.size - m) false := by
        apply List.ext_getElem
        · simp; omega
        · intro j h1 h2
          have hj : j < listed.size := by simpa using h1
          have h3 : listed.getD j false = listed.toList[j] := by simp [Array.getD_eq_getD_getElem?, hj]
          by_cases hjm : j < m
          · rw [List.getElem_append_left (by simpa using hjm), List.getElem_replicate, ← h3]; exact hall j hjm
          · rw [List.getElem_append_right (by simp; omega), List.getElem_replicate, ← h3]
            have := hno j (by omega)
            unfold Listed at this
            simpa using this
      unfold unl
      rw [hl, List.countP_append, List.countP_replicate, List.countP_replicate]
      simp; omega
    refine wpAny_tail hch hlo f m listed a w (by omega) (Nat.le_refl m) hs (fun i hi' => ⟨fun h => ?_, fun h => hall i h⟩) (hend r a w hi ⟨hfl.size, fun t => ?_, fun vs hm => ?_⟩ hd hx)
    case refine_3 =>
      refine hfl.defs vs (ovlN m (Nat.le_refl _) vs ?_)
      rw [show vals.take m = vals from List.take_of_length_le (by omega)]
      exact hm
    · rcases Nat.lt_or_ge i m with h' | h'
      · exact h'
      · exact absurd h (hno i h')
    · rcases ovl_get (ops.toList.take m) vals fr t (by simp [hlen]; omega) with ⟨i, o, v, h1, h2, h3, h4⟩ | ⟨h1, h2⟩
      · rw [h4]
        have him : i < m := by
          rcases Nat.lt_or_ge i m with h' | h'
          · exact h'
          · rw [List.getElem?_eq_none (by simp; omega)] at h1; cases h1
        rw [List.getElem?_take_of_lt him] at h1
        exact hfl.done i t v him (hall i him) (by simp [dstOf, h1, h2]) h3
      · rw [h2]
        refine hfl.rest t (fun j hj _ hdj => ?_)
        obtain ⟨o, ho, hod⟩ := Option.bind_eq_some_iff.1 hdj
        exact h1 j o (by rw [List.getElem?_take_of_lt hj]; exact ho) hod
  intro f
  induction f with
  | zero =>
    intro listed r a w hs hf hdn hno hfl hi hd hx
    refine fin 0 listed r a w hs hf (fun j hj => ?_) hno hfl hi hd hx
    rcases hb : listed.getD j false with _ | _
    · have := unl_set (by omega) hb
      omega
    · exact hb
  | succ f ih =>
    intro listed r a w hs hf hdn hno hfl hi hd hx
    by_cases hall : ∀ j, j < m → Listed listed j
    · exact fin (f + 1) listed r a w hs hf hall hno hfl hi hd hx
    have hex : ∃ j, j < m ∧ ¬ Listed listed j := by
      apply Classical.byContradiction
      intro h
      exact hall (fun j hj => Classical.byContradiction fun hl => h ⟨j, hj, hl⟩)
    refine ⟨fun h0 => ?_, fun i hir => ?_⟩
    · obtain ⟨j, h1, h2, h3⟩ := exists_least m hex
      have hjr : j ∈ Region.ready .any ops listed := by
        refine mem_ready.2 ⟨?_, ops[j]'(by omega), Array.getElem?_eq_getElem _, fun e he hb => ?_⟩
        · rw [listed_true (by omega)]; simpa [Listed] using h2
        · have h4 : e.on < j := hlo j e.on (edge_iff.2 ⟨ops[j]'(by omega), Array.getElem?_eq_getElem _, e, he, hb, rfl⟩)
          exact Classical.byContradiction fun h5 => h3 e.on h4 h5
      rw [h0] at hjr; cases hjr
    · obtain ⟨h0, o, ho, hedges⟩ := mem_ready.1 hir
      have hilt := (Array.getElem?_eq_some_iff.1 ho).1
      rw [listed_true (by omega)] at h0
      have hed : ∀ j, edge ops.toList i j = true → Listed listed j := by
        intro j hj
        obtain ⟨o', ho', e, he, hb, hon⟩ := edge_iff.1 hj
        rw [ho] at ho'; cases ho'
        rw [← hon]; exact hedges e he hb
      have him : i < m := by
        rcases Nat.lt_or_ge i m with h' | h'
        · exact h'
        · exfalso
          rcases Nat.eq_or_lt_of_le h' with h'' | h''
          · subst h''
            refine hall (fun j hj => ?_)
            have key : ∀ d j, d + j = m → j < m → Listed listed j := by
              intro d
              induction d using Nat.strongRecOn with
              | _ d ihd =>
                intro j hdj hj
                obtain ⟨k, h1, h2, h3⟩ := hcl hilt j hj
                rcases Nat.eq_or_lt_of_le h2 with h4 | h4
                · subst h4; exact hed j h3
                · exact hdn k j (ihd (m - k) (by omega) k (by omega) h4) h3
            exact key (m - j) j (by omega) hj
          · exact hno (i - 1) (by omega) (hed _ (hch i h'' hilt))
      have hol : ops.toList[i]? = some o := by simpa using ho
      obtain ⟨v, hv⟩ : ∃ v, vals[i]? = some v := ⟨vals[i]'(by omega), List.getElem?_eq_getElem _⟩
      have hX : StepX cx n ops (hp listed) (hp (listed.setIfInBounds i true)) K (restr ops.toList o (ovl (ops.toList.take i) (vals.take i) fr)) o v :=
        hstep i o v him hol hv listed hs (by simp [Listed, h0]) hed hdn
      obtain ⟨hdstI, hst⟩ := hX
      have hnl : ¬ Listed listed i := by simp [Listed, h0]
      have hfr : FRel r w n (restr ops.toList o (ovl (ops.toList.take i) (vals.take i) fr)) a := by
        refine ⟨hfl.size, fun t => ?_, fun vs hm => ?_⟩
        case refine_2 =>
          unfold restr at hm
          rcases restr_get (slotsOf ops.toList o) (ovl (ops.toList.take i) (vals.take i) fr) n with h | ⟨h1, h2⟩
          · rw [h] at hm; cases hm
          · rw [h2] at hm
            exact hfl.defs vs (ovlN i (by omega) vs hm)
        unfold restr
        rcases restr_get (slotsOf ops.toList o) (ovl (ops.toList.take i) (vals.take i) fr) t with h | ⟨h1, h2⟩
        · rw [h]; exact .top
        · rw [h2]
          have hro := hread i o t him hol h1
          have hrd : ∀ i', i' < m → dstOf ops.toList i' = some t → (i' < i → edge ops.toList i i' = true) ∧ (i < i' → edge ops.toList i' i = true) := by
            intro i' hi' hd'
            have := allB_mem hro _ (List.mem_map.2 ⟨i', List.mem_range.2 hi', rfl⟩)
            rw [eqDst_iff.2 hd'] at this
            simp only at this
            constructor
            · intro hlt
              rw [lt_blt hlt] at this
              exact this
            · intro hlt
              rw [show Nat.blt i' i = false by cases hbb : Nat.blt i' i with | false => rfl | true => (have := blt_lt hbb; omega), show Nat.beq i' i = false by cases hbb : Nat.beq i' i with | false => rfl | true => (have := Nat.eq_of_beq_eq_true hbb; omega)] at this
              exact this
          rcases ovl_get (ops.toList.take i) (vals.take i) fr t (by simp [hlen]; omega) with ⟨i', o', v', k1, k2, k3, k4⟩ | ⟨k1, k2⟩
          · rw [k4]
            have hi'i : i' < i := by
              rcases Nat.lt_or_ge i' i with h' | h'
              · exact h'
              · rw [List.getElem?_eq_none (by simp; omega)] at k1; cases k1
            rw [List.getElem?_take_of_lt hi'i] at k1 k3
            have hd' : dstOf ops.toList i' = some t := by simp only [dstOf, k1, Option.bind_some, k2]
            exact hfl.done i' t v' (by omega) (hed _ ((hrd i' (by omega) hd').1 hi'i)) hd' k3
          · rw [k2]
            refine hfl.rest t (fun j hj hlj hdj => ?_)
            rcases Nat.lt_trichotomy j i with h' | h' | h'
            · obtain ⟨oj, hoj, hod⟩ := Option.bind_eq_some_iff.1 hdj
              exact k1 j oj (by rw [List.getElem?_take_of_lt h']; exact hoj) hod
            · subst h'; exact hnl hlj
            · exact hnl (hdn j i hlj ((hrd j hj hdj).2 h'))
      have next : ∀ (r' : Rl) (w' : World) (v' : Value), VRel r' w' v' v → Inv cx r' (hp (listed.setIfInBounds i true)) w' → Ext r (hp listed) w r' (hp (listed.setIfInBounds i true)) w' → wpAny cx.P .any ops Q' f (listed.setIfInBounds i true) (a.put o.dst v') w' := by
        intro r' w' v' hv' hi' hx'
        have hun := unl_set (by omega) h0
        refine ih _ r' _ w' (by simpa using hs) (by omega) (fun j l hj he => ?_) (fun j hj hl => ?_) ⟨?_, fun j d u hj hl hdj hu => ?_, fun t ht => ?_, fun vs hm => by rw [Act.put_defers]; exact (hfl.defs vs hm).mono (hx'.grow hi)⟩ hi' (hd.put _ _) (hx.trans hx')
        · rw [listed_set (by omega)] at hj ⊢
          rcases hj with rfl | hj
          · exact .inr (hed l he)
          · exact .inr (hdn j l hj he)
        · rw [listed_set (by omega)] at hl
          rcases hl with rfl | hl
          · omega
          · exact hno j hj hl
        · cases hod : o.dst <;> simp [Act.put, hfl.size]
        · have hg := hx'.grow hi
          rw [listed_set (by omega)] at hl
          by_cases hji : j = i
          · subst hji
            rw [hv] at hu; cases hu
            have hod : o.dst = some d := by simpa [dstOf, hol] using hdj
            rw [hod]
            rw [hod] at hdstI
            simp only [Act.put]
            rw [getD_setIfInBounds (by rw [hfl.size]; exact blt_lt hdstI), if_pos rfl]
            exact hv'
          · have hl' := hl.resolve_left hji
            have hold := (hfl.done j d u hj hl' hdj hu).mono hg
            cases hod : o.dst with
            | none => exact hold
            | some d' =>
              have hne : d' ≠ d := fun e => hji (huniq j i d hj him hdj (by subst e; simp [dstOf, hol, hod]))
              rw [hod] at hdstI
              simp only [Act.put]
              rw [getD_setIfInBounds (by rw [hfl.size]; exact blt_lt hdstI), if_neg hne]
              exact hold
        · have hg := hx'.grow hi
          have hold := (hfl.rest t (fun j hj hl => ht j hj ((listed_set (by omega)).2 (.inr hl)))).mono hg
          have hti := ht i him ((listed_set (by omega)).2 (.inl rfl))
          cases hod : o.dst with
          | none => exact hold
          | some d' =>
            have hne : d' ≠ t := fun e => hti (by subst e; simp [dstOf, hol, hod])
            rw [hod] at hdstI
            simp only [Act.put]
            rw [getD_setIfInBounds (by rw [hfl.size]; exact blt_lt hdstI), if_neg hne]
            exact hold
      unfold wpOp
      simp only [ho]
      rcases hst with ⟨hg, rfl, hσ⟩ | ⟨hg, hgo⟩
      · rw [guardA_wanted (cx := cx) hfr hg]
        simp only [Bool.false_eq_true, if_false]
        exact next r w undef (.tup rfl (fun i h => absurd h (by simp))) (by rw [hσ]; exact hi) (by rw [hσ]; exact Ext.refl _ _ _)
      · rw [guardA_wanted (cx := cx) hfr hg]
        simp only [if_true]
        refine .inl (Oper.wp_mono (fun a' w' h => ?_) (hgo r a w hi hfr Q'))
        obtain ⟨r', v', rfl, h2, h3, h4⟩ := h
        exact next r' w' v' h2 h3 h4
def hp2 (σ σ1 σ2 : Heap) (j1 j2 : Nat) (listed : Array Bool) : Heap := bif listed.getD j2 false then σ2 else bif listed.getD j1 false then σ1 else σ
def runC2 (cx : Cx) (K : List Nat) (n : Nat) (all : Array Oper) (ops : List Oper) (σ σ1 σ2 : Heap) (j1 j2 : Nat) : List Oper → Nat → Fr → List AV → Option (List Prop × List AV × Fr)
  | [], _, fr, rs => some ([], [], fr)
  | o :: r, i, fr, rs => match Nat.beq i j1 with
    | true => match rs with
      | v :: rs => match dstOk n o.dst with
        | true => match guardA all o K (restr ops o fr) with
          | some true => match runC2 cx K n all ops σ σ1 σ2 j1 j2 r (i + 1) (setA o.dst v fr) rs with
            | some (D, vs, fr') => some ((OpSpec cx n (restr ops o fr) σ o v σ1) :: D, v :: vs, fr')
            | none => none
          | _ => none
        | false => none
      | [] => none
    | false => match Nat.beq i j2 with
      | true => match rs with
        | v :: rs => match dstOk n o.dst with
          | true => match guardA all o K (restr ops o fr) with
            | some true => match runC2 cx K n all ops σ σ1 σ2 j1 j2 r (i + 1) (setA o.dst v fr) rs with
              | some (D, vs, fr') => some ((OpSpec cx n (restr ops o fr) σ1 o v σ2) :: D, v :: vs, fr')
              | none => none
            | _ => none
          | false => none
        | [] => none
      | false => match oneD cx K n all σ o (restr ops o fr) rs with
        | some (C, v, rs') => match oneD cx K n all σ1 o (restr ops o fr) rs with
          | some (C1, v1, _) => match oneD cx K n all σ2 o (restr ops o fr) rs with
            | some (C2, v2, _) => forceV v fun v => match runC2 cx K n all ops σ σ1 σ2 j1 j2 r (i + 1) (setA o.dst v fr) rs' with
              | some (D, vs, fr') => some (C ++ (C1 ++ (C2 ++ ((v1 = v) :: (v2 = v) :: D))), v :: vs, fr')
              | none => none
            | none => none
          | none => none
        | none => none
theorem runC2_spec {σ1 σ2 : Heap} {j1 j2 : Nat} {K : List Nat} {all : Array Oper} {ops : List Oper} : ∀ {l : List Oper} {i : Nat} {fr fr' : Fr} {rs vals : List AV} {C : List Prop}, runC2 cx K n all ops σ σ1 σ2 j1 j2 l i fr rs = some (C, vals, fr') → AllP C →
    vals.length = l.length ∧ fr' = ovl l vals fr ∧ ∀ (j : Nat) (o : Oper) (v : AV), l[j]? = some o → vals[j]? = some v →
      (i + j ≠ j1 → i + j ≠ j2 → ∀ s : Heap, s = σ ∨ s = σ1 ∨ s = σ2 → StepX cx n all s s K (restr ops o (ovl (l.take j) (vals.take j) fr)) o v) ∧ (i + j = j1 → StepX cx n all σ σ1 K (restr ops o (ovl (l.take j) (vals.take j) fr)) o v) ∧ (i + j = j2 → i + j ≠ j1 → StepX cx n all σ1 σ2 K (restr ops o (ovl (l.take j) (vals.take j) fr)) o v)
  | [], i, fr, fr', rs, vals, C, h, hC => by
    simp only [runC2, Option.some.injEq, Prod.mk.injEq] at h
    obtain ⟨rfl, rfl, rfl⟩ := h
    exact ⟨rfl, rfl, fun j o v h => by simp at h⟩
  | o :: l, i, fr, fr', rs, vals, C, h, hC => by
    simp only [runC2] at h
    split at h
    · rename_i hb
      have hij : i = j1 := Nat.eq_of_beq_eq_true hb
      split at h
      case h_2 => cases h
      rename_i v rs'
      split at h
      case h_2 => cases h
      rename_i hds
      split at h
      case h_2 => cases h
      rename_i hg
      split at h
      case h_2 => cases h
      rename_i D vs fr1 h2
      simp only [Option.some.injEq, Prod.mk.injEq] at h
      obtain ⟨rfl, rfl, rfl⟩ := h
      obtain ⟨hsp, hD⟩ := hC
      obtain ⟨k1, k2, k3⟩ := runC2_spec h2 hD
      refine ⟨by simp [k1], by rw [k2]; rfl, fun j oj vj hj hvj => ?_⟩
      cases j with
      | zero =>
        simp only [List.getElem?_cons_zero, Option.some.injEq] at hj hvj
        subst hj; subst hvj
        exact ⟨fun h => absurd hij h, fun _ => specC_step hds hg hsp, fun _ h => absurd hij h⟩
      | succ j =>
        simp only [List.getElem?_cons_succ] at hj hvj
        have := k3 j oj vj hj hvj
        rw [show i + 1 + j = i + (j + 1) by omega] at this
        exact this
    · rename_i hb
      have hij : i ≠ j1 := fun e => by rw [e, Nat.beq_refl] at hb; cases hb
      split at h
      · rename_i hb2
        have hij2 : i = j2 := Nat.eq_of_beq_eq_true hb2
        split at h
        case h_2 => cases h
        rename_i v rs'
        split at h
        case h_2 => cases h
        rename_i hds
        split at h
        case h_2 => cases h
        rename_i hg
        split at h
        case h_2 => cases h
        rename_i D vs fr1 h2
        simp only [Option.some.injEq, Prod.mk.injEq] at h
        obtain ⟨rfl, rfl, rfl⟩ := h
        obtain ⟨hsp, hD⟩ := hC
        obtain ⟨k1, k2, k3⟩ := runC2_spec h2 hD
        refine ⟨by simp [k1], by rw [k2]; rfl, fun j oj vj hj hvj => ?_⟩
        cases j with
        | zero =>
          simp only [List.getElem?_cons_zero, Option.some.injEq] at hj hvj
          subst hj; subst hvj
          exact ⟨fun _ h => absurd hij2 h, fun h => absurd h hij, fun _ _ => specC_step hds hg hsp⟩
        | succ j =>
          simp only [List.getElem?_cons_succ] at hj hvj
          have := k3 j oj vj hj hvj
          rw [show i + 1 + j = i + (j + 1) by omega] at this
          exact this
      · rename_i hb2
        have hij2 : i ≠ j2 := fun e => by rw [e, Nat.beq_refl] at hb2; cases hb2
        split at h
        case h_2 => cases h
        rename_i C1 v rs' h1
        split at h
        case h_2 => cases h
        rename_i C1' v' _ h1'
        split at h
        case h_2 => cases h
        rename_i C1'' v'' _ h1''
        rw [forceV_eq] at h
        split at h
        case h_2 => cases h
        rename_i D vs fr1 h2
        simp only [Option.some.injEq, Prod.mk.injEq] at h
        obtain ⟨rfl, rfl, rfl⟩ := h
        obtain ⟨hC1, hD1⟩ := AllP_append hC
        obtain ⟨hC1', hD2⟩ := AllP_append hD1
        obtain ⟨hC1'', hD3⟩ := AllP_append hD2
        obtain ⟨hv, hv', hD⟩ := hD3
        subst hv
        subst hv'
        obtain ⟨k1, k2, k3⟩ := runC2_spec h2 hD
        refine ⟨by simp [k1], by rw [k2]; rfl, fun j oj vj hj hvj => ?_⟩
        cases j with
        | zero =>
          simp only [List.getElem?_cons_zero, Option.some.injEq] at hj hvj
          subst hj; subst hvj
          refine ⟨fun _ _ s hs => ?_, fun h => absurd h hij, fun h _ => absurd h hij2⟩
          rcases hs with rfl | rfl | rfl
          · exact (oneD_spec h1 hC1).x
          · exact (oneD_spec h1' hC1').x
          · exact (oneD_spec h1'' hC1'').x
        | succ j =>
          simp only [List.getElem?_cons_succ] at hj hvj
          have := k3 j oj vj hj hvj
          rw [show i + 1 + j = i + (j + 1) by omega] at this
          exact this
theorem S_drawC2 {id : Nat} (σ1 σ2 : Heap) (j1 j2 : Nat) {ops : Array Oper} {vals : List AV} {C : List Prop} {fr' : Fr} (m : Nat) (K : List Nat) (rs : List AV) (hP : cx.P.follows .mixedOrders = true) (hchk : drawOk ops.toList m = true) (hmN : Nat.ble m ops.size = true) (hj : Nat.blt j1 j2 = true) (hj2 : Nat.blt j2 m = true) (hedge : edge ops.toList j2 j1 = true)
    (hrun : normC (runC2 cx K n ops ops.toList σ σ1 σ2 j1 j2 (ops.toList.take m) 0 fr rs) = some (C, vals, fr')) (hC : AllP C)
    (hk : S cx n B (.ops ops (ops.toList.drop m) [] :: k) Q fr' σ2) : S cx n B (.code (.region id ops true) :: k) Q fr σ := by
  intro r a w hi hf hd hx
  rw [normC_eq] at hrun
  obtain ⟨c1, c2, c3, c4, c5⟩ := drawOk_spec hchk
  obtain ⟨k1, k2, k3⟩ := runC2_spec hrun hC
  have hmN' := Nat.le_of_ble_eq_true hmN
  have hjlt := blt_lt hj
  have hjlt2 := blt_lt hj2
  have hlen : vals.length = m := by rw [k1]; simp; omega
  obtain ⟨hi1, hx1⟩ := hi.heap_eq (w' := { w with drawn := w.drawn + 1 }) rfl rfl rfl rfl
  have hf1 := hf.mono (hx1.grow hi)
  have nl : ∀ {j : Nat}, ¬ Listed (Array.replicate ops.size false) j := by
    intro j hj
    unfold Listed at hj
    rw [Array.getD_eq_getD_getElem?, Array.getElem?_replicate] at hj
    split at hj <;> simp at hj
  have nlF : ∀ {j : Nat}, (Array.replicate ops.size false).getD j false = false := by
    intro j
    cases hb : (Array.replicate ops.size false).getD j false with
    | false => rfl
    | true => exact absurd hb nl
  have h0 : hp2 σ σ1 σ2 j1 j2 (Array.replicate ops.size false) = σ := by unfold hp2; rw [nlF, nlF]; rfl
  have hgs : ∀ (listed : Array Bool) (i j : Nat), i < listed.size → (listed.setIfInBounds i true).getD j false = if j = i then true else listed.getD j false := by
    intro listed i j hil
    simp only [Array.getD_eq_getD_getElem?, Array.getElem?_setIfInBounds]
    by_cases h : i = j
    · subst h; simp [hil]
    · rw [if_neg h, if_neg (Ne.symm h)]
  have hstep : ∀ (j : Nat) o v, j < m → ops.toList[j]? = some o → vals[j]? = some v → ∀ listed : Array Bool, listed.size = ops.size → ¬ Listed listed j → (∀ i, edge ops.toList j i = true → Listed listed i) → Down ops.toList listed → StepX cx n ops (hp2 σ σ1 σ2 j1 j2 listed) (hp2 σ σ1 σ2 j1 j2 (listed.setIfInBounds j true)) K (restr ops.toList o (ovl (ops.toList.take j) (vals.take j) fr)) o v := by
    intro j o v hjm ho hv listed hs hnl hed hdn
    have h := k3 j o v (by rw [List.getElem?_take_of_lt hjm]; exact ho) hv
    rw [List.take_take, Nat.min_eq_left (by omega), Nat.zero_add] at h
    have hnlF : listed.getD j false = false := by
      cases hb : listed.getD j false with
      | false => rfl
      | true => exact absurd hb hnl
    by_cases e1 : j = j1
    · subst e1
      have hn2 : listed.getD j2 false = false := by
        cases hb : listed.getD j2 false with
        | false => rfl
        | true => exact absurd (hdn j2 j hb hedge) hnl
      have a1 : hp2 σ σ1 σ2 j j2 listed = σ := by unfold hp2; rw [hn2, hnlF]; rfl
      have a2 : hp2 σ σ1 σ2 j j2 (listed.setIfInBounds j true) = σ1 := by
        unfold hp2
        rw [hgs _ _ _ (by omega), hgs _ _ _ (by omega), if_neg (by omega), hn2, if_pos rfl]; rfl
      rw [a1, a2]
      exact h.2.1 rfl
    · by_cases e2 : j = j2
      · subst e2
        have hl1 : listed.getD j1 false = true := hed j1 hedge
        have a1 : hp2 σ σ1 σ2 j1 j listed = σ1 := by unfold hp2; rw [hnlF, hl1]; rfl
        have a2 : hp2 σ σ1 σ2 j1 j (listed.setIfInBounds j true) = σ2 := by
          unfold hp2
          rw [hgs _ _ _ (by omega), if_pos rfl]; rfl
        rw [a1, a2]
        exact h.2.2 rfl e1
      · have a1 : hp2 σ σ1 σ2 j1 j2 (listed.setIfInBounds j true) = hp2 σ σ1 σ2 j1 j2 listed := by
          unfold hp2
          rw [hgs _ _ _ (by omega), hgs _ _ _ (by omega), if_neg (Ne.symm e2), if_neg (Ne.symm e1)]
        rw [a1]
        refine h.1 e1 e2 _ ?_
        unfold hp2
        cases listed.getD j2 false <;> cases listed.getD j1 false
        · exact .inl rfl
        · exact .inr (.inl rfl)
        · exact .inr (.inr rfl)
        · exact .inr (.inr rfl)
  refine wp_region_any hP ?_
  refine wpAny_frontG (σ' := σ2) (hp := hp2 σ σ1 σ2 j1 j2) (cx := cx) (n := n) (B := B) (fr := fr) (m := m) (vals := vals) (K := K) hmN' hlen c1 c2 c3 c4 c5 (fun listed hall => ?_) (fun j o hjm ho => ?_) hstep (fun r a w hi hf hd hx => ?_) ops.size _ r a _ (by simp) ?_ (fun j i hj => ?_) (fun j _ => ?_) ⟨hf1.size, fun j d v _ hj => ?_, fun t _ => hf1.get t, hf1.defs⟩ (by rw [h0]; exact hi1) hd (by rw [h0]; exact hx.trans hx1)
  · have : listed.getD j2 false = true := hall j2 hjlt2
    unfold hp2; rw [this]; rfl
  · obtain ⟨v, hv⟩ : ∃ v, vals[j]? = some v := ⟨vals[j]'(by omega), List.getElem?_eq_getElem _⟩
    have h := k3 j o v (by rw [List.getElem?_take_of_lt hjm]; exact ho) hv
    rw [Nat.zero_add] at h
    by_cases e1 : j = j1
    · exact (h.2.1 e1).1
    · by_cases e2 : j = j2
      · exact (h.2.2 e2 e1).1
      · exact (h.1 e1 e2 σ (.inl rfl)).1
  · rw [k2] at hk
    exact hk r a w hi hf hd hx
  · unfold unl; simp [List.countP_replicate]
  · exact absurd hj nl
  · exact nl
  · exact absurd hj nl
theorem OpSpec.aop {σ' : Heap} {o : Oper} {C : List Prop} {v : AV} (h : aOp cx [] o.dst o.op fr σ = some (C, v, σ')) (hC : AllP C) : OpSpec cx n fr σ o v σ' := fun r a w hi hf => aOp_run hi hf h hC
end
end Go.Ab
end
section
set_option linter.unusedVariables false
set_option linter.unusedSimpArgs false
namespace Go.Ab
open Go
section
variable {cx : Cx} {n : Nat} {B : Bs} {k : List AI} {Q : Post} {fr : Fr} {σ : Heap}
def hp1 (σ σ1 : Heap) (j1 : Nat) (listed : Array Bool) : Heap := bif listed.getD j1 false then σ1 else σ
def chgW (cx : Cx) (n : Nat) (σ σ1 : Heap) (o : Oper) (fr : Fr) (v : AV) : Prop := match callA cx fr o.op with
  | some (f, args) => CallOk cx f args σ (fun out s => out = .ret v ∧ s = σ1)
  | none => OpSpec cx n fr σ o v σ1
def runW (cx : Cx) (K : List Nat) (n : Nat) (all : Array Oper) (ops : List Oper) (σ σ1 : Heap) (j1 : Nat) : List Oper → Nat → Fr → List AV → Option (List Prop × List AV × Fr)
  | [], _, fr, rs => some ([], [], fr)
  | o :: r, i, fr, rs => match Nat.beq i j1 with
    | true => match rs with
      | v :: rs => match dstOk n o.dst with
        | true => match guardA all o K (restr ops o fr) with
          | some true => match runW cx K n all ops σ σ1 j1 r (i + 1) (setA o.dst v fr) rs with
            | some (D, vs, fr') => some (chgW cx n σ σ1 o (restr ops o fr) v :: D, v :: vs, fr')
            | none => none
          | _ => none
        | false => none
      | [] => none
    | false => match edge ops i j1 with
      | true => match oneD cx K n all σ1 o (restr ops o fr) rs with
        | some (C, v, rs') => forceV v fun v => match runW cx K n all ops σ σ1 j1 r (i + 1) (setA o.dst v fr) rs' with
          | some (D, vs, fr') => some (C ++ D, v :: vs, fr')
          | none => none
        | none => none
      | false => match edge ops j1 i with
        | true => match oneD cx K n all σ o (restr ops o fr) rs with
          | some (C, v, rs') => forceV v fun v => match runW cx K n all ops σ σ1 j1 r (i + 1) (setA o.dst v fr) rs' with
            | some (D, vs, fr') => some (C ++ D, v :: vs, fr')
            | none => none
          | none => none
        | false => match oneD cx K n all σ o (restr ops o fr) rs with
          | some (C, v, rs') => match oneD cx K n all σ1 o (restr ops o fr) rs with
            | some (C1, v1, _) => forceV v fun v => match runW cx K n all ops σ σ1 j1 r (i + 1) (setA o.dst v fr) rs' with
              | some (D, vs, fr') => some (C ++ (C1 ++ ((v1 = v) :: D)), v :: vs, fr')
              | none => none
            | none => none
          | none => none
theorem chgW_step {σ1 : Heap} {K : List Nat} {all : Array Oper} {o : Oper} {v : AV} (hd : dstOk n o.dst = true) (hg : guardA all o K fr = some true) (h : chgW cx n σ σ1 o fr v) : StepX cx n all σ σ1 K fr o v := by
  unfold chgW at h
  split at h
  · rename_i f args hc
    exact callC_step hd hg hc h
  · exact specC_step hd hg h
theorem runW_spec {σ1 : Heap} {j1 : Nat} {K : List Nat} {all : Array Oper} {ops : List Oper} : ∀ {l : List Oper} {i : Nat} {fr fr' : Fr} {rs vals : List AV} {C : List Prop}, runW cx K n all ops σ σ1 j1 l i fr rs = some (C, vals, fr') → AllP C →
    vals.length = l.length ∧ fr' = ovl l vals fr ∧ ∀ (j : Nat) (o : Oper) (v : AV), l[j]? = some o → vals[j]? = some v →
      (i + j ≠ j1 → ∀ b : Bool, (edge ops (i + j) j1 = true → b = true) → (edge ops j1 (i + j) = true → b = false) → StepX cx n all (bif b then σ1 else σ) (bif b then σ1 else σ) K (restr ops o (ovl (l.take j) (vals.take j) fr)) o v) ∧
      (i + j = j1 → StepX cx n all σ σ1 K (restr ops o (ovl (l.take j) (vals.take j) fr)) o v)
  | [], i, fr, fr', rs, vals, C, h, hC => by
    simp only [runW, Option.some.injEq, Prod.mk.injEq] at h
    obtain ⟨rfl, rfl, rfl⟩ := h
    exact ⟨rfl, rfl, fun j o v h => by simp at h⟩
  | o :: l, i, fr, fr', rs, vals, C, h, hC => by
    have next : ∀ {v : AV} {vs : List AV} {fr1 : Fr} {D : List Prop} {rs' : List AV}, runW cx K n all ops σ σ1 j1 l (i + 1) (setA o.dst v fr) rs' = some (D, vs, fr1) → AllP D →
        ((i ≠ j1 → ∀ b : Bool, (edge ops i j1 = true → b = true) → (edge ops j1 i = true → b = false) → StepX cx n all (bif b then σ1 else σ) (bif b then σ1 else σ) K (restr ops o fr) o v) ∧ (i = j1 → StepX cx n all σ σ1 K (restr ops o fr) o v)) →
        (v :: vs).length = (o :: l).length ∧ fr1 = ovl (o :: l) (v :: vs) fr ∧ ∀ (j : Nat) (o' : Oper) (v' : AV), (o :: l)[j]? = some o' → (v :: vs)[j]? = some v' →
          (i + j ≠ j1 → ∀ b : Bool, (edge ops (i + j) j1 = true → b = true) → (edge ops j1 (i + j) = true → b = false) → StepX cx n all (bif b then σ1 else σ) (bif b then σ1 else σ) K (restr ops o' (ovl ((o :: l).take j) ((v :: vs).take j) fr)) o' v') ∧
          (i + j = j1 → StepX cx n all σ σ1 K (restr ops o' (ovl ((o :: l).take j) ((v :: vs).take j) fr)) o' v') := by
      intro v vs fr1 D rs' h2 hD h0
      obtain ⟨k1, k2, k3⟩ := runW_spec h2 hD
      refine ⟨by simp [k1], by rw [k2]; rfl, fun j oj vj hj hvj => ?_⟩
      cases j with
      | zero =>
        simp only [List.getElem?_cons_zero, Option.some.injEq] at hj hvj
        subst hj; subst hvj
        exact h0
      | succ j =>
        simp only [List.getElem?_cons_succ] at hj hvj
        have := k3 j oj vj hj hvj
        rw [show i + 1 + j = i + (j + 1) by omega] at this
        exact this
    simp only [runW] at h
    split at h
    · rename_i hb
      have hij : i = j1 := Nat.eq_of_beq_eq_true hb
      split at h
      case h_2 => cases h
      split at h
      case h_2 => cases h
      rename_i hds
      split at h
      case h_2 => cases h
      rename_i hg
      split at h
      case h_2 => cases h
      rename_i h2
      simp only [Option.some.injEq, Prod.mk.injEq] at h
      obtain ⟨rfl, rfl, rfl⟩ := h
      exact next h2 hC.2 ⟨fun h => absurd hij h, fun _ => chgW_step hds hg hC.1⟩
    · rename_i hb
      have hij : i ≠ j1 := fun e => by rw [e, Nat.beq_refl] at hb; cases hb
      split at h
      · rename_i he
        split at h
        case h_2 => cases h
        rename_i C1 v rs' h1
        rw [forceV_eq] at h
        split at h
        case h_2 => cases h
        rename_i h2
        simp only [Option.some.injEq, Prod.mk.injEq] at h
        obtain ⟨rfl, rfl, rfl⟩ := h
        obtain ⟨hC1, hD⟩ := AllP_append hC
        refine next h2 hD ⟨fun _ b hb1 _ => ?_, fun h => absurd h hij⟩
        rw [hb1 he]
        exact (oneD_spec h1 hC1).x
      · split at h
        · rename_i he
          split at h
          case h_2 => cases h
          rename_i C1 v rs' h1
          rw [forceV_eq] at h
          split at h
          case h_2 => cases h
          rename_i h2
          simp only [Option.some.injEq, Prod.mk.injEq] at h
          obtain ⟨rfl, rfl, rfl⟩ := h
          obtain ⟨hC1, hD⟩ := AllP_append hC
          refine next h2 hD ⟨fun _ b _ hb2 => ?_, fun h => absurd h hij⟩
          rw [hb2 he]
          exact (oneD_spec h1 hC1).x
        · split at h
          case h_2 => cases h
          rename_i C1 v rs' h1
          split at h
          case h_2 => cases h
          rename_i C1' v' _ h1'
          rw [forceV_eq] at h
          split at h
          case h_2 => cases h
          rename_i h2
          simp only [Option.some.injEq, Prod.mk.injEq] at h
          obtain ⟨rfl, rfl, rfl⟩ := h
          obtain ⟨hC1, hD1⟩ := AllP_append hC
          obtain ⟨hC1', hv, hD⟩ := AllP_append hD1
          subst hv
          refine next h2 hD ⟨fun _ b _ _ => ?_, fun h => absurd h hij⟩
          cases b with
          | true => exact (oneD_spec h1' hC1').x
          | false => exact (oneD_spec h1 hC1).x
theorem S_drawW {id : Nat} (σ1 : Heap) (j1 : Nat) {ops : Array Oper} {vals : List AV} {C : List Prop} {fr' : Fr} (m : Nat) (K : List Nat) (rs : List AV) (hP : cx.P.follows .mixedOrders = true) (hchk : drawOk ops.toList m = true) (hmN : Nat.ble m ops.size = true) (hj : Nat.blt j1 m = true)
    (hrun : normC (runW cx K n ops ops.toList σ σ1 j1 (ops.toList.take m) 0 fr rs) = some (C, vals, fr')) (hC : AllP C)
    (hk : S cx n B (.ops ops (ops.toList.drop m) [] :: k) Q fr' σ1) : S cx n B (.code (.region id ops true) :: k) Q fr σ := by
  intro r a w hi hf hd hx
  rw [normC_eq] at hrun
  obtain ⟨c1, c2, c3, c4, c5⟩ := drawOk_spec hchk
  obtain ⟨k1, k2, k3⟩ := runW_spec hrun hC
  have hmN' := Nat.le_of_ble_eq_true hmN
  have hjlt := blt_lt hj
  have hlen : vals.length = m := by rw [k1]; simp; omega
  obtain ⟨hi1, hx1⟩ := hi.heap_eq (w' := { w with drawn := w.drawn + 1 }) rfl rfl rfl rfl
  have hf1 := hf.mono (hx1.grow hi)
  have nl : ∀ {j : Nat}, ¬ Listed (Array.replicate ops.size false) j := by
    intro j hj
    unfold Listed at hj
    rw [Array.getD_eq_getD_getElem?, Array.getElem?_replicate] at hj
    split at hj <;> simp at hj
  have nlF : ∀ {j : Nat}, (Array.replicate ops.size false).getD j false = false := by
    intro j
    cases hb : (Array.replicate ops.size false).getD j false with
    | false => rfl
    | true => exact absurd hb nl
  have h0 : hp1 σ σ1 j1 (Array.replicate ops.size false) = σ := by unfold hp1; rw [nlF]; rfl
  have hgs : ∀ (listed : Array Bool) (i j : Nat), i < listed.size → (listed.setIfInBounds i true).getD j false = if j = i then true else listed.getD j false := by
    intro listed i j hil
    simp only [Array.getD_eq_getD_getElem?, Array.getElem?_setIfInBounds]
    by_cases h : i = j
    · subst h; simp [hil]
    · rw [if_neg h, if_neg (Ne.symm h)]
  have hstep : ∀ (j : Nat) o v, j < m → ops.toList[j]? = some o → vals[j]? = some v → ∀ listed : Array Bool, listed.size = ops.size → ¬ Listed listed j → (∀ i, edge ops.toList j i = true → Listed listed i) → Down ops.toList listed →
      StepX cx n ops (hp1 σ σ1 j1 listed) (hp1 σ σ1 j1 (listed.setIfInBounds j true)) K (restr ops.toList o (ovl (ops.toList.take j) (vals.take j) fr)) o v := by
    intro j o v hjm ho hv listed hs hnl hed hdn
    have h := k3 j o v (by rw [List.getElem?_take_of_lt hjm]; exact ho) hv
    rw [List.take_take, Nat.min_eq_left (by omega), Nat.zero_add] at h
    have hnlF : listed.getD j false = false := by
      cases hb : listed.getD j false with
      | false => rfl
      | true => exact absurd hb hnl
    by_cases e1 : j = j1
    · subst e1
      have a1 : hp1 σ σ1 j listed = σ := by unfold hp1; rw [hnlF]; rfl
      have a2 : hp1 σ σ1 j (listed.setIfInBounds j true) = σ1 := by
        unfold hp1
        rw [hgs _ _ _ (by omega), if_pos rfl]; rfl
      rw [a1, a2]
      exact h.2 rfl
    · have a1 : hp1 σ σ1 j1 (listed.setIfInBounds j true) = hp1 σ σ1 j1 listed := by
        unfold hp1
        rw [hgs _ _ _ (by omega), if_neg (Ne.symm e1)]
      rw [a1]
      unfold hp1
      refine h.1 e1 _ (fun he => hed j1 he) (fun he => ?_)
      cases hb : listed.getD j1 false with
      | false => rfl
      | true => exact absurd (hdn j1 j hb he) hnl
  refine wp_region_any hP ?_
  refine wpAny_frontG (σ' := σ1) (hp := hp1 σ σ1 j1) (cx := cx) (n := n) (B := B) (fr := fr) (m := m) (vals := vals) (K := K) hmN' hlen c1 c2 c3 c4 c5 (fun listed hall => ?_) (fun j o hjm ho => ?_) hstep (fun r a w hi hf hd hx => ?_) ops.size _ r a _ (by simp) ?_ (fun j i hj => ?_) (fun j _ => ?_) ⟨hf1.size, fun j d v _ hj => ?_, fun t _ => hf1.get t, hf1.defs⟩ (by rw [h0]; exact hi1) hd (by rw [h0]; exact hx.trans hx1)
  · have : listed.getD j1 false = true := hall j1 hjlt
    unfold hp1; rw [this]; rfl
  · obtain ⟨v, hv⟩ : ∃ v, vals[j]? = some v := ⟨vals[j]'(by omega), List.getElem?_eq_getElem _⟩
    have h := k3 j o v (by rw [List.getElem?_take_of_lt hjm]; exact ho) hv
    rw [Nat.zero_add] at h
    by_cases e1 : j = j1
    · exact (h.2 e1).1
    · cases he : edge ops.toList j j1 with
      | true => exact (h.1 e1 true (fun _ => rfl) (fun e => by have := c4 _ _ he; have := c4 _ _ e; omega)).1
      | false => exact (h.1 e1 false (fun e => by rw [he] at e; cases e) (fun _ => rfl)).1
  · rw [k2] at hk
    exact hk r a w hi hf hd hx
  · unfold unl; simp [List.countP_replicate]
  · exact absurd hj nl
  · exact nl
  · exact absurd hj nl
end
end Go.Ab
end
