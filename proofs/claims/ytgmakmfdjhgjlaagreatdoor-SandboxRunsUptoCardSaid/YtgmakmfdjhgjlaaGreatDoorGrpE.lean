/-
  Texts of our own, in one file.
-/
import Derived.Test.YtgmakmfdjhgjlaaGreatDoorGrpD
import Derived.RangeFuncLeaves
import Derived.RangeFuncGives
import Derived.OwnWalkIn
import Derived.Below
section
set_option linter.unusedVariables false
set_option linter.unusedSimpArgs false
set_option maxRecDepth 20000
set_option maxHeartbeats 4000000
namespace Go.Proofs.YtgmakmfdjhgjlaaGreatDoor
open Go Go.Ab
def mcC (a b c e : Nat) (n : Nat) (m : Mc) : List AV := [.map 0 a, .ms 4 e 0 n 1 false, .map 1 b, .map 2 c, .int .i64 (m.pc : Nat), .int .i64 (m.left : Nat), .int .i64 (m.code : Nat), .bool m.done]
def regX (m : Mc) : Option Box := mapBx m.ks fun k => .str (m.regs k)
def mcH (a b c d e : Nat) (fs : List Fil) (m : Mc) (τ : Heap) : Heap :=
  (a, mapBx (fs.map Fil.path) (vaP fs)) :: (b, mapBx (ksP m.made) (vaP m.made)) :: (c, regX m) :: (d, some (.cells (mcC a b c e fs.length m) ⟨false, some 54⟩)) :: (e, some (.cells (texts (fs.map Fil.path)) ⟨false, none⟩)) :: τ
theorem mapX_rn (ids : List Nat) (ks : List (List UInt8)) (f : List UInt8 → AV) (hf : ∀ k, Free false (f k)) (v : Nat) : RnE ids (v, mapBx ks f) (v, mapBx ks f) :=
  .live (.map rfl fun i h1 h2 => by simp only [mapF, List.getElem_map]; exact ⟨.free .str, .free (hf _)⟩)
theorem vaP_free {st : Bool} (l : List Fil) (k : List UInt8) : Free st (vaP l k) := filA_free _
theorem mcH_rn (a b c d e : Nat) (fs : List Fil) (m : Mc) : RnH (List.range 5) (mcH a b c d e fs m []) (mcH a b c d e fs m []) :=
  .cons (mapX_rn _ _ _ (vaP_free _) _) (.cons (mapX_rn _ _ _ (vaP_free _) _) (.cons (mapX_rn _ _ _ (fun _ => .str) _)
    (.cons (.live (.cells (.cons (.map rfl) (.cons (.ms rfl) (.cons (.map rfl) (.cons (.map rfl) (.free (by intro x hx; simp at hx; rcases hx with rfl | rfl | rfl | rfl; exact .int; exact .int; exact .int; exact .bool))))))))
      (.cons (.live (.cells (.free (texts_any _)))) (.nil _)))))
theorem mapX_low {k : Nat} {ks : List (List UInt8)} {f : List UInt8 → AV} (hf : ∀ k, Free false (f k)) {x : Box} (h : mapBx ks f = some x) : LowBox k x := by
  cases h
  refine .map fun p hp => ?_
  unfold mapF at hp
  obtain ⟨t, _, rfl⟩ := List.mem_map.1 hp
  exact ⟨.str, Low.free (hf t)⟩
theorem mcH_low (a b c d e : Nat) (fs : List Fil) (m : Mc) (τ : Heap) : LowH 5 (mcH a b c d e fs m τ) := by
  intro id ver x hid hx
  match id, hid with
  | 0, _ => exact mapX_low (vaP_free _) (by cases hx; rfl)
  | 1, _ => exact mapX_low (vaP_free _) (by cases hx; rfl)
  | 2, _ => exact mapX_low (ks := m.ks) (f := fun k => .str (m.regs k)) (fun _ => .str) (by cases hx; rfl)
  | 3, _ =>
    cases hx
    refine .cells fun y hy => ?_
    simp only [mcC, List.mem_cons, List.not_mem_nil, or_false] at hy
    rcases hy with rfl | rfl | rfl | rfl | rfl | rfl | rfl | rfl
    · exact .map (by decide)
    · exact .ms (by decide)
    · exact .map (by decide)
    · exact .map (by decide)
    · exact .int
    · exact .int
    · exact .int
    · exact .bool
  | 4, _ =>
    cases hx
    exact .cells fun y hy => Low.free (st := false) (texts_any _ y hy)
theorem mcH_tail {f : FuncId} {args : List AV} {x : AV} {a b c d e : Nat} {fs : List Fil} {m m' : Mc} (τ : Heap) (h : CallOk cx f (.ptr 3 d 0 :: args) (mcH a b c d e fs m []) (fun o s => o = .ret x ∧ s = mcH a b c d e fs m' []))
    (ha : ∀ y ∈ args, Free false y) (hx : Free false x) : CallOk cx f (.ptr 3 d 0 :: args) (mcH a b c d e fs m τ) (fun o s => o = .ret x ∧ s = mcH a b c d e fs m' τ) :=
  h.pre1 5 τ rfl rfl (.cons (.ptr rfl) (.free ha)) (mcH_rn ..) (mcH_rn ..) (.free hx)
def burnM (n : Nat) (m : Mc) : Mc := if m.left < n then endM 104 { m with left := 0 } else { m with left := m.left - n }
theorem end_ok (a b c d e : Nat) (fs : List Fil) (m : Mc) (k : Nat) (τ : Heap) : CallOk cx 62 [.ptr 3 d 0, .int .i64 (k : Nat)] (mcH a b c d e fs m τ) (fun o s => o = .ret (.tup []) ∧ s = mcH a b c d e fs (endM k m) τ) :=
  mcH_tail τ (callOk_intro (fun a w => Tryz.call62 a w) Tryz.func62 rfl Tryz.ntmps62 rfl fun B => by
    refine pB [] rfl ?_
    exact S_nil ⟨_, _, rfl, trivial, rfl, rfl⟩) (by intro x hx; simp at hx; subst hx; exact .int) (.tup (by simp))
theorem burn_ok (a b c d e : Nat) (fs : List Fil) (m : Mc) (n : Nat) (hn : n ≤ 1000000) (hm : m.left ≤ 100000) (τ : Heap) :
    CallOk cx 61 [.ptr 3 d 0, .int .i64 (n : Nat)] (mcH a b c d e fs m τ) (fun o s => o = .ret (.bool (decide (n ≤ m.left))) ∧ s = mcH a b c d e fs (burnM n m) τ) :=
  mcH_tail τ (callOk_intro (fun a w => Tryz.call61 a w) Tryz.func61 rfl Tryz.ntmps61 rfl fun B => by
    unfold burnM
    by_cases h : m.left < n
    · rw [if_pos h, decide_eq_false (by omega)]
      refine pa [.b true, .f (.tup []) (fun _ => mcH a b c d e fs (endM 104 { m with left := 0 }) [])] rfl ?_ ?_
      · (repeat' with_reducible apply AllP_cons) <;> try exact aC
        · exact end_ok a b c d e fs { m with left := 0 } 104 []
      exact S_ret ⟨_, _, rfl, trivial, rfl, rfl⟩
    · rw [if_neg h, decide_eq_true (by omega)]
      refine pB [.b false] rfl ?_
      refine S_ret ⟨_, _, rfl, trivial, rfl, ?_⟩
      have hw : IntKind.i64.wrap ((m.left : Int) - (n : Int)) = ((m.left - n : Nat) : Int) := by rw [IntWalk.i64_in _ ⟨by omega, by omega⟩]; omega
      show [_, _, _, (d, some (Box.cells [_, _, _, _, _, .int .i64 (IntKind.i64.wrap ((m.left : Int) - (n : Int))), _, _] _)), _] = _
      rw [hw]; rfl) (by intro x hx; simp at hx; subst hx; exact .int) .bool
theorem trip_ok (a b c d e : Nat) (fs : List Fil) (m : Mc) (k : Nat) (hm : m.left ≤ 100000) (τ : Heap) :
    CallOk cx 44 [.ptr 3 d 0, .int .i64 (k : Nat)] (mcH a b c d e fs m τ) (fun o s => o = .ret (.tup []) ∧ s = mcH a b c d e fs (tripM k m) τ) :=
  mcH_tail τ (callOk_intro (fun a w => Tryz.call44 a w) Tryz.func44 rfl Tryz.ntmps44 rfl fun B => by
    have hB := burn_ok a b c d e fs m 1 (by omega) hm []
    unfold burnM at hB
    unfold tripM
    by_cases h : m.left < 1
    · rw [if_pos h] at hB ⊢
      rw [decide_eq_false (by omega)] at hB
      refine pB [.f (.bool false) (fun _ => mcH a b c d e fs (endM 104 { m with left := 0 }) []), .b false] rfl ?_
      exact S_nil ⟨_, _, rfl, trivial, rfl, rfl⟩
    · rw [if_neg h] at hB ⊢
      rw [decide_eq_true (by omega)] at hB
      refine pa [.f (.bool true) (fun _ => mcH a b c d e fs { m with left := m.left - 1 } []), .b true, .f (.tup []) (fun _ => mcH a b c d e fs (endM k { m with left := m.left - 1 }) [])] rfl ?_ ?_
      · (repeat' with_reducible apply AllP_cons) <;> try exact aC
        · exact end_ok a b c d e fs { m with left := m.left - 1 } k []
      exact S_nil ⟨_, _, rfl, trivial, rfl, rfl⟩) (by intro x hx; simp at hx; subst hx; exact .int) (.tup (by simp))
end Go.Proofs.YtgmakmfdjhgjlaaGreatDoor
end
section
set_option linter.unusedVariables false
set_option linter.unusedSimpArgs false
set_option maxRecDepth 20000
set_option maxHeartbeats 4000000
namespace Go.Proofs.YtgmakmfdjhgjlaaGreatDoor
open Go Go.Ab
theorem keep_ok (a b c d e : Nat) (fs : List Fil) (m : Mc) (t : List UInt8) (g : FuncId) (caps : List AV) (k : Mc → Mc) (τ : Heap) (hm : m.left ≤ 100000) (ht : t.length ≤ 10000000)
    (hk : CallOk cx g ([] ++ [] ++ caps) (mcH a b c d e fs { m with left := m.left - (1 + t.length / 16) } τ) (fun o s => o = .ret (.tup []) ∧ s = mcH a b c d e fs (k { m with left := m.left - (1 + t.length / 16) }) τ)) :
    CallOk cx 81 [.ptr 3 d 0, .str t, .func (.func g) [] caps] (mcH a b c d e fs m τ) (fun o s => o = .ret (.tup []) ∧ s = mcH a b c d e fs (keepM t k m) τ) :=
  callOk_intro (fun a w => Tryz.call81 a w) Tryz.func81 rfl Tryz.ntmps81 rfl fun B => by
    unfold keepM
    by_cases h1 : 100000 < t.length
    · rw [if_pos h1]
      refine pas [.b true, .f (.tup []) (fun _ => mcH a b c d e fs (tripM 102 m) τ)] rfl ?_ ?_
      · (repeat' with_reducible apply AllP_cons) <;> try exact aC
        · exact trip_ok a b c d e fs m 102 hm τ
      exact S_ret ⟨_, _, rfl, trivial, rfl, rfl⟩
    rw [if_neg h1]
    have hw : IntKind.i64.wrap (1 + IntKind.i64.wrap ((t.length : Int).tdiv 16)) = ((1 + t.length / 16 : Nat) : Int) := by
      have e1 : (t.length : Int).tdiv 16 = ((t.length / 16 : Nat) : Int) := by rw [Int.tdiv_eq_ediv_of_nonneg (by omega)]; omega
      have e2 : IntKind.i64.wrap ((t.length / 16 : Nat) : Int) = ((t.length / 16 : Nat) : Int) := IntWalk.i64_in _ ⟨by omega, by omega⟩
      rw [e1, e2, IntWalk.i64_in _ ⟨by omega, by omega⟩]; omega
    have hB := burn_ok a b c d e fs m (1 + t.length / 16) (by omega) hm τ
    unfold burnM at hB
    by_cases h2 : m.left < 1 + t.length / 16
    · rw [if_pos h2] at hB ⊢
      rw [decide_eq_false (by omega), ← hw] at hB
      refine pas [.b false, .f (.bool false) (fun _ => mcH a b c d e fs (endM 104 { m with left := 0 }) τ), .b false] rfl ?_ ?_
      · (repeat' with_reducible apply AllP_cons) <;> try exact aC
      exact S_nil ⟨_, _, rfl, trivial, rfl, rfl⟩
    · rw [if_neg h2] at hB ⊢
      rw [decide_eq_true (by omega), ← hw] at hB
      refine pas [.b false, .f (.bool true) (fun _ => mcH a b c d e fs { m with left := m.left - (1 + t.length / 16) } τ), .b true, .f (.tup []) (fun _ => mcH a b c d e fs (k { m with left := m.left - (1 + t.length / 16) }) τ)] rfl ?_ ?_
      · (repeat' with_reducible apply AllP_cons) <;> try exact aC
      exact S_nil ⟨_, _, rfl, trivial, rfl, rfl⟩
structure RegOk (m : Mc) : Prop where
  nd : m.ks.Nodup
  no : ∀ k, k ∉ m.ks → m.regs k = []
theorem RegOk.get {m : Mc} (h : RegOk m) (r : List UInt8) : (if r ∈ m.ks then AV.str (m.regs r) else .str []) = .str (m.regs r) := by
  split
  · rfl
  · rename_i hk; rw [h.no r hk]
theorem regX_put (m : Mc) (r t : List UInt8) : mapBx (addK m.ks r) (updF (fun k => .str (m.regs k)) r (.str t)) = regX { m with regs := updT m.regs r t, ks := addK m.ks r } := by
  unfold regX mapBx
  congr 2
  refine mapF_congr fun k _ => ?_
  unfold updF
  show (if k = r then AV.str t else .str (m.regs k)) = .str (updT m.regs r t k)
  unfold updT
  split <;> rfl
def seB (d : Nat) (r t : List UInt8) : Heap := [(0, some (.cells [.ptr 3 d 0] ⟨false, none⟩)), (0, some (.cells [.str r] ⟨false, none⟩)), (0, some (.cells [.str t] ⟨false, none⟩))]
theorem set1_ok (a b c d e : Nat) (fs : List Fil) (m : Mc) (r t : List UInt8) (hr : RegOk m) :
    CallOk cx 82 [.ptr 7 0 0, .ptr 5 0 0, .ptr 6 0 0] (mcH a b c d e fs m (seB d r t)) (fun o s => o = .ret (.tup []) ∧ s = mcH a b c d e fs { m with regs := updT m.regs r t, ks := addK m.ks r } (seB d r t)) :=
  callOk_intro (fun a w => Tryz.call82 a w) Tryz.func82 rfl Tryz.ntmps82 rfl fun B => by
    refine pa [.f (.tup []) (fun _ => mcH a b c d e fs { m with regs := updT m.regs r t, ks := addK m.ks r } (seB d r t))] rfl ?_ ?_
    · (repeat' with_reducible apply AllP_cons) <;> try exact aC
      · exact OpSpec.mput (kt := 9) (et := 9) (ks := m.ks) (val := fun k => .str (m.regs k)) (s := r) (v := .str t) rfl (Tryz.underlying52) rfl rfl rfl rfl rfl hr.nd (by rw [regX_put]; rfl)
    exact S_nil ⟨_, _, rfl, trivial, rfl, rfl⟩
theorem set_ok (a b c d e : Nat) (fs : List Fil) (m : Mc) (r t : List UInt8) (hr : RegOk m) (hm : m.left ≤ 100000) (ht : t.length ≤ 10000000) (τ : Heap) :
    CallOk cx 42 [.ptr 3 d 0, .str r, .str t] (mcH a b c d e fs m τ) (fun o s => o = .ret (.tup []) ∧ s = mcH a b c d e fs (setM r t m) τ) :=
  mcH_tail τ (callOk_introT (fun a w => Tryz.call42 a w) Tryz.func42 rfl Tryz.ntmps42 rfl fun B => by
    have hK := keep_ok a b c d e fs m t 82 [.ptr 7 0 0, .ptr 5 0 0, .ptr 6 0 0] (fun m => { m with regs := updT m.regs r t, ks := addK m.ks r }) (seB d r t) hm ht (set1_ok a b c d e fs _ r t ⟨hr.nd, hr.no⟩)
    refine pB [.f (.tup []) (fun _ => mcH a b c d e fs (setM r t m) (seB d r t))] rfl ?_
    exact S_nil ⟨_, _, rfl, trivial, 5, Nat.le_refl _, mcH_low a b c d e fs _ _, .tup [], .low (.tup (by simp)), rfl, rfl⟩) (by intro x hx; simp at hx; rcases hx with rfl | rfl <;> exact .str) (.tup (by simp))
theorem jump_ok (a b c d e : Nat) (fs : List Fil) (m : Mc) (is : Bool) (to : Nat) (hm : m.left ≤ 100000) (τ : Heap) :
    CallOk cx 57 [.ptr 3 d 0, .bool is, .int .i64 (to : Nat)] (mcH a b c d e fs m τ) (fun o s => o = .ret (.tup []) ∧ s = mcH a b c d e fs (jumpM is to m) τ) :=
  mcH_tail τ (callOk_intro (fun a w => Tryz.call57 a w) Tryz.func57 rfl Tryz.ntmps57 rfl fun B => by
    have hB := burn_ok a b c d e fs m 1 (by omega) hm []
    unfold burnM at hB
    unfold jumpM
    by_cases h : m.left < 1
    · rw [if_pos h] at hB ⊢
      rw [decide_eq_false (by omega)] at hB
      refine pB [.f (.bool false) (fun _ => mcH a b c d e fs (endM 104 { m with left := 0 }) []), .b false, .b false] rfl ?_
      exact S_nil ⟨_, _, rfl, trivial, rfl, rfl⟩
    · rw [if_neg h] at hB ⊢
      rw [decide_eq_true (by omega)] at hB
      cases is with
      | true =>
        refine pB [.f (.bool true) (fun _ => mcH a b c d e fs { m with left := m.left - 1 } []), .b true, .b true] rfl ?_
        exact S_nil ⟨_, _, rfl, trivial, rfl, rfl⟩
      | false =>
        refine pB [.f (.bool true) (fun _ => mcH a b c d e fs { m with left := m.left - 1 } []), .b true, .b false] rfl ?_
        exact S_nil ⟨_, _, rfl, trivial, rfl, rfl⟩) (by intro x hx; simp at hx; rcases hx with rfl | rfl; exact .bool; exact .int) (.tup (by simp))
end Go.Proofs.YtgmakmfdjhgjlaaGreatDoor
end
section
set_option linter.unusedVariables false
set_option linter.unusedSimpArgs false
set_option maxRecDepth 20000
set_option maxHeartbeats 4000000
namespace Go.Proofs.YtgmakmfdjhgjlaaGreatDoor
open Go Go.Ab
def nsA (l : List Nat) : List AV := l.map fun (x : Nat) => .int .i64 x
def lnC (x : Ln) : List AV := [.str x.op, .sl true false 1 (texts x.ws), .sl true false 1 (nsA x.ns)]
def lnA (x : Ln) : AV := .agg (lnC x)
theorem nsA_free {st : Bool} (l : List Nat) : ∀ y ∈ nsA l, Free st y := by
  intro y hy
  obtain ⟨n, _, rfl⟩ := List.mem_map.1 hy
  exact .int
theorem lnC_free {st : Bool} (x : Ln) : ∀ y ∈ lnC x, Free st y := by
  intro y hy
  simp only [lnC, List.mem_cons, List.not_mem_nil, or_false] at hy
  rcases hy with rfl | rfl | rfl
  · exact .str
  · exact .sl (fun _ => rfl) (texts_any _)
  · exact .sl (fun _ => rfl) (nsA_free _)
theorem lnA_free {st : Bool} (x : Ln) : Free st (lnA x) := .agg (lnC_free x)
def lnB (x : Ln) : Nat × Option Box := (0, some (.cells (lnC x) ⟨false, some 57⟩))
structure McOk (m : Mc) : Prop where
  reg : RegOk m
  len : ∀ r, (m.regs r).length ≤ 100000
  left : m.left ≤ 100000
def Does (f : FuncId) (x : Ln) (k : Mc → Mc) (fs : List Fil) : Prop := ∀ (a b c d e : Nat) (m : Mc) (τ : Heap), McOk m →
  CallOk cx f [.ptr 3 d 0, lnA x] (mcH a b c d e fs m τ) (fun o s => o = .ret (.tup []) ∧ s = mcH a b c d e fs (k m) τ)
theorem Does.of {f : FuncId} {x : Ln} {k : Mc → Mc} {fs : List Fil} (h : ∀ (a b c d e : Nat) (m : Mc), McOk m → CallOk cx f [.ptr 3 d 0, lnA x] (mcH a b c d e fs m []) (fun o s => o = .ret (.tup []) ∧ s = mcH a b c d e fs (k m) [])) : Does f x k fs :=
  fun a b c d e m τ hm => mcH_tail τ (h a b c d e m hm) (by intro y hy; simp at hy; subst hy; exact lnA_free x) (.tup (by simp))
theorem endT {a b c d e : Nat} {fs : List Fil} {m : Mc} {τ : Heap} : TR 5 (fun o s => o = .ret (.tup []) ∧ s = mcH a b c d e fs m []) (.ret (.tup [])) (mcH a b c d e fs m τ) :=
  ⟨5, Nat.le_refl _, mcH_low a b c d e fs _ _, .tup [], .low (.tup (by simp)), rfl, rfl⟩
theorem st1_ok (fs : List Fil) (r t : List UInt8) (ht : t.length ≤ 10000000) : Does 41 ⟨kSet, [r, t], []⟩ (setM r t) fs := Does.of fun a b c d e m hm =>
  callOk_introT (fun a w => Tryz.call41 a w) Tryz.func41 rfl Tryz.ntmps41 rfl fun B => by
    have h := set_ok a b c d e fs m r t hm.reg hm.left ht [lnB ⟨kSet, [r, t], []⟩]
    refine pB [.v (.str r), .v (.str t), .f (.tup []) (fun _ => mcH a b c d e fs (setM r t m) [lnB ⟨kSet, [r, t], []⟩])] rfl ?_
    exact S_nil ⟨_, _, rfl, trivial, endT⟩
theorem get_reg {n : Nat} {fr : Fr} {σ : Heap} {o : Oper} {m : Mc} {mo key : Operand} {c : Nat} {r : List UInt8} (hr : RegOk m) (ho : o.op = .lookup 52 mo key false) (hm : ev cx fr mo = .map 2 c) (hk : ev cx fr key = .str r) (hσ : σ[2]? = some (c, regX m)) :
    OpSpec cx n fr σ o (.str (m.regs r)) σ :=
  OpSpec.mget (kt := 9) (et := 9) (ks := m.ks) (val := fun k => .str (m.regs k)) (z := .str []) (s := r) ho (Tryz.underlying52) rfl hm hk hσ rfl (by
    show (if r ∈ m.ks then AV.str (m.regs r) else .str []) = _
    exact hr.get r)
theorem st4_ok (fs : List Fil) (r s : List UInt8) (ns : List Nat) : Does 47 ⟨kJoin, [r, s], ns⟩ (fun m => setM r (m.regs r ++ m.regs s) m) fs := Does.of fun a b c d e m hm =>
  callOk_introT (fun a w => Tryz.call47 a w) Tryz.func47 rfl Tryz.ntmps47 rfl fun B => by
    have l1 := hm.len r
    have l2 := hm.len s
    have h := set_ok a b c d e fs m r (m.regs r ++ m.regs s) hm.reg hm.left (by rw [List.length_append]; omega) [lnB ⟨kJoin, [r, s], ns⟩]
    refine pa [.v (.str r), .v (.str r), .v (.str (m.regs r)), .v (.str s), .v (.str (m.regs s)), .f (.tup []) (fun _ => mcH a b c d e fs (setM r (m.regs r ++ m.regs s) m) [lnB ⟨kJoin, [r, s], ns⟩])] rfl ?_ ?_
    · (repeat' with_reducible apply AllP_cons) <;> try exact aC
      all_goals first | exact get_reg hm.reg rfl rfl rfl rfl | skip
    exact S_nil ⟨_, _, rfl, trivial, endT⟩
end Go.Proofs.YtgmakmfdjhgjlaaGreatDoor
end
section
set_option linter.unusedVariables false
set_option linter.unusedSimpArgs false
set_option maxRecDepth 20000
set_option maxHeartbeats 4000000
namespace Go.Proofs.YtgmakmfdjhgjlaaGreatDoor
open Go Go.Ab
theorem st5_ok (fs : List Fil) (r : List UInt8) (ws : List (List UInt8)) (n0 i j : Nat) (hi : i ≤ 1000000) (hj : j ≤ 1000000) : Does 48 ⟨kCut, r :: ws, [n0, i, j]⟩ (fun m => setM r (((m.regs r).take (min (m.regs r).length j)).drop (min (min (m.regs r).length j) i)) m) fs := Does.of fun a b c d e m hm =>
  callOk_introT (fun a w => Tryz.call48 a w) Tryz.func48 rfl Tryz.ntmps48 rfl fun B => by
    have l1 := hm.len r
    generalize hw : m.regs r = w at *
    have h := set_ok a b c d e fs m r ((w.take (min w.length j)).drop (min (min w.length j) i)) hm.reg hm.left (by rw [List.length_drop, List.length_take]; omega) [lnB ⟨kCut, r :: ws, [n0, i, j]⟩]
    have e1 : min (w.length : Int) (j : Int) = ((min w.length j : Nat) : Int) := by omega
    have e2 : min ((min w.length j : Nat) : Int) (i : Int) = ((min (min w.length j) i : Nat) : Int) := by omega
    have hc : cutL (some (min (min (w.length : Int) (j : Int)) (i : Int))) (some (min (w.length : Int) (j : Int))) w = (w.take (min w.length j)).drop (min (min w.length j) i) := by
      rw [e1, e2]; simp [cutL]
    have h' : CallOk cx 42 [.ptr 3 d 0, .str r, .str (cutL (some (min (min (w.length : Int) (j : Int)) (i : Int))) (some (min (w.length : Int) (j : Int))) w)] (mcH a b c d e fs m [lnB ⟨kCut, r :: ws, [n0, i, j]⟩])
      (fun o s => o = .ret (.tup []) ∧ s = mcH a b c d e fs (setM r ((w.take (min w.length j)).drop (min (min w.length j) i)) m) [lnB ⟨kCut, r :: ws, [n0, i, j]⟩]) := by rw [hc]; exact h
    refine pa [.v (.str r), .v (.str w), .v (.int .i64 (j : Nat)), .v (.str r), .v (.int .i64 (i : Nat)), .f (.tup []) (fun _ => mcH a b c d e fs (setM r ((w.take (min w.length j)).drop (min (min w.length j) i)) m) [lnB ⟨kCut, r :: ws, [n0, i, j]⟩])] rfl ?_ ?_
    · (repeat' with_reducible apply AllP_cons) <;> try exact aC
      all_goals first | exact hw ▸ get_reg hm.reg rfl rfl rfl rfl | skip
    exact S_nil ⟨_, _, rfl, trivial, endT⟩
theorem st6_ok (fs : List Fil) (r s : List UInt8) (ns : List Nat) : Does 49 ⟨kSize, [r, s], ns⟩ (fun m => setM r (digs (m.regs s).length) m) fs := Does.of fun a b c d e m hm =>
  callOk_introT (fun a w => Tryz.call49 a w) Tryz.func49 rfl Tryz.ntmps49 rfl fun B => by
    have l1 := hm.len s
    have hI := Itoa_ok (((m.regs s).length : Nat) : Int) (by omega) (by omega)
    rw [itoa_digs] at hI
    have hdl := digs_len (m.regs s).length _ rfl
    have h := set_ok a b c d e fs m r (digs (m.regs s).length) hm.reg hm.left (by omega) [lnB ⟨kSize, [r, s], ns⟩]
    refine pa [.v (.str r), .v (.str s), .v (.str (m.regs s)), .v (.str (digs (m.regs s).length)), .f (.tup []) (fun _ => mcH a b c d e fs (setM r (digs (m.regs s).length) m) [lnB ⟨kSize, [r, s], ns⟩])] rfl ?_ ?_
    · (repeat' with_reducible apply AllP_cons) <;> try exact aC
      all_goals first | exact get_reg hm.reg rfl rfl rfl rfl | exact ⟨_, hI, .cons (.refl .int) (.nil _)⟩
    exact S_nil ⟨_, _, rfl, trivial, endT⟩
theorem st7_ok (fs : List Fil) (r : List UInt8) (ns : List Nat) : Does 51 ⟨kSum, [r], ns⟩ (fun m => setM r (sha (m.regs r)) m) fs := Does.of fun a b c d e m hm =>
  callOk_introT (fun a w => Tryz.call51 a w) Tryz.func51 rfl Tryz.ntmps51 rfl fun B => by
    have l1 := hm.len r
    have hS := Sum_ok (m.regs r) (by omega)
    have h := set_ok a b c d e fs m r (sha (m.regs r)) hm.reg hm.left (by rw [sha_len]; omega) [lnB ⟨kSum, [r], ns⟩]
    refine pa [.v (.str r), .v (.str r), .v (.str (m.regs r)), .v (.str (sha (m.regs r))), .f (.tup []) (fun _ => mcH a b c d e fs (setM r (sha (m.regs r)) m) [lnB ⟨kSum, [r], ns⟩])] rfl ?_ ?_
    · (repeat' with_reducible apply AllP_cons) <;> try exact aC
      all_goals first | exact get_reg hm.reg rfl rfl rfl rfl | exact ⟨_, hS, .cons (.refl .str) (.nil _)⟩
    exact S_nil ⟨_, _, rfl, trivial, endT⟩
theorem st10_ok (fs : List Fil) (r s : List UInt8) (ws : List (List UInt8)) (n0 n1 j : Nat) : Does 56 ⟨kSame, r :: s :: ws, [n0, n1, j]⟩ (fun m => jumpM (m.regs r == m.regs s) j m) fs := Does.of fun a b c d e m hm =>
  callOk_introT (fun a w => Tryz.call56 a w) Tryz.func56 rfl Tryz.ntmps56 rfl fun B => by
    have h := jump_ok a b c d e fs m (m.regs r == m.regs s) j hm.left [lnB ⟨kSame, r :: s :: ws, [n0, n1, j]⟩]
    refine pa [.v (.str r), .v (.str (m.regs r)), .v (.str s), .v (.str (m.regs s)), .v (.int .i64 (j : Nat)), .f (.tup []) (fun _ => mcH a b c d e fs (jumpM (m.regs r == m.regs s) j m) [lnB ⟨kSame, r :: s :: ws, [n0, n1, j]⟩])] rfl ?_ ?_
    · (repeat' with_reducible apply AllP_cons) <;> try exact aC
      all_goals first | exact get_reg hm.reg rfl rfl rfl rfl | skip
    exact S_nil ⟨_, _, rfl, trivial, endT⟩
theorem st11_ok (fs : List Fil) (r s : List UInt8) (ws : List (List UInt8)) (n0 n1 j : Nat) : Does 58 ⟨kLess, r :: s :: ws, [n0, n1, j]⟩ (fun m => jumpM (Op.bytesLess (m.regs r) (m.regs s)) j m) fs := Does.of fun a b c d e m hm =>
  callOk_introT (fun a w => Tryz.call58 a w) Tryz.func58 rfl Tryz.ntmps58 rfl fun B => by
    have h := jump_ok a b c d e fs m (Op.bytesLess (m.regs r) (m.regs s)) j hm.left [lnB ⟨kLess, r :: s :: ws, [n0, n1, j]⟩]
    refine pa [.v (.str r), .v (.str (m.regs r)), .v (.str s), .v (.str (m.regs s)), .v (.int .i64 (j : Nat)), .f (.tup []) (fun _ => mcH a b c d e fs (jumpM (Op.bytesLess (m.regs r) (m.regs s)) j m) [lnB ⟨kLess, r :: s :: ws, [n0, n1, j]⟩])] rfl ?_ ?_
    · (repeat' with_reducible apply AllP_cons) <;> try exact aC
      all_goals first | exact get_reg hm.reg rfl rfl rfl rfl | skip
    exact S_nil ⟨_, _, rfl, trivial, endT⟩
theorem st12_ok (fs : List Fil) (ws : List (List UInt8)) (j : Nat) : Does 59 ⟨kGoto, ws, [j]⟩ (fun m => jumpM true j m) fs := Does.of fun a b c d e m hm =>
  callOk_introT (fun a w => Tryz.call59 a w) Tryz.func59 rfl Tryz.ntmps59 rfl fun B => by
    have h := jump_ok a b c d e fs m true j hm.left [lnB ⟨kGoto, ws, [j]⟩]
    refine pB [.v (.int .i64 (j : Nat)), .f (.tup []) (fun _ => mcH a b c d e fs (jumpM true j m) [lnB ⟨kGoto, ws, [j]⟩])] rfl ?_
    exact S_nil ⟨_, _, rfl, trivial, endT⟩
theorem st13_ok (fs : List Fil) (ws : List (List UInt8)) (j : Nat) : Does 60 ⟨kExit, ws, [j]⟩ (fun m => exitM j m) fs := Does.of fun a b c d e m hm =>
  callOk_introT (fun a w => Tryz.call60 a w) Tryz.func60 rfl Tryz.ntmps60 rfl fun B => by
    have hB := burn_ok a b c d e fs m 1 (by omega) hm.left [lnB ⟨kExit, ws, [j]⟩]
    unfold burnM at hB
    unfold exitM
    by_cases h : m.left < 1
    · rw [if_pos h] at hB ⊢
      rw [decide_eq_false (by omega)] at hB
      refine pB [.f (.bool false) (fun _ => mcH a b c d e fs (endM 104 { m with left := 0 }) [lnB ⟨kExit, ws, [j]⟩]), .b false] rfl ?_
      exact S_nil ⟨_, _, rfl, trivial, endT⟩
    · rw [if_neg h] at hB ⊢
      rw [decide_eq_true (by omega)] at hB
      have hE := end_ok a b c d e fs { m with left := m.left - 1 } j [lnB ⟨kExit, ws, [j]⟩]
      refine pB [.f (.bool true) (fun _ => mcH a b c d e fs { m with left := m.left - 1 } [lnB ⟨kExit, ws, [j]⟩]), .b true, .v (.int .i64 (j : Nat)), .f (.tup []) (fun _ => mcH a b c d e fs (endM j { m with left := m.left - 1 }) [lnB ⟨kExit, ws, [j]⟩])] rfl ?_
      exact S_nil ⟨_, _, rfl, trivial, endT⟩
structure TrOk (fs : List Fil) : Prop where
  len : fs.length ≤ 60
  nd : (fs.map Fil.path).Nodup
  path : ∀ f ∈ fs, f.path.length ≤ 100
  text : ∀ f ∈ fs, f.text.length ≤ 100000
theorem find_vaP {fs : List Fil} (hn : (fs.map Fil.path).Nodup) (p : List UInt8) : (fs.find? (fun f => f.path == p) = none ∧ p ∉ fs.map Fil.path) ∨ (∃ f ∈ fs, fs.find? (fun f => f.path == p) = some f ∧ f.path = p ∧ p ∈ fs.map Fil.path ∧ vaP fs p = filA f) := by
  cases hq : fs.find? (fun f => f.path == p) with
  | none =>
    refine .inl ⟨rfl, fun hp => ?_⟩
    obtain ⟨f, hf, e⟩ := List.mem_map.1 hp
    have := List.find?_eq_none.1 hq f hf
    exact this (by simpa using e)
  | some f =>
    have h1 := List.mem_of_find?_eq_some hq
    have h2 : f.path = p := by have := List.find?_some hq; simpa using this
    refine .inr ⟨f, h1, rfl, h2, h2 ▸ List.mem_map.2 ⟨f, h1, rfl⟩, ?_⟩
    unfold vaP
    have hk : p ∈ ksP fs := ksP_mem.2 ⟨f, h1, h2⟩
    obtain ⟨k1, k2⟩ := lastF_mem hk
    have : lastF fs p = f := by
      obtain ⟨i, hi, ei⟩ := List.getElem_of_mem k1
      obtain ⟨j, hj, ej⟩ := List.getElem_of_mem h1
      have hij : i = j := (List.getElem_inj (xs := fs.map Fil.path) (h₀ := by simpa using hi) (h₁ := by simpa using hj) hn).1 (by simp [ei, ej, k2, h2])
      subst hij
      rw [← ei, ← ej]
    rw [this]
def filB0 (f : Fil) : Nat × Option Box := filBx 0 f
theorem st2_ok (fs : List Fil) (hf : TrOk fs) (r p : List UInt8) (ns : List Nat) : Does 43 ⟨kRead, [r, p], ns⟩ (fun m => match fs.find? (fun f => f.path == p) with | none => tripM 101 m | some f => setM r f.text m) fs := Does.of fun a b c d e m hm =>
  callOk_introT (fun a w => Tryz.call43 a w) Tryz.func43 rfl Tryz.ntmps43 rfl fun B => by
    refine pB [] rfl ?_
    rcases find_vaP hf.nd p with ⟨h1, h2⟩ | ⟨f, hfm, h1, h2, h3, h4⟩
    · rw [h1]
      have hT := trip_ok a b c d e fs m 101 hm.left [lnB ⟨kRead, [r, p], ns⟩, filB0 ⟨[], [], false⟩]
      refine S_drawC2 (mcH a b c d e fs m [lnB ⟨kRead, [r, p], ns⟩, filB0 ⟨[], [], false⟩]) (mcH a b c d e fs m [lnB ⟨kRead, [r, p], ns⟩, filB0 ⟨[], [], false⟩]) 12 13 15 [] [.str p, .tup [filA ⟨[], [], false⟩, .bool false], .ptr 6 0 0, .tup []] rfl rfl rfl rfl rfl rfl rfl ?_ ?_
      · (repeat' with_reducible apply AllP_cons) <;> try exact aC
        all_goals first
          | exact OpSpec.mget (kt := 9) (et := 38) (ks := fs.map Fil.path) (val := vaP fs) (z := filA ⟨[], [], false⟩) (s := p) rfl (Tryz.underlying51) rfl rfl rfl rfl rfl (by rw [if_neg h2, decide_eq_false h2]; rfl)
          | exact OpSpec.aop rfl (by (repeat' with_reducible apply AllP_cons) <;> try exact aC)
      refine pB [.b true, .f (.tup []) (fun _ => mcH a b c d e fs (tripM 101 m) [lnB ⟨kRead, [r, p], ns⟩, filB0 ⟨[], [], false⟩])] rfl ?_
      exact S_ret ⟨_, _, rfl, trivial, endT⟩
    · rw [h1]
      have hl := hf.text f hfm
      have hT := set_ok a b c d e fs m r f.text hm.reg hm.left (by omega) [lnB ⟨kRead, [r, p], ns⟩, filB0 f]
      refine S_drawC2 (mcH a b c d e fs m [lnB ⟨kRead, [r, p], ns⟩, filB0 ⟨[], [], false⟩]) (mcH a b c d e fs m [lnB ⟨kRead, [r, p], ns⟩, filB0 f]) 12 13 15 [] [.str p, .tup [filA f, .bool true], .ptr 6 0 0, .tup []] rfl rfl rfl rfl rfl rfl rfl ?_ ?_
      · (repeat' with_reducible apply AllP_cons) <;> try exact aC
        all_goals first
          | exact OpSpec.mget (kt := 9) (et := 38) (ks := fs.map Fil.path) (val := vaP fs) (z := filA ⟨[], [], false⟩) (s := p) rfl (Tryz.underlying51) rfl rfl rfl rfl rfl (by rw [if_pos h3, decide_eq_true h3, h4]; rfl)
          | exact OpSpec.aop rfl (by (repeat' with_reducible apply AllP_cons) <;> try exact aC)
      refine pB [.b false, .v (.str r), .f (.tup []) (fun _ => mcH a b c d e fs (setM r f.text m) [lnB ⟨kRead, [r, p], ns⟩, filB0 f])] rfl ?_
      exact S_nil ⟨_, _, rfl, trivial, endT⟩
theorem listT_take (fs : List Fil) (dr : List UInt8) {i : Nat} (h : i < fs.length) : listT (fs.take (i + 1)) dr = listT (fs.take i) dr ++ (if dr = [46] ∨ insT dr fs[i].path = true then fs[i].path ++ [10] else []) := by
  unfold listT
  rw [List.take_succ_eq_append_getElem h, List.flatMap_append]
  simp
theorem listT_len {fs : List Fil} (hp : ∀ f ∈ fs, f.path.length ≤ 100) (dr : List UInt8) : (listT fs dr).length ≤ fs.length * 101 := by
  induction fs with
  | nil => simp [listT]
  | cons f r ih =>
    have h1 := ih fun g hg => hp g (List.mem_cons_of_mem _ hg)
    have h2 := hp f (List.mem_cons_self ..)
    have h3 : listT (f :: r) dr = (if dr = [46] ∨ insT dr f.path = true then f.path ++ [10] else []) ++ listT r dr := rfl
    rw [h3, List.length_append, List.length_cons]
    split
    · rw [List.length_append, List.length_cons, List.length_nil]; omega
    · rw [List.length_nil]; omega
theorem tx_off (i : Nat) : offN 0 (mulN (i : Int).toNat 1) = i := by
  rw [Int.toNat_natCast]
  unfold offN mulN
  simp
theorem st3_ok (fs : List Fil) (hf : TrOk fs) (r p : List UInt8) (hp : p.length ≤ 10000000) (ns : List Nat) : Does 45 ⟨kList, [r, p], ns⟩ (setM r (listT fs p)) fs := Does.of fun a b c d e m hm =>
  callOk_introT (fun a w => Tryz.call45 a w) Tryz.func45 rfl Tryz.ntmps45 rfl fun B => by
    have hfl := hf.len
    have hll := listT_len hf.path p
    refine pB [] rfl ?_
    refine S_while (α := Nat) (fun i => [(0, .ptr 3 d 0), (3, .ptr 5 0 0), (4, .str (listT (fs.take i) p)), (10, .ms 4 e 0 fs.length 1 false), (11, .int .i64 (fs.length : Nat)), (12, .int .i64 (i : Nat))]) (fun _ => mcH a b c d e fs m [lnB ⟨kList, [r, p], ns⟩]) (fun i => i ≤ fs.length) (fun i => fs.length - i) 0
      (Nat.zero_le _) (.cons rfl (.cons rfl (.cons rfl (.cons rfl (.cons rfl (.cons rfl (.nil _))))))) rfl ?_
    intro i hi
    have hi : i ≤ fs.length := hi
    by_cases hlt : i < fs.length
    · have e1 : decide ((i : Int) < (fs.length : Int)) = true := decide_eq_true (by omega)
      have g1 : ((texts (fs.map Fil.path)).drop (offN 0 (mulN (i : Int).toNat 1)))[0]? = some (.str fs[i].path) := by
        rw [show offN 0 (mulN (i : Int).toNat 1) = i from tx_off i, List.getElem?_drop, Nat.add_zero]; simp [texts, List.getElem?_eq_getElem hlt]
      have hpl := hf.path _ (List.getElem_mem hlt)
      have hll' := listT_len (fs := fs.take i) (fun g hg => hf.path g (List.mem_of_mem_take hg)) p
      rw [List.length_take] at hll'
      have hmi : min i fs.length * 101 ≤ 60 * 101 := Nat.mul_le_mul_right _ (by omega)
      have hstep := listT_take fs p hlt
      have key : ∀ s : List UInt8, s = listT (fs.take (i + 1)) p → Weak [(0, .ptr 3 d 0), (3, .ptr 5 0 0), (4, .str s), (10, .ms 4 e 0 fs.length 1 false), (11, .int .i64 (fs.length : Nat)), (12, .int .i64 ((i + 1 : Nat) : Int))] [(0, .ptr 3 d 0), (3, .ptr 5 0 0), (4, .str (listT (fs.take (i + 1)) p)), (10, .ms 4 e 0 fs.length 1 false), (11, .int .i64 (fs.length : Nat)), (12, .int .i64 ((i + 1 : Nat) : Int))] := by
        rintro s rfl; exact fun t => .inr rfl
      by_cases hd : p = [46]
      · have hd' : (p == [46]) = true := by simpa using hd
        refine pa [.b true, .v .top, .v (.str fs[i].path), .v (.str p), .b true, .b true] rfl ?_ ?_
        · (repeat' with_reducible apply AllP_cons) <;> try exact aC
          all_goals first | exact g1 | (show ((fs[i].path.length + 1 : Nat) : Int) ≤ _; omega) | (rw [List.length_append]; show (((listT (fs.take i) p).length + (fs[i].path.length + 1) : Nat) : Int) ≤ _; omega) | skip
        rw [if_pos (.inl hd)] at hstep
        exact S_round (i + 1) (by show fs.length - (i + 1) < fs.length - i; omega) hlt (.cons rfl (.cons rfl (.cons (by show AV.str (listT (fs.take i) p ++ (fs[i].path ++ [10])) = _; rw [← hstep]) (.cons rfl (.cons rfl (.cons (nX (by omega)) (.nil _))))))) rfl
      · have hd' : (p == [46]) = false := by simpa using hd
        have hH := HasPrefix_ok fs[i].path (p ++ [47])
        cases hin : insT p fs[i].path with
        | true =>
          have hin' : (p ++ [47]).isPrefixOf fs[i].path = true := hin
          rw [hin'] at hH
          refine pa [.b true, .v .top, .v (.str fs[i].path), .v (.str p), .b false, .v (.str p), .v (.bool true), .b true] rfl ?_ ?_
          · (repeat' with_reducible apply AllP_cons) <;> try exact aC
            all_goals first | exact ⟨_, hH, .cons (.refl .str) (.cons (.refl .str) (.nil _))⟩ | exact g1 | (show ((fs[i].path.length + 1 : Nat) : Int) ≤ _; omega) | (rw [List.length_append]; show (((listT (fs.take i) p).length + (fs[i].path.length + 1) : Nat) : Int) ≤ _; omega) | skip
          rw [if_pos (.inr hin)] at hstep
          exact S_round (i + 1) (by show fs.length - (i + 1) < fs.length - i; omega) hlt (.cons rfl (.cons rfl (.cons (by show AV.str (listT (fs.take i) p ++ (fs[i].path ++ [10])) = _; rw [← hstep]) (.cons rfl (.cons rfl (.cons (nX (by omega)) (.nil _))))))) rfl
        | false =>
          have hin' : (p ++ [47]).isPrefixOf fs[i].path = false := hin
          rw [hin'] at hH
          refine pa [.b true, .v .top, .v (.str fs[i].path), .v (.str p), .b false, .v (.str p), .v (.bool false), .b false] rfl ?_ ?_
          · (repeat' with_reducible apply AllP_cons) <;> try exact aC
            all_goals first | exact ⟨_, hH, .cons (.refl .str) (.cons (.refl .str) (.nil _))⟩ | exact g1 | (show ((fs[i].path.length + 1 : Nat) : Int) ≤ _; omega) | (rw [List.length_append]; show (((listT (fs.take i) p).length + (fs[i].path.length + 1) : Nat) : Int) ≤ _; omega) | skip
          rw [if_neg (by rintro (h | h); exact hd h; rw [hin] at h; cases h), List.append_nil] at hstep
          exact S_round (i + 1) (by show fs.length - (i + 1) < fs.length - i; omega) hlt (.cons rfl (.cons rfl (.cons (by show AV.str (listT (fs.take i) p) = _; rw [← hstep]) (.cons rfl (.cons rfl (.cons (nX (by omega)) (.nil _))))))) rfl
    · have e1 : decide ((i : Int) < (fs.length : Int)) = false := decide_eq_false (by omega)
      obtain rfl : i = fs.length := by omega
      have h := set_ok a b c d e fs m r (listT fs p) hm.reg hm.left (by omega) [lnB ⟨kList, [r, p], ns⟩]
      rw [List.take_length]
      refine pB [.b false, .v (.str r), .f (.tup []) (fun _ => mcH a b c d e fs (setM r (listT fs p) m) [lnB ⟨kList, [r, p], ns⟩])] rfl ?_
      exact S_nil ⟨_, _, rfl, trivial, endT⟩
end Go.Proofs.YtgmakmfdjhgjlaaGreatDoor
end
section
set_option linter.unusedVariables false
set_option linter.unusedSimpArgs false
set_option maxRecDepth 20000
set_option maxHeartbeats 4000000
namespace Go.Proofs.YtgmakmfdjhgjlaaGreatDoor
open Go Go.Ab
theorem mapP_add (c : List Fil) (f : Fil) : mapBx (addK (ksP c) f.path) (updF (vaP c) f.path (filA f)) = mapBx (ksP (c ++ [f])) (vaP (c ++ [f])) := by
  unfold mapBx
  rw [ksP_add]
  show some (Box.map (mapF (addU _ _) _) none) = some (Box.map (mapF (addU _ _) _) none)
  congr 2
  refine mapF_congr fun n _ => ?_
  unfold updF vaP
  rw [lastF_add]
  split <;> rfl
def maB (d : Nat) (p t : List UInt8) (run : Bool) (τ : Heap) : Heap := (0, some (.cells [.ptr 3 d 0] ⟨false, none⟩)) :: (0, some (.cells [.str p] ⟨false, none⟩)) :: (0, some (.cells [.str t] ⟨false, none⟩)) :: (0, some (.cells [.bool run] ⟨false, none⟩)) :: τ
theorem make1_ok (a b c d e : Nat) (fs : List Fil) (m : Mc) (p t : List UInt8) (run : Bool) (g : Fil) :
    CallOk cx 87 [.ptr 6 0 0, .ptr 7 0 0, .ptr 8 0 0, .ptr 5 0 0] (mcH a b c d e fs m (maB d p t run [filBx 1 g])) (fun o s => o = .ret (.tup []) ∧ s = mcH a b c d e fs { m with made := m.made ++ [⟨p, t, run⟩] } (maB d p t run [filBx 1 g])) :=
  callOk_intro (fun a w => Tryz.call87 a w) Tryz.func87 rfl Tryz.ntmps87 rfl fun B => by
    refine pa [.f (.tup []) (fun _ => mcH a b c d e fs { m with made := m.made ++ [⟨p, t, run⟩] } (maB d p t run [filBx 1 g]))] rfl ?_ ?_
    · (repeat' with_reducible apply AllP_cons) <;> try exact aC
      · exact OpSpec.mput (kt := 9) (et := 38) (ks := ksP m.made) (val := vaP m.made) (s := p) (v := filA ⟨p, t, run⟩) rfl (Tryz.underlying51) rfl rfl rfl rfl rfl (ksP_nodup _) (by rw [mapP_add m.made ⟨p, t, run⟩]; rfl)
    exact S_nil ⟨_, _, rfl, trivial, rfl, rfl⟩
def mcS (a b c d e : Nat) (fs : List Fil) (m : Mc) (st : Option (List Nat × Nat)) (τ : Heap) : Heap :=
  (a, mapBx (fs.map Fil.path) (vaP fs)) :: (b, some (.map (mapF (ksP m.made) (vaP m.made)) st)) :: (c, regX m) :: (d, some (.cells (mcC a b c e fs.length m) ⟨false, some 54⟩)) :: (e, some (.cells (texts (fs.map Fil.path)) ⟨false, none⟩)) :: τ
def hitM (p q : List UInt8) : Bool := q != p && meetT q p
theorem make_ok (a b c d e : Nat) (fs : List Fil) (m : Mc) (p t : List UInt8) (run : Bool) (hm : m.left ≤ 100000) (ht : t.length ≤ 10000000) (hp : p.length ≤ 10000000) (hq : ∀ q ∈ ksP m.made, q.length ≤ 10000000) (τ : Heap) :
    CallOk cx 54 [.ptr 3 d 0, .str p, .str t, .bool run] (mcH a b c d e fs m τ) (fun o s => o = .ret (.tup []) ∧ s = mcH a b c d e fs (makeM p t run m) τ) :=
  mcH_tail τ (callOk_introT (fun a w => Tryz.call54 a w) Tryz.func54 rfl Tryz.ntmps54 rfl fun B => by
    refine pB [.s] rfl ?_
    refine S_stamp (id := 1) rfl (fun bs c0 hbl hbn hbc => ?_) ⟨.skip, _, .inr ⟨_, _, _, rfl⟩⟩
    have hbl : bs.length = (ksP m.made).length := by rw [hbl]; unfold mapF; rw [List.length_map]
    have hkl := ksP_nodup m.made
    refine pa [.f (.ptr 9 0 0) (fun _ => mcS a b c d e fs m (some (bs, c0)) (maB d p t run [(0, some (.miter 1 b c0 [] c0))]))] rfl ?_ ?_
    · (repeat' with_reducible apply AllP_cons) <;> try exact aC
      · exact OpSpec.mapN (C := [b = b]) rfl ⟨rfl, trivial⟩
    have hnat : ∀ sn : List Nat, sn.Nodup → (∀ x ∈ sn, x ∈ bs) → sn.length ≤ bs.length := fun sn h1 h2 => List.Nodup.length_le_of_subset h1 h2
    refine S_while (α := List Nat × Bool) (fun s => [(4, .ptr 5 0 0), (5, .ptr 6 0 0), (6, .ptr 7 0 0), (7, .ptr 8 0 0), (8, .bool s.2), (16, .ptr 9 0 0)]) (fun s => mcS a b c d e fs m (some (bs, c0)) (maB d p t run [(0, some (.miter 1 b c0 s.1 c0))]))
      (fun s => s.1.Nodup ∧ (∀ x ∈ s.1, x ∈ bs) ∧ (s.2 = true ↔ ∃ i, ∃ h : i < (ksP m.made).length, ∃ x ∈ s.1, bs[i]? = some x ∧ hitM p (ksP m.made)[i] = true)) (fun s => bs.length - s.1.length) ([], false)
      ⟨.nil, (fun x h => by cases h), Iff.intro (fun h => by cases h) (fun h => by obtain ⟨_, _, x, hx, _⟩ := h; cases hx)⟩ (.cons rfl (.cons rfl (.cons rfl (.cons rfl (.cons rfl (.cons rfl (.nil _))))))) rfl ?_
    rintro ⟨sn, bad⟩ ⟨hs1, hs2, hs3⟩
    refine pB [] rfl ?_
    refine S_mnext (id := 9) (ver := 0) (mid := 1) (mver := b) (since := c0) (last := c0) (c := c0) (seen := sn) (bs := bs) (kvs := mapF (ksP m.made) (vaP m.made)) rfl rfl rfl rfl (fun x hx => hbc x hx) (Nat.le_refl _) rfl rfl ?_ ?_
    · intro i bb hi hb hns
      have hi2 : i < (ksP m.made).length := by simpa [mapF] using hi
      have hkv : (mapF (ksP m.made) (vaP m.made))[i]? = some (.str (ksP m.made)[i], vaP m.made (ksP m.made)[i]) := by simp [mapF, List.getElem?_eq_getElem hi2]
      have hbm : bb ∈ bs := List.mem_of_getElem? hb
      have hn2 : (sn ++ [bb]).Nodup := List.nodup_append.2 ⟨hs1, by simp, fun x hx y hy => by simp at hy; subst hy; exact fun e => hns (e ▸ hx)⟩
      have hm2 : ∀ x ∈ sn ++ [bb], x ∈ bs := fun x hx => by
        rcases List.mem_append.1 hx with hx | hx
        · exact hs2 x hx
        · simp at hx; subst hx; exact hbm
      have hlen2 := hnat _ hn2 hm2
      rw [List.length_append] at hlen2
      have hlen2 : sn.length + 1 ≤ bs.length := hlen2
      have hnext : ∀ bad' : Bool, bad' = (bad || hitM p (ksP m.made)[i]) → (bad' = true ↔ ∃ j, ∃ h : j < (ksP m.made).length, ∃ x ∈ sn ++ [bb], bs[j]? = some x ∧ hitM p (ksP m.made)[j] = true) := by
        rintro bad' rfl
        rw [Bool.or_eq_true, hs3]
        constructor
        · rintro (⟨j, hj, x, hx, h1, h2⟩ | h)
          · exact ⟨j, hj, x, List.mem_append_left _ hx, h1, h2⟩
          · exact ⟨i, hi2, bb, List.mem_append_right _ (List.mem_singleton.2 rfl), hb, h⟩
        · rintro ⟨j, hj, x, hx, h1, h2⟩
          rcases List.mem_append.1 hx with hx | hx
          · exact .inl ⟨j, hj, x, hx, h1, h2⟩
          · right
            obtain rfl := List.mem_singleton.1 hx
            have hjb : j < bs.length := by rw [hbl]; exact hj
            have : j = i := (List.getElem_inj (h₀ := hjb) (h₁ := by rw [hbl]; exact hi2) hbn).1 (by
              have q1 := h1; have q2 := hb
              rw [List.getElem?_eq_getElem hjb] at q1
              rw [List.getElem?_eq_getElem (by rw [hbl]; exact hi2)] at q2
              exact (Option.some.inj q1).trans (Option.some.inj q2).symm)
            subst this
            exact h2
      have hql := hq _ (List.getElem_mem hi2)
      generalize hqq : (ksP m.made)[i] = q at *
      have hM := Meets_ok q p (by omega) (by omega)
      cases bad with
      | true =>
        refine pa [.b true, .v (.tup [.str q, vaP m.made q]), .b true] rfl ?_ ?_
        · (repeat' with_reducible apply AllP_cons) <;> try exact aC
          · exact OpSpec.entryG (id := 9) (ver := 0) (mid := 1) (mver := b) (since := c0) (c := c0) (i := i) (b := bb) (seen := sn) (bs := bs) rfl rfl rfl rfl hb hkv
        exact S_round (sn ++ [bb], true) (by show bs.length - (sn ++ [bb]).length < bs.length - sn.length; rw [List.length_append]; show bs.length - (sn.length + 1) < _; omega) ⟨hn2, hm2, hnext true (by simp)⟩ (.cons rfl (.cons rfl (.cons rfl (.cons rfl (.cons rfl (.cons rfl (.nil _))))))) rfl
      | false =>
        by_cases hqp : q = p
        · have hne : (q != p) = false := by simp [hqp]
          have hh : hitM p q = false := by unfold hitM; rw [hne]; rfl
          refine pa [.b true, .v (.tup [.str q, vaP m.made q]), .b false, .b false] rfl ?_ ?_
          · (repeat' with_reducible apply AllP_cons) <;> try exact aC
            · exact OpSpec.entryG (id := 9) (ver := 0) (mid := 1) (mver := b) (since := c0) (c := c0) (i := i) (b := bb) (seen := sn) (bs := bs) rfl rfl rfl rfl hb hkv
          exact S_round (sn ++ [bb], false) (by show bs.length - (sn ++ [bb]).length < bs.length - sn.length; rw [List.length_append]; show bs.length - (sn.length + 1) < _; omega) ⟨hn2, hm2, hnext false (by rw [hh]; rfl)⟩ (.cons rfl (.cons rfl (.cons rfl (.cons rfl (.cons rfl (.cons rfl (.nil _))))))) rfl
        · have hne : (q != p) = true := by simpa using hqp
          have hh : hitM p q = meetT q p := by unfold hitM; rw [hne]; rfl
          refine pa [.b true, .v (.tup [.str q, vaP m.made q]), .b false, .b true, .v (.bool (meetT q p))] rfl ?_ ?_
          · (repeat' with_reducible apply AllP_cons) <;> try exact aC
            · exact OpSpec.entryG (id := 9) (ver := 0) (mid := 1) (mver := b) (since := c0) (c := c0) (i := i) (b := bb) (seen := sn) (bs := bs) rfl rfl rfl rfl hb hkv
            · exact ⟨_, hM, .cons (.refl .str) (.cons (.refl .str) (.nil _))⟩
          exact S_round (sn ++ [bb], meetT q p) (by show bs.length - (sn ++ [bb]).length < bs.length - sn.length; rw [List.length_append]; show bs.length - (sn.length + 1) < _; omega) ⟨hn2, hm2, hnext _ (by rw [hh]; rfl)⟩ (.cons rfl (.cons rfl (.cons rfl (.cons rfl (.cons rfl (.cons rfl (.nil _))))))) rfl
    · intro hall
      have hbad : bad = badM p m.made := by
        have : (bad = true) ↔ badM p m.made = true := by
          rw [hs3]
          unfold badM
          rw [List.any_eq_true]
          constructor
          · rintro ⟨i, hi, x, _, _, h⟩
            exact ⟨_, List.getElem_mem hi, h⟩
          · rintro ⟨q, hq1, h⟩
            obtain ⟨i, hi, rfl⟩ := List.getElem_of_mem hq1
            have hib : i < bs.length := by rw [hbl]; exact hi
            exact ⟨i, hi, bs[i], hall _ (List.getElem_mem hib), List.getElem?_eq_getElem hib, h⟩
        exact Bool.eq_iff_iff.2 this
      refine S_unstamp (id := 1) rfl ?_ ⟨.skip, _, .inr ⟨_, _, _, rfl⟩⟩
      refine S_drop (id := 9) rfl ?_ ⟨.skip, _, .inr ⟨_, _, _, rfl⟩⟩
      rw [hbad]
      refine S_heap (mcH a b c d e fs m (maB d p t run [(0, none)])) rfl ?_
      refine pB [.b false] rfl ?_
      have hlk : ∀ {n : Nat} {fr : Fr} {σ : Heap} {o : Oper} {mo key : Operand}, o.op = .lookup 51 mo key true → ev cx fr mo = .map 1 b → ev cx fr key = .str p → σ[1]? = some (b, mapBx (ksP m.made) (vaP m.made)) →
          OpSpec cx n fr σ o (.tup [filA (if p ∈ ksP m.made then lastF m.made p else ⟨[], [], false⟩), .bool (decide (p ∈ ksP m.made))]) σ := by
        intro n fr σ o mo key h1 h2 h3 h4
        refine OpSpec.mget (kt := 9) (et := 38) (ks := ksP m.made) (val := vaP m.made) (z := filA ⟨[], [], false⟩) (s := p) h1 (Tryz.underlying51) rfl h2 h3 h4 rfl ?_
        split <;> rfl
      obtain ⟨g, hg⟩ : ∃ g, g = if p ∈ ksP m.made then lastF m.made p else ⟨[], [], false⟩ := ⟨_, rfl⟩
      rw [← hg] at hlk
      refine S_drawC2 (mcH a b c d e fs m (maB d p t run [filBx 1 ⟨[], [], false⟩])) (mcH a b c d e fs m (maB d p t run [filBx 1 g])) 9 10 12 [] [.tup [filA g, .bool (decide (p ∈ ksP m.made))], .ptr 9 1 0, .tup []] rfl rfl rfl rfl rfl rfl rfl ?_ ?_
      · (repeat' with_reducible apply AllP_cons) <;> try exact aC
        all_goals first | exact hlk rfl rfl rfl rfl | exact OpSpec.aop rfl (by (repeat' with_reducible apply AllP_cons) <;> try exact aC)
      have hT := trip_ok a b c d e fs m 103 hm (maB d p t run [filBx 1 g])
      have hK := keep_ok a b c d e fs m t 87 [.ptr 6 0 0, .ptr 7 0 0, .ptr 8 0 0, .ptr 5 0 0] (fun m => { m with made := m.made ++ [⟨p, t, run⟩] }) (maB d p t run [filBx 1 g]) hm ht (make1_ok a b c d e fs _ p t run g)
      unfold makeM
      cases hb : badM p m.made with
      | true =>
        rw [if_pos (.inl rfl)]
        refine pB [.b true, .b true, .f (.tup []) (fun _ => mcH a b c d e fs (tripM 103 m) (maB d p t run [filBx 1 g]))] rfl ?_
        exact S_ret ⟨_, _, rfl, trivial, endT⟩
      | false =>
        by_cases hin : p ∈ ksP m.made
        · rw [if_neg (by rintro (h | h); cases h; exact h.1 hin), decide_eq_true hin]
          refine pB [.b false, .b false, .b false, .f (.tup []) (fun _ => mcH a b c d e fs (keepM t (fun m => { m with made := m.made ++ [⟨p, t, run⟩] }) m) (maB d p t run [filBx 1 g]))] rfl ?_
          exact S_nil ⟨_, _, rfl, trivial, endT⟩
        · rw [decide_eq_false hin]
          have hmf : (mapF (ksP m.made) (vaP m.made)).length = (ksP m.made).length := by unfold mapF; rw [List.length_map]
          by_cases h60 : (ksP m.made).length = 60
          · rw [if_pos (.inr ⟨hin, h60⟩)]
            refine pB [.b false, .b true, .b true, .f (.tup []) (fun _ => mcH a b c d e fs (tripM 103 m) (maB d p t run [filBx 1 g]))] rfl ?_
            exact S_ret ⟨_, _, rfl, trivial, endT⟩
          · rw [if_neg (by rintro (h | h); cases h; exact h60 h.2)]
            refine pB [.b false, .b true, .b false, .f (.tup []) (fun _ => mcH a b c d e fs (keepM t (fun m => { m with made := m.made ++ [⟨p, t, run⟩] }) m) (maB d p t run [filBx 1 g]))] rfl ?_
            exact S_nil ⟨_, _, rfl, trivial, endT⟩) (by intro x hx; simp at hx; rcases hx with rfl | rfl | rfl; exact .str; exact .str; exact .bool) (.tup (by simp))
theorem st8_ok (fs : List Fil) (p r : List UInt8) (ns : List Nat) (hp : p.length ≤ 10000000) : ∀ (a b c d e : Nat) (m : Mc) (τ : Heap), McOk m → (∀ q ∈ ksP m.made, q.length ≤ 10000000) →
    CallOk cx 53 [.ptr 3 d 0, lnA ⟨kMake, [p, r], ns⟩] (mcH a b c d e fs m τ) (fun o s => o = .ret (.tup []) ∧ s = mcH a b c d e fs (makeM p (m.regs r) false m) τ) := fun a b c d e m τ hm hq =>
  mcH_tail τ (callOk_introT (fun a w => Tryz.call53 a w) Tryz.func53 rfl Tryz.ntmps53 rfl fun B => by
    have hl := hm.len r
    have h := make_ok a b c d e fs m p (m.regs r) false hm.left (by omega) hp hq [lnB ⟨kMake, [p, r], ns⟩]
    refine pa [.v (.str p), .v (.str r), .v (.str (m.regs r)), .f (.tup []) (fun _ => mcH a b c d e fs (makeM p (m.regs r) false m) [lnB ⟨kMake, [p, r], ns⟩])] rfl ?_ ?_
    · (repeat' with_reducible apply AllP_cons) <;> try exact aC
      all_goals first | exact get_reg hm.reg rfl rfl rfl rfl | skip
    exact S_nil ⟨_, _, rfl, trivial, endT⟩) (by intro y hy; simp at hy; subst hy; exact lnA_free _) (.tup (by simp))
theorem st9_ok (fs : List Fil) (p r : List UInt8) (ns : List Nat) (hp : p.length ≤ 10000000) : ∀ (a b c d e : Nat) (m : Mc) (τ : Heap), McOk m → (∀ q ∈ ksP m.made, q.length ≤ 10000000) →
    CallOk cx 55 [.ptr 3 d 0, lnA ⟨kRun, [p, r], ns⟩] (mcH a b c d e fs m τ) (fun o s => o = .ret (.tup []) ∧ s = mcH a b c d e fs (makeM p (m.regs r) true m) τ) := fun a b c d e m τ hm hq =>
  mcH_tail τ (callOk_introT (fun a w => Tryz.call55 a w) Tryz.func55 rfl Tryz.ntmps55 rfl fun B => by
    have hl := hm.len r
    have h := make_ok a b c d e fs m p (m.regs r) true hm.left (by omega) hp hq [lnB ⟨kRun, [p, r], ns⟩]
    refine pa [.v (.str p), .v (.str r), .v (.str (m.regs r)), .f (.tup []) (fun _ => mcH a b c d e fs (makeM p (m.regs r) true m) [lnB ⟨kRun, [p, r], ns⟩])] rfl ?_ ?_
    · (repeat' with_reducible apply AllP_cons) <;> try exact aC
      all_goals first | exact get_reg hm.reg rfl rfl rfl rfl | skip
    exact S_nil ⟨_, _, rfl, trivial, endT⟩) (by intro y hy; simp at hy; subst hy; exact lnA_free _) (.tup (by simp))
end Go.Proofs.YtgmakmfdjhgjlaaGreatDoor
end
section
set_option linter.unusedVariables false
set_option linter.unusedSimpArgs false
set_option maxRecDepth 20000
set_option maxHeartbeats 4000000
namespace Go.Proofs.YtgmakmfdjhgjlaaGreatDoor
open Go Go.Ab
theorem regB_c (c : UInt8) : regB [c] = (decide (97 ≤ c.toNat) && decide (c.toNat ≤ 104)) := by
  unfold regB
  simp only [UInt8.le_iff_toNat_le]
  rfl
theorem isRegister_ok (s : List UInt8) (hs : s.length ≤ 1000000000) : Calc cx 76 [.str s] (.bool (regB s)) :=
  pure_intro (fun a w => Tryz.call76 a w) Tryz.func76 rfl Tryz.ntmps76 rfl .bool fun B => by
    match s, hs with
    | [], _ =>
      refine pB [.b false, .b false] rfl ?_
      exact S_retc .bool rfl trivial rfl
    | c :: c2 :: r, _ =>
      have e1 : ((((c :: c2 :: r).length : Nat) : Int) == 1) = false := by simp; omega
      refine pB [.b false, .b false] rfl ?_
      exact S_retc .bool rfl trivial rfl
    | [c], _ =>
      rw [regB_c]
      by_cases h1 : 97 ≤ c.toNat
      · rw [decide_eq_true h1]
        by_cases h2 : c.toNat ≤ 104
        · rw [decide_eq_true h2]
          refine pa [.b true, .b true] rfl ?_ ?_
          · (repeat' with_reducible apply AllP_cons) <;> try exact aC
            exact decide_eq_true (show (c.toNat : Int) ≥ 97 by omega)
          refine S_retc .bool rfl trivial ?_
          show AV.bool (decide ((c.toNat : Int) ≤ 104)) = _
          rw [decide_eq_true (by omega)]; rfl
        · rw [decide_eq_false h2]
          refine pa [.b true, .b true] rfl ?_ ?_
          · (repeat' with_reducible apply AllP_cons) <;> try exact aC
            exact decide_eq_true (show (c.toNat : Int) ≥ 97 by omega)
          refine S_retc .bool rfl trivial ?_
          show AV.bool (decide ((c.toNat : Int) ≤ 104)) = _
          rw [decide_eq_false (by omega)]; rfl
      · rw [decide_eq_false h1]
        refine pa [.b true, .b false] rfl ?_ ?_
        · (repeat' with_reducible apply AllP_cons) <;> try exact aC
          exact decide_eq_false (show ¬ (c.toNat : Int) ≥ 97 by omega)
        exact S_retc .bool rfl trivial rfl
def numB (s : List UInt8) : Bool := s.all digB && (s != []) && decide (s.length ≤ 6) && !(decide (1 < s.length) && s.head? == some 48)
def numV (s : List UInt8) : Nat := if numB s then valN s else 0
theorem numB_iff (s : List UInt8) : numB s = true ↔ s.all digB = true ∧ s ≠ [] ∧ s.length ≤ 6 ∧ ¬ (1 < s.length ∧ s.head? = some 48) := by
  unfold numB
  simp only [Bool.and_eq_true, bne_iff_ne, decide_eq_true_eq, Bool.not_eq_true', Bool.and_eq_false_iff, decide_eq_false_iff_not, beq_eq_false_iff_ne, ne_eq]
  constructor
  · rintro ⟨⟨⟨a, b⟩, c⟩, d⟩
    exact ⟨a, b, c, fun ⟨e, f⟩ => d.elim (fun h => h e) (fun h => h f)⟩
  · rintro ⟨a, b, c, d⟩
    refine ⟨⟨⟨a, b⟩, c⟩, ?_⟩
    by_cases h : 1 < s.length
    · exact .inr fun e => d ⟨h, e⟩
    · exact .inl h
theorem numT_eq (s : List UInt8) (most : Nat) : numT s most = if numB s = true ∧ numV s ≤ most then some (numV s) else none := by
  unfold numT numV
  by_cases h : numB s = true
  · have h' := (numB_iff s).1 h
    simp only [h, if_true, true_and]
    by_cases hm : valN s ≤ most
    · rw [if_pos ⟨h'.1, h'.2.1, h'.2.2.1, h'.2.2.2, hm⟩, if_pos hm]
    · rw [if_neg (fun x => hm x.2.2.2.2), if_neg hm]
  · rw [if_neg (fun x => h ((numB_iff s).2 ⟨x.1, x.2.1, x.2.2.1, x.2.2.2.1⟩)), if_neg (fun x => h x.1)]
theorem valN_snoc (s : List UInt8) (c : UInt8) : valN (s ++ [c]) = 10 * valN s + (c.toNat - 48) := by
  unfold valN; rw [List.foldl_append]; rfl
theorem digB_iff (c : UInt8) : digB c = true ↔ 48 ≤ c.toNat ∧ c.toNat ≤ 57 := by
  unfold digB
  simp only [UInt8.le_iff_toNat_le, Bool.and_eq_true, decide_eq_true_eq]
  rfl
theorem valN_lt : ∀ (n : Nat) (s : List UInt8), s.length = n → s.all digB = true → valN s < 10 ^ n
  | 0, s, h, _ => by
    have : s = [] := List.length_eq_zero_iff.1 h
    subst this; decide
  | n + 1, s, h, hd => by
    have hne : s ≠ [] := by rintro rfl; simp at h
    obtain ⟨r, c, rfl⟩ : ∃ r c, s = r ++ [c] := ⟨s.dropLast, s.getLast hne, (List.dropLast_concat_getLast hne).symm⟩
    rw [List.all_append, Bool.and_eq_true] at hd
    have h1 := valN_lt n r (by simpa using h) hd.1
    have h2 := (digB_iff c).1 (by simpa using hd.2)
    rw [valN_snoc, Nat.pow_succ]
    omega
theorem valN_len {s : List UInt8} (h : s.all digB = true) (hl : s.length ≤ 6) : valN s < 1000000 :=
  Nat.lt_of_lt_of_le (valN_lt _ s rfl h) (Nat.pow_le_pow_right (n := 10) (by omega) hl)
theorem atoiI_ok (s : List UInt8) (h0 : s ≠ []) (hl : s.length ≤ 6) (hd : s.all digB = true) : Calc cx 123 [.str s] (.tup [.int .i64 (valN s : Nat), .nili]) :=
  pure_intro (fun a w => Tryz.call123 a w) Tryz.func123 rfl Tryz.ntmps123 rfl (.tup (by intro x hx; simp at hx; rcases hx with rfl | rfl; exact .int; exact .nili)) fun B => by
    have hpos : 0 < s.length := List.length_pos_iff.2 h0
    have hat : ∀ i (h : i < s.length), 48 ≤ s[i].toNat ∧ s[i].toNat ≤ 57 := fun i h => (digB_iff _).1 (List.all_eq_true.1 hd _ (List.getElem_mem h))
    have hc0 := hat 0 hpos
    have hg0 : s.getD (Int.toNat 0) 0 = s[0] := by show s.getD 0 0 = _; simp [List.getD, List.getElem?_eq_getElem hpos]
    refine pa [.b false, .b false, .b true, .b true, .b true, .b false, .b false] rfl ?_ ?_
    · (repeat' with_reducible apply AllP_cons) <;> try exact aC
      all_goals rw [hg0]
      · simpa using (show ¬ ((s[0].toNat : Nat) : Int) = 45 by omega)
      · simpa using (show ¬ ((s[0].toNat : Nat) : Int) = 43 by omega)
    refine S_while (α := Nat) (fun i => [(0, .str s), (5, .str s), (6, .int .i64 (valN (s.take i) : Nat)), (47, .sl true false 1 (s.map byteAV)), (48, .int .i64 (((s.map byteAV).length : Nat) : Int)), (49, .int .i64 (i : Nat))]) (fun _ => []) (fun i => i ≤ s.length) (fun i => s.length - i) 0
      (Nat.zero_le _) (.cons rfl (.cons rfl (.cons rfl (.cons rfl (.cons rfl (.cons rfl (.nil _))))))) rfl ?_
    intro i hi
    have hi : i ≤ s.length := hi
    have hml : (s.map byteAV).length = s.length := List.length_map ..
    have hvi : valN (s.take i) < 1000000 := valN_len (by
      rw [List.all_eq_true]; intro x hx; exact List.all_eq_true.1 hd _ (List.mem_of_mem_take hx)) (by rw [List.length_take]; omega)
    by_cases hlt : i < s.length
    · have e1 : decide ((i : Int) < (((s.map byteAV).length : Nat) : Int)) = true := decide_eq_true (by omega)
      have g1 : (s.map byteAV)[(i : Int).toNat]? = some (byteAV s[i]) := by rw [Int.toNat_natCast]; simp [List.getElem?_eq_getElem hlt]
      have hci := hat i hlt
      have hw : IntKind.u8.wrap (((s[i].toNat : Nat) : Int) - 48) = ((s[i].toNat - 48 : Nat) : Int) := by
        rw [IntWalk.u8_in _ ⟨by omega, by omega⟩]; omega
      have e2 : decide (IntKind.u8.wrap (((s[i].toNat : Nat) : Int) - 48) > 9) = false := by rw [hw]; exact decide_eq_false (by omega)
      refine pB [.b true, .v (byteAV s[i]), .b false] rfl ?_
      have hv : valN (s.take (i + 1)) = 10 * valN (s.take i) + (s[i].toNat - 48) := by rw [List.take_succ_eq_append_getElem hlt, valN_snoc]
      refine S_round (i + 1) (by show s.length - (i + 1) < s.length - i; omega) hlt (.cons rfl (.cons rfl (.cons ?_ (.cons rfl (.cons rfl (.cons (nX (by omega)) (.nil _))))))) rfl
      show AV.int .i64 (IntKind.i64.wrap (IntKind.i64.wrap (((valN (s.take i) : Nat) : Int) * 10) + IntKind.i64.wrap (IntKind.u8.wrap (((s[i].toNat : Nat) : Int) - 48)))) = _
      rw [hw, IntWalk.i64_in (((valN (s.take i) : Nat) : Int) * 10) ⟨by omega, by omega⟩, IntWalk.i64_in ((s[i].toNat - 48 : Nat) : Int) ⟨by omega, by omega⟩, IntWalk.i64_in _ ⟨by omega, by omega⟩, hv]
      congr 1; omega
    · have e1 : decide ((i : Int) < (((s.map byteAV).length : Nat) : Int)) = false := decide_eq_false (by omega)
      obtain rfl : i = s.length := by omega
      rw [List.take_length]
      refine pa [.b false, .b false] rfl ?_ ?_
      · (repeat' with_reducible apply AllP_cons) <;> try exact aC
        rw [hg0]
        simpa using (show ¬ ((s[0].toNat : Nat) : Int) = 45 by omega)
      exact S_retc (.tup (by intro x hx; simp at hx; rcases hx with rfl | rfl; exact .int; exact .nili)) rfl trivial rfl
theorem Atoi_ok (s : List UInt8) (h0 : s ≠ []) (hl : s.length ≤ 6) (hd : s.all digB = true) : Calc cx 102 [.str s] (.tup [.int .i64 (valN s : Nat), .nili]) :=
  pure_intro (fun a w => Tryz.call102 a w) Tryz.func102 rfl Tryz.ntmps102 rfl (.tup (by intro x hx; simp at hx; rcases hx with rfl | rfl; exact .int; exact .nili)) fun B => by
    have h := atoiI_ok s h0 hl hd
    refine pa [.v (.tup [.int .i64 (valN s : Nat), .nili]), .b false] rfl ?_ ?_
    · (repeat' with_reducible apply AllP_cons) <;> try exact aC
      · exact ⟨_, h, .cons (.refl .str) (.nil _)⟩
    exact S_retc (.tup (by intro x hx; simp at hx; rcases hx with rfl | rfl; exact .int; exact .nili)) rfl trivial rfl
def nmrAV (s : List UInt8) (most : Int) : AV := .tup [.int .i64 (numV s : Nat), .bool (numB s && decide (((numV s : Nat) : Int) ≤ most))]
theorem nmrAV_free (s : List UInt8) (most : Int) : Free true (nmrAV s most) := .tup (by intro x hx; simp at hx; rcases hx with rfl | rfl; exact .int; exact .bool)
theorem nmbr_ok (s : List UInt8) (most : Int) (hs : s.length ≤ 1000000000) : Calc cx 77 [.str s, .int .i64 most] (nmrAV s most) :=
  pure_intro (fun a w => Tryz.call77 a w) Tryz.func77 rfl Tryz.ntmps77 rfl (nmrAV_free s most) fun B => by
    have hno : numB s = false → AV.tup [.int .i64 0, .bool false] = nmrAV s most := fun h => by unfold nmrAV numV; rw [h]; rfl
    refine pB [] rfl ?_
    refine S_while (α := Nat) (fun i => [(0, .str s), (1, .int .i64 most), (11, .ptr 0 0 0)]) (fun i => [(0, some (.siter s i))]) (fun i => i ≤ s.length ∧ (s.take i).all digB = true) (fun i => s.length - i) 0
      ⟨Nat.zero_le _, rfl⟩ (.cons rfl (.cons rfl (.cons rfl (.nil _)))) rfl ?_
    rintro i ⟨hi, hN⟩
    have hi : i ≤ s.length := hi
    refine pB [] rfl ?_
    refine S_next rfl rfl rfl rfl rfl (fun hil => ?_) (fun hge => ?_)
    · obtain ⟨r, wd, hrw, hdg, hwd⟩ : ∃ (r wd : Nat), decL s i = (r, wd) ∧ (digB s[i] = true ↔ 48 ≤ r ∧ r ≤ 57) ∧ (digB s[i] = true → wd = 1) := by
        by_cases hc : s[i].toNat < 128
        · exact ⟨_, _, decL_lt hil hc, digB_iff _, fun _ => rfl⟩
        · have h1 := decL_ge hil (by omega)
          have h2 : ¬ digB s[i] = true := fun h => by have := (digB_iff _).1 h; omega
          obtain ⟨q1, q2, hq⟩ : ∃ a b, decL s i = (a, b) := ⟨_, _, rfl⟩
          rw [hq] at h1
          have h1 : 128 ≤ q1 := h1
          exact ⟨q1, q2, hq, ⟨fun h => absurd h h2, fun h => by omega⟩, fun h => absurd h h2⟩
      rw [hrw]
      by_cases hd : digB s[i] = true
      · have hr := hdg.1 hd
        obtain rfl := hwd hd
        refine pB [.b true, .b false, .b false] rfl ?_
        exact S_round (i + 1) (by show s.length - (i + 1) < s.length - i; omega) ⟨hil, takeN hil hN hd⟩ (.cons rfl (.cons rfl (.cons rfl (.nil _)))) rfl
      · have hnb : numB s = false := by
          cases hb : numB s with
          | false => rfl
          | true => exact absurd (List.all_eq_true.1 ((numB_iff s).1 hb).1 _ (List.getElem_mem hil)) hd
        rw [← hno hnb]
        have hf : Free true (AV.tup [.int .i64 0, .bool false]) := .tup (by intro x hx; simp at hx; rcases hx with rfl | rfl; exact .int; exact .bool)
        by_cases h48 : r < 48
        · refine pB [.b true, .b true, .b true] rfl ?_
          exact S_retc hf rfl trivial rfl
        · have h57 : 57 < r := by
            rcases Nat.lt_or_ge 57 r with h | h
            · exact h
            · exact absurd (hdg.2 ⟨by omega, h⟩) hd
          refine pB [.b true, .b false, .b true] rfl ?_
          exact S_retc hf rfl trivial rfl
    · have hall : s.all digB = true := by rw [List.take_of_length_le (by omega)] at hN; exact hN
      have hf : Free true (AV.tup [.int .i64 0, .bool false]) := .tup (by intro x hx; simp at hx; rcases hx with rfl | rfl; exact .int; exact .bool)
      by_cases h0 : s = []
      · subst h0
        rw [← hno rfl]
        refine pB [.b false, .b true, .b true, .b true] rfl ?_
        exact S_retc hf rfl trivial rfl
      have hse : (s == []) = false := by simpa using h0
      have hpos : 0 < s.length := List.length_pos_iff.2 h0
      by_cases h6 : 6 < s.length
      · have hnb : numB s = false := by
          cases hb : numB s with
          | false => rfl
          | true => have := ((numB_iff s).1 hb).2.2.1; omega
        rw [← hno hnb]
        refine pB [.b false, .b false, .b true, .b true] rfl ?_
        exact S_retc hf rfl trivial rfl
      have hg0 : s.getD (Int.toNat 0) 0 = s[0] := by show s.getD 0 0 = _; simp [List.getD, List.getElem?_eq_getElem hpos]
      have hhd : s.head? = some s[0] := by rw [List.head?_eq_getElem?, List.getElem?_eq_getElem hpos]
      have go : numB s = true → ∀ (K : List Ht), AV.tup [.int .i64 ((valN s : Nat) : Int), .bool (decide (((valN s : Nat) : Int) ≤ most))] = nmrAV s most := fun h K => by
        unfold nmrAV numV; rw [h, if_pos rfl, Bool.true_and]
      have hA := Atoi_ok s h0 (by omega) hall
      by_cases h1 : 1 < s.length
      · by_cases hz : s[0] = 48
        · have hnb : numB s = false := by
            cases hb : numB s with
            | false => rfl
            | true => exact absurd ⟨h1, by rw [hhd, hz]⟩ ((numB_iff s).1 hb).2.2.2
          rw [← hno hnb]
          refine pa [.b false, .b false, .b false, .b true, .b true] rfl ?_ ?_
          · (repeat' with_reducible apply AllP_cons) <;> try exact aC
            all_goals first | (rw [hg0, hz]; rfl) | skip
          exact S_retc hf rfl trivial rfl
        · have hnb : numB s = true := (numB_iff s).2 ⟨hall, h0, by omega, fun h => hz (by have := h.2; rw [hhd] at this; exact Option.some.inj this)⟩
          have hz' : ((((s.getD (Int.toNat 0) 0).toNat : Nat) : Int) == 48) = false := by
            rw [hg0]
            have : ¬ s[0].toNat = 48 := fun h => hz (UInt8.toNat_inj.1 h)
            simpa using (show ¬ ((s[0].toNat : Nat) : Int) = 48 by omega)
          refine pa [.b false, .b false, .b false, .b true, .b false, .v (.tup [.int .i64 (valN s : Nat), .nili])] rfl ?_ ?_
          · (repeat' with_reducible apply AllP_cons) <;> try exact aC
            all_goals first | exact hz' | exact ⟨_, hA, .cons (.refl .str) (.nil _)⟩
          exact S_retc (nmrAV_free s most) rfl trivial (go hnb [])
      · have hnb : numB s = true := (numB_iff s).2 ⟨hall, h0, by omega, fun h => h1 h.1⟩
        refine pa [.b false, .b false, .b false, .b false, .b false, .v (.tup [.int .i64 (valN s : Nat), .nili])] rfl ?_ ?_
        · (repeat' with_reducible apply AllP_cons) <;> try exact aC
          all_goals first | exact ⟨_, hA, .cons (.refl .str) (.nil _)⟩
        exact S_retc (nmrAV_free s most) rfl trivial (go hnb [])
end Go.Proofs.YtgmakmfdjhgjlaaGreatDoor
end
section
set_option linter.unusedVariables false
set_option linter.unusedSimpArgs false
namespace Go.Ab
open Go
section
variable {cx : Cx} {n : Nat} {B : Bs} {k : List AI} {Q : Post} {fr : Fr} {σ : Heap}
theorem OpSpec.insert {o : Oper} {t : TypeId} {m key x : Operand} {v : AV} {σ' : Heap} (ho : o.op = .insert t m key x) (h : OpSpec cx n fr σ { o with op := .mapUpdate t m key x } v σ') : OpSpec cx n fr σ o v σ' := by
  intro r a w hi hf
  have h1 := h r a w hi hf
  have : execOp a.eval o = execOp a.eval { o with op := .mapUpdate t m key x } := by
    obtain ⟨d, op, ty, ps, af, g⟩ := o
    simp only at ho
    subst ho
    rfl
  rw [this]
  exact h1
theorem OpSpec.insertN {o : Oper} {t : TypeId} {m key x : Operand} {σ' : Heap} {C : List Prop} (ho : o.op = .insert t m key x) (h : mapA cx fr σ (.mapUpdate t m key x) none = some (C, .tup [], σ')) (hC : AllP C) : OpSpec cx n fr σ o (.tup []) σ' :=
  OpSpec.insert ho (OpSpec.map none h hC)
end
end Go.Ab
end
section
set_option linter.unusedVariables false
set_option linter.unusedSimpArgs false
set_option maxRecDepth 20000
set_option maxHeartbeats 4000000
namespace Go.Proofs.YtgmakmfdjhgjlaaGreatDoor
open Go Go.Ab
def fmKV : List (AV × AV) := formL.map fun p => (.str p.1, .str p.2)
def stKV : List (AV × AV) := [(.str kSet, .func (.func 41) [] []), (.str kRead, .func (.func 43) [] []), (.str kList, .func (.func 45) [] []), (.str kJoin, .func (.func 47) [] []), (.str kCut, .func (.func 48) [] []), (.str kSize, .func (.func 49) [] []), (.str kSum, .func (.func 51) [] []), (.str kMake, .func (.func 53) [] []), (.str kRun, .func (.func 55) [] []), (.str kSame, .func (.func 56) [] []), (.str kLess, .func (.func 58) [] []), (.str kGoto, .func (.func 59) [] []), (.str kExit, .func (.func 60) [] [])]
theorem steps_ok (a b c d e : Nat) (fs : List Fil) (m : Mc) (bv : Nat) (bx : Box) (v : Nat) :
    CallOk cx 25 [] (mcH a b c d e fs m [(bv, some bx), (v, none)]) (fun o s => o = .ret (.map 6 (v + 1)) ∧ s = mcH a b c d e fs m [(bv, some bx), (v + 1, some (.map stKV none))]) :=
  callOk_intro (fun a w => Tryz.call25 a w) Tryz.func25 rfl Tryz.ntmps25 rfl fun B => by
    refine pa [.f (.map 6 (v + 1)) (fun _ => mcH a b c d e fs m [(bv, some bx), (v + 1, some (.map [] (some ([], 0))))]), .s] rfl ?_ ?_
    · (repeat' with_reducible apply AllP_cons) <;> try exact aC
      · exact OpSpec.mapN (C := []) rfl trivial
    refine S_unstamp (id := 6) rfl ?_ ⟨.skip, _, .inr ⟨_, _, _, rfl⟩⟩
    refine pa [.f (.tup []) (fun _ => mcH a b c d e fs m [(bv, some bx), (v + 1, some (.map (stKV.take 1) none))]), .f (.tup []) (fun _ => mcH a b c d e fs m [(bv, some bx), (v + 1, some (.map (stKV.take 2) none))]), .f (.tup []) (fun _ => mcH a b c d e fs m [(bv, some bx), (v + 1, some (.map (stKV.take 3) none))]), .f (.tup []) (fun _ => mcH a b c d e fs m [(bv, some bx), (v + 1, some (.map (stKV.take 4) none))]), .f (.tup []) (fun _ => mcH a b c d e fs m [(bv, some bx), (v + 1, some (.map (stKV.take 5) none))]), .f (.tup []) (fun _ => mcH a b c d e fs m [(bv, some bx), (v + 1, some (.map (stKV.take 6) none))]), .f (.tup []) (fun _ => mcH a b c d e fs m [(bv, some bx), (v + 1, some (.map (stKV.take 7) none))]), .f (.tup []) (fun _ => mcH a b c d e fs m [(bv, some bx), (v + 1, some (.map (stKV.take 8) none))]), .f (.tup []) (fun _ => mcH a b c d e fs m [(bv, some bx), (v + 1, some (.map (stKV.take 9) none))]), .f (.tup []) (fun _ => mcH a b c d e fs m [(bv, some bx), (v + 1, some (.map (stKV.take 10) none))]), .f (.tup []) (fun _ => mcH a b c d e fs m [(bv, some bx), (v + 1, some (.map (stKV.take 11) none))]), .f (.tup []) (fun _ => mcH a b c d e fs m [(bv, some bx), (v + 1, some (.map (stKV.take 12) none))]), .f (.tup []) (fun _ => mcH a b c d e fs m [(bv, some bx), (v + 1, some (.map (stKV.take 13) none))])] rfl ?_ ?_
    · (repeat' with_reducible apply AllP_cons) <;> try exact aC
      all_goals exact OpSpec.insertN (C := [v + 1 = v + 1, _]) rfl rfl ⟨rfl, rfl, trivial⟩
    exact S_ret ⟨_, _, rfl, trivial, rfl, rfl⟩
end Go.Proofs.YtgmakmfdjhgjlaaGreatDoor
end
section
set_option linter.unusedVariables false
set_option linter.unusedSimpArgs false
set_option maxRecDepth 20000
set_option maxHeartbeats 4000000
namespace Go.Proofs.YtgmakmfdjhgjlaaGreatDoor
open Go Go.Ab
def fmKs : List (List UInt8) := formL.map Prod.fst
def fmV (k : List UInt8) : List UInt8 := (formT' k).getD []
theorem fmKV_eq : fmKV = mapF fmKs (fun k => .str (fmV k)) := by
  unfold fmKV fmKs mapF
  rw [List.map_map]
  refine List.map_congr_left fun p hp => ?_
  have : formL.all (fun p => decide (fmV p.1 = p.2)) = true := by decide
  have := of_decide_eq_true (List.all_eq_true.1 this p hp)
  simp [this]
theorem fm_mem (k : List UInt8) : decide (k ∈ fmKs) = (formT' k).isSome := by
  unfold formT' fmKs
  rw [Option.isSome_map, Bool.eq_iff_iff, decide_eq_true_eq, List.find?_isSome, List.mem_map]
  simp
theorem fm_no {k : List UInt8} (h : k ∉ fmKs) : fmV k = [] := by
  have := fm_mem k
  rw [decide_eq_false h] at this
  unfold fmV
  cases hq : formT' k with
  | none => rfl
  | some f => rw [hq] at this; cases this
theorem forms_ok (rv : Nat) (bx : Box) :
    CallOk cx 75 [] [(rv, some bx)] (fun o s => o = .ret (.map 1 0) ∧ s = [(rv, some bx), (0, some (.map (mapF fmKs fun k => .str (fmV k)) none))]) :=
  callOk_intro (fun a w => Tryz.call75 a w) Tryz.func75 rfl Tryz.ntmps75 rfl fun B => by
    rw [← fmKV_eq]
    refine pa [.f (.map 1 0) (fun _ => [(rv, some bx), (0, some (.map [] (some ([], 0))))]), .s] rfl ?_ ?_
    · (repeat' with_reducible apply AllP_cons) <;> try exact aC
      · exact OpSpec.mapN (C := []) rfl trivial
    refine S_unstamp (id := 1) rfl ?_ ⟨.skip, _, .inr ⟨_, _, _, rfl⟩⟩
    refine pa [.f (.tup []) (fun _ => [(rv, some bx), (0, some (.map (fmKV.take 1) none))]), .f (.tup []) (fun _ => [(rv, some bx), (0, some (.map (fmKV.take 2) none))]), .f (.tup []) (fun _ => [(rv, some bx), (0, some (.map (fmKV.take 3) none))]), .f (.tup []) (fun _ => [(rv, some bx), (0, some (.map (fmKV.take 4) none))]), .f (.tup []) (fun _ => [(rv, some bx), (0, some (.map (fmKV.take 5) none))]), .f (.tup []) (fun _ => [(rv, some bx), (0, some (.map (fmKV.take 6) none))]), .f (.tup []) (fun _ => [(rv, some bx), (0, some (.map (fmKV.take 7) none))]), .f (.tup []) (fun _ => [(rv, some bx), (0, some (.map (fmKV.take 8) none))]), .f (.tup []) (fun _ => [(rv, some bx), (0, some (.map (fmKV.take 9) none))]), .f (.tup []) (fun _ => [(rv, some bx), (0, some (.map (fmKV.take 10) none))]), .f (.tup []) (fun _ => [(rv, some bx), (0, some (.map (fmKV.take 11) none))]), .f (.tup []) (fun _ => [(rv, some bx), (0, some (.map (fmKV.take 12) none))]), .f (.tup []) (fun _ => [(rv, some bx), (0, some (.map (fmKV.take 13) none))])] rfl ?_ ?_
    · (repeat' with_reducible apply AllP_cons) <;> try exact aC
      all_goals exact OpSpec.insertN (C := [0 = 0, _]) rfl rfl ⟨rfl, rfl, trivial⟩
    exact S_ret ⟨_, _, rfl, trivial, rfl, rfl⟩
def wordN (c : UInt8) (w : List UInt8) (lines : Nat) : Nat :=
  if c = 110 ∨ c = 108 ∨ c = 101 then numV w else 0
theorem wordN_of {c : UInt8} {w : List UInt8} {lines n : Nat} (h : wordT c w lines = some n) : wordN c w lines = n := by
  unfold wordT at h
  unfold wordN
  split at h
  · rename_i e; subst e
    split at h
    · cases h; rfl
    · cases h
  split at h
  · rename_i e; subst e
    split at h
    · cases h; rfl
    · cases h
  split at h
  · rename_i e; subst e
    split at h
    · cases h; rfl
    · cases h
  split at h
  · rename_i e; subst e
    rw [if_pos (.inl rfl)]
    rw [numT_eq] at h
    split at h
    · exact Option.some.inj h
    · cases h
  split at h
  · rename_i e; subst e
    rw [if_pos (.inr (.inl rfl))]
    rw [numT_eq] at h
    split at h
    · exact Option.some.inj h
    · cases h
  split at h
  · rename_i e; subst e
    rw [if_pos (.inr (.inr rfl))]
    rw [numT_eq] at h
    split at h
    · exact Option.some.inj h
    · cases h
  · rename_i a1 a2 a3 a4 a5 a6
    rw [if_neg (by rintro (e | e | e); exact a4 e; exact a5 e; exact a6 e)]
    exact Option.some.inj h
def wordsP (lines : Nat) : List UInt8 → List (List UInt8) → List Nat × Bool
  | c :: f, w :: ws => if (wordT c w lines).isSome then (wordN c w lines :: (wordsP lines f ws).1, (wordsP lines f ws).2) else ([], false)
  | _, _ => ([], true)
theorem wordsP_T (lines : Nat) : ∀ (f : List UInt8) (ws : List (List UInt8)), f.length = ws.length → wordsT lines f ws = if (wordsP lines f ws).2 then some (wordsP lines f ws).1 else none
  | [], [], _ => rfl
  | c :: f, w :: ws, h => by
    have ih := wordsP_T lines f ws (by simpa using h)
    rw [wordsT, wordsP]
    cases hq : wordT c w lines with
    | none => rfl
    | some n =>
      have := wordN_of hq
      show (wordsT lines f ws).map (n :: ·) = if (if true = true then _ else _ : List Nat × Bool).2 = true then _ else _
      rw [if_pos rfl, ih, this]
      split <;> rfl
  | [], _ :: _, h => by simp at h
  | _ :: _, [], h => by simp at h
theorem wordsT_len (lines : Nat) : ∀ (f : List UInt8) (ws : List (List UInt8)), f.length ≠ ws.length → wordsT lines f ws = none
  | [], [], h => absurd rfl h
  | c :: f, w :: ws, h => by
    rw [wordsT, wordsT_len lines f ws (by simpa using h)]
    cases wordT c w lines <;> rfl
  | [], _ :: _, _ => rfl
  | _ :: _, [], _ => rfl
def readP (lines : Nat) (s : List UInt8) : Ln × Bool :=
  match formT' (fst32 s) with
  | none => (⟨fst32 s, [], []⟩, false)
  | some f =>
    if f = [114, 116] then (⟨fst32 s, [fst32 (rst32 s), rst32 (rst32 s)], []⟩, (rst32 s).contains 32 && regB (fst32 (rst32 s)))
    else if (splitB 32 (rst32 s)).length ≠ f.length then (⟨fst32 s, splitB 32 (rst32 s), []⟩, false)
    else (⟨fst32 s, splitB 32 (rst32 s), (wordsP lines f (splitB 32 (rst32 s))).1⟩, (wordsP lines f (splitB 32 (rst32 s))).2)
theorem readP_ln (lines : Nat) (s : List UInt8) : lnOf lines s = if (readP lines s).2 then some (readP lines s).1 else none := by
  unfold lnOf readP
  cases formT' (fst32 s) with
  | none => rfl
  | some f =>
    show (if f = [114, 116] then _ else _ : Option Ln) = if (if f = [114, 116] then _ else _ : Ln × Bool).2 = true then some (if f = [114, 116] then _ else _ : Ln × Bool).1 else none
    by_cases h1 : f = [114, 116]
    · simp only [if_pos h1]
    · simp only [if_neg h1]
      by_cases h2 : (splitB 32 (rst32 s)).length ≠ f.length
      · rw [if_pos h2, wordsT_len lines f _ (fun e => h2 e.symm)]; rfl
      · rw [if_neg h2, wordsP_T lines f _ (by omega)]
        simp only
        split <;> rfl
end Go.Proofs.YtgmakmfdjhgjlaaGreatDoor
end
section
set_option linter.unusedVariables false
set_option linter.unusedSimpArgs false
set_option maxRecDepth 20000
set_option maxHeartbeats 4000000
namespace Go.Proofs.YtgmakmfdjhgjlaaGreatDoor
open Go Go.Ab
def rdAV (lines : Nat) (s : List UInt8) : AV := .tup [lnA (readP lines s).1, .bool (readP lines s).2]
theorem rdAV_free (lines : Nat) (s : List UInt8) : Free true (rdAV lines s) := .tup (by intro x hx; simp at hx; rcases hx with rfl | rfl; exact lnA_free _; exact .bool)
theorem rd_frz {σ : Heap} {op : List UInt8} {w n : AV} {x : Ln} {ok ok' : Bool} (ho : op = x.op) (hw : Frz true σ w (.sl true false 1 (texts x.ws))) (hn : Frz true σ n (.sl true false 1 (nsA x.ns))) (hok : ok = ok') : Frz true σ (.tup [.agg [.str op, w, n], .bool ok]) (.tup [lnA x, .bool ok']) := by
  subst ho; subst hok
  refine .tup rfl fun i h h' => ?_
  match i, h with
  | 0, _ =>
    refine .agg rfl fun i h h' => ?_
    match i, h with
    | 0, _ => exact .refl .str
    | 1, _ => exact hw
    | 2, _ => exact hn
    | k + 3, h => exact absurd h (by simp)
  | 1, _ => exact .refl .bool
  | k + 2, h => exact absurd h (by simp)
theorem has32 (s : List UInt8) : decide (0 ≤ Lib.indexByte s 32) = s.contains 32 := by
  rcases fst32_ix s with ⟨h1, h2, h3⟩ | ⟨m, h1, h2, h3, h4⟩
  · rw [h1]
    rcases split_two s with ⟨b, t, k1, k2⟩ | ⟨_, k2, _⟩
    · have := split_fst32 s
      rcases fst32_ok s with ⟨k3, _, _⟩ | ⟨k3, k4⟩
      · exact absurd (by simpa using k2) (List.count_eq_zero.1 k3)
      · rw [h2, h3] at k4
        have := congrArg List.length k4
        simp at this
    · rw [k2]; rfl
  · rw [h1, decide_eq_true (by omega)]
    rcases split_two s with ⟨b, t, k1, k2⟩ | ⟨_, k2, k3⟩
    · exact k2.symm
    · rw [h3] at k3
      have := congrArg List.length k3
      rw [List.length_take] at this; omega
theorem u8n {c : UInt8} {k : Nat} (hk : k < 256) (h : c ≠ UInt8.ofNat k) : ((c.toNat : Int) == (k : Int)) = false := by
  have : ¬ c.toNat = k := fun e => h (by rw [← e]; simp)
  simpa using (show ¬ (c.toNat : Int) = (k : Int) by omega)
theorem u8y {c : UInt8} {k : Nat} (hk : k < 256) (h : c = UInt8.ofNat k) : ((c.toNat : Int) == (k : Int)) = true := by
  subst h
  rw [UInt8.toNat_ofNat_of_lt' hk]; simp
theorem nsA_len (l : List Nat) : (nsA l).length = l.length := by simp [nsA]
theorem nsA_one (l : List Nat) : ∀ x ∈ nsA l, AV.cells x = [x] := by
  intro x hx
  obtain ⟨n, _, rfl⟩ := List.mem_map.1 hx
  rfl
theorem flat_one1 {l : List AV} (h : ∀ x ∈ l, AV.cells x = [x]) : l.flatMap AV.cells = l := by
  induction l with
  | nil => rfl
  | cons a r ih => rw [List.flatMap_cons, h a (List.mem_cons_self ..), ih fun x hx => h x (List.mem_cons_of_mem _ hx)]; rfl
theorem ns_frz {σ : Heap} {v : Nat} {ns : List Nat} {g : Tag} (h : boxAt σ 2 = some (v, nsA ns, g)) : Frz true σ (.ms 2 v 0 ns.length 1 false) (.sl true false 1 (nsA ns)) :=
  .ms h (by rw [nsA_len]; omega) (by rw [flat_one1 (nsA_one ns), List.drop_zero]; exact List.take_of_length_le (by rw [nsA_len]; omega)) (fun x hx => by rw [nsA_one ns x hx]; rfl) (by rw [nsA_len]) (nsA_free ns)
theorem word_ok (c : UInt8) (w : List UInt8) (lines : Nat) : (wordT c w lines).isSome = (if c = 114 then regB w else if c = 112 then isPathB w else if c = 100 then (w == [46] || isPathB w) else if c = 110 then (numB w && decide (((numV w : Nat) : Int) ≤ 999999)) else if c = 108 then (numB w && decide (((numV w : Nat) : Int) ≤ (lines : Int))) else if c = 101 then (numB w && decide (((numV w : Nat) : Int) ≤ 99)) else true) := by
  have hn : ∀ most : Nat, (numT w most).isSome = (numB w && decide (((numV w : Nat) : Int) ≤ (most : Int))) := fun most => by
    rw [numT_eq]
    cases numB w with
    | false => rfl
    | true =>
      rw [Bool.true_and]
      by_cases h : numV w ≤ most
      · rw [if_pos ⟨rfl, h⟩, decide_eq_true (by omega)]; rfl
      · rw [if_neg (fun x => h x.2), decide_eq_false (by omega)]; rfl
  unfold wordT
  repeat' split
  all_goals first | rfl | (split <;> simp_all) | exact hn _ | simp_all
theorem rdLn_ok (lines : Nat) (s : List UInt8) (hs : s.length ≤ 1000000) (hl : lines ≤ 1000000) : Calc cx 36 [.str s, .int .i64 (lines : Nat)] (rdAV lines s) :=
  pure_intro (fun a w => Tryz.call36 a w) Tryz.func36 rfl Tryz.ntmps36 rfl (rdAV_free lines s) fun B => by
    have hC := Cut32_ok s (by omega)
    have hF := forms_ok 0 (.cells [.str [], .nils, .nils] ⟨false, some 57⟩)
    have hfl := fst32_len s
    have hrl := rst32_len s
    refine pa [.v (cut32AV s), .f (.map 1 0) (fun _ => [(0, some (.cells [.str [], .nils, .nils] ⟨false, some 57⟩)), (0, some (.map (mapF fmKs fun k => .str (fmV k)) none))]), .v (.tup [.str (fmV (fst32 s)), .bool (formT' (fst32 s)).isSome]), .s] rfl ?_ ?_
    · (repeat' with_reducible apply AllP_cons) <;> try exact aC
      · exact ⟨_, hC, .cons (.refl .str) (.cons (.refl .str) (.nil _))⟩
      · refine OpSpec.mget (kt := 9) (et := 9) (ks := fmKs) (val := fun k => .str (fmV k)) (z := .str []) (s := fst32 s) rfl (Tryz.underlying52) rfl rfl rfl rfl rfl ?_
        rw [fm_mem]
        show AV.tup [if fst32 s ∈ fmKs then .str (fmV (fst32 s)) else .str [], _] = _
        split
        · rfl
        · rename_i h; rw [fm_no h]
    refine S_drop (id := 1) rfl ?_ ⟨.skip, _, .inr ⟨_, _, _, rfl⟩⟩
    unfold rdAV readP
    unfold fmV
    cases hf : formT' (fst32 s) with
    | none =>
      refine pB [.b true] rfl ?_
      exact S_ret ⟨_, _, rfl, ⟨rfl, trivial⟩, _, rfl, rd_frz rfl .nils .nils rfl⟩
    | some f =>
      show S _ _ _ _ (retQ cx _ fun o σ' => ∃ v, o = Out.ret v ∧ Frz true σ' v (.tup [lnA (if f = [114, 116] then _ else _ : Ln × Bool).1, .bool (if f = [114, 116] then _ else _ : Ln × Bool).2])) _ _
      by_cases h1 : f = [114, 116]
      · simp only [if_pos h1]
        subst h1
        have hC2 := Cut32_ok (rst32 s) (by omega)
        unfold cut32AV at hC2
        rw [has32] at hC2
        have hR := isRegister_ok (fst32 (rst32 s)) (by have := fst32_len (rst32 s); omega)
        refine pa [.b false, .b true, .v (.tup [.str (fst32 (rst32 s)), .str (rst32 (rst32 s)), .bool ((rst32 s).contains 32)])] rfl ?_ ?_
        · (repeat' with_reducible apply AllP_cons) <;> try exact aC
          · exact ⟨_, hC2, .cons (.refl .str) (.cons (.refl .str) (.nil _))⟩
        cases hcn : (rst32 s).contains 32 with
        | false =>
          refine pB [.d 6 8 [50] (fun _ => [(0, some (.cells [.str (fst32 s), .sl true true 1 [.str (fst32 (rst32 s)), .str (rst32 (rst32 s))], .nils] ⟨false, some 57⟩)), (1, some (.cells [.str (fst32 s), .sl true true 1 [.str (fst32 (rst32 s)), .str (rst32 (rst32 s))], .nils] ⟨false, some 57⟩))]) [.tup []]] rfl ?_
          exact S_ret ⟨_, _, rfl, ⟨rfl, trivial⟩, _, rfl, rd_frz rfl (.full (fun _ => rfl) (texts_any [_, _])) .nils rfl⟩
        | true =>
          refine pa [.d 6 8 [50] (fun _ => [(0, some (.cells [.str (fst32 s), .sl true true 1 [.str (fst32 (rst32 s)), .str (rst32 (rst32 s))], .nils] ⟨false, some 57⟩)), (1, some (.cells [.str (fst32 s), .sl true true 1 [.str (fst32 (rst32 s)), .str (rst32 (rst32 s))], .nils] ⟨false, some 57⟩))]) [.bool (regB (fst32 (rst32 s))), .tup []]] rfl ?_ ?_
          · (repeat' with_reducible apply AllP_cons) <;> try exact aC
            all_goals first | exact ⟨_, hR, .cons (.refl .str) (.nil _)⟩ | skip
          exact S_ret ⟨_, _, rfl, ⟨rfl, trivial⟩, _, rfl, rd_frz rfl (.full (fun _ => rfl) (texts_any [_, _])) .nils rfl⟩
      · simp only [if_neg h1]
        have h1' : (f == [114, 116]) = false := by simpa using h1
        have hS := Split_ok (rst32 s) 32 (by omega)
        have hws := split_len 32 (rst32 s)
        have hwl : ∀ w ∈ splitB 32 (rst32 s), w.length ≤ 1000000 := fun w hw => by have := split_part w hw; omega
        have hwc := List.count_le_length (a := (32 : UInt8)) (l := rst32 s)
        generalize splitB 32 (rst32 s) = ws at *
        have htl : (texts ws).length = ws.length := by simp [texts]
        by_cases h2 : ws.length ≠ f.length
        · rw [if_pos h2]
          refine pa [.b false, .b false, .v (.sl true false 1 (texts ws)), .b true] rfl ?_ ?_
          · (repeat' with_reducible apply AllP_cons) <;> try exact aC
            all_goals first | exact ⟨_, hS, .cons (.refl .str) (.cons (.refl .str) (.nil _))⟩ | (rw [htl]; simpa using (show ¬ (ws.length : Int) = (f.length : Int) by omega))
          exact S_ret ⟨_, _, rfl, ⟨rfl, trivial⟩, _, rfl, rd_frz rfl (.refl (.sl (fun _ => rfl) (texts_any _))) .nils rfl⟩
        · rw [if_neg h2]
          have h2 : ws.length = f.length := by omega
          refine pa [.b false, .b false, .v (.sl true false 1 (texts ws)), .b false] rfl ?_ ?_
          · (repeat' with_reducible apply AllP_cons) <;> try exact aC
            all_goals first | exact ⟨_, hS, .cons (.refl .str) (.cons (.refl .str) (.nil _))⟩ | (rw [htl]; simpa using (show (ws.length : Int) = (f.length : Int) by omega))
          refine S_ghost (id := 1) (j := 2) (gid := 2) (gver := 0) 1 ⟨false, none⟩ rfl rfl rfl (by decide) ⟨_, _, .inl rfl⟩ ?_
          refine S_while (α := List Nat) (fun ns => [(1, .int .i64 (lines : Nat)), (4, .ptr 0 0 0), (9, .str f), (11, .ptr 1 1 0), (65, .sl true false 1 (texts ws)), (66, .int .i64 (((texts ws).length : Nat) : Int)), (67, .int .i64 (ns.length : Nat))])
            (fun ns => [(0, some (.cells [.str [], .nils, .nils] ⟨false, some 57⟩)), (1, some (.cells [.str (fst32 s), .sl true false 1 (texts ws), .ms 2 ns.length 0 ns.length 1 false] ⟨false, some 57⟩)), (ns.length, some (.cells (nsA ns) ⟨false, none⟩))])
            (fun ns => ns.length ≤ ws.length ∧ wordsP lines f ws = (ns ++ (wordsP lines (f.drop ns.length) (ws.drop ns.length)).1, (wordsP lines (f.drop ns.length) (ws.drop ns.length)).2)) (fun ns => ws.length - ns.length) []
            ⟨Nat.zero_le _, rfl⟩ (.cons rfl (.cons rfl (.cons rfl (.cons rfl (.cons rfl (.cons rfl (.cons rfl (.nil _)))))))) rfl ?_
          rintro ns ⟨hi, hP⟩
          have hi : ns.length ≤ ws.length := hi
          have hP : wordsP lines f ws = (ns ++ (wordsP lines (f.drop ns.length) (ws.drop ns.length)).1, (wordsP lines (f.drop ns.length) (ws.drop ns.length)).2) := hP
          obtain ⟨i, hie⟩ : ∃ i, i = ns.length := ⟨_, rfl⟩
          by_cases hlt : ns.length < ws.length
          · have hltf : ns.length < f.length := by omega
            have e1 : decide ((ns.length : Int) < (((texts ws).length : Nat) : Int)) = true := decide_eq_true (by omega)
            have g1 : (texts ws)[(ns.length : Int).toNat]? = some (.str ws[ns.length]) := by rw [Int.toNat_natCast]; simp [texts, List.getElem?_eq_getElem hlt]
            have hfc : f.getD (ns.length : Int).toNat 0 = f[ns.length] := by rw [Int.toNat_natCast]; simp [List.getD, List.getElem?_eq_getElem hltf]
            have hwl1 := hwl _ (List.getElem_mem hlt)
            rw [List.drop_eq_getElem_cons hlt, List.drop_eq_getElem_cons hltf, wordsP] at hP
            have hW := word_ok f[ns.length] ws[ns.length] lines
            have hN : wordN f[ns.length] ws[ns.length] lines = if f[ns.length] = 110 ∨ f[ns.length] = 108 ∨ f[ns.length] = 101 then numV ws[ns.length] else 0 := rfl
            generalize f[ns.length] = c at *
            generalize ws[ns.length] = w at *
            have hR := isRegister_ok w (by omega)
            have hPa := isPath_ok w (by omega)
            refine pB [.b true, .v (.str w)] rfl ?_
            rw [hfc]
            refine S_join (fun fr σ => Weak fr [(1, .int .i64 (lines : Nat)), (4, .ptr 0 0 0), (9, .str f), (11, .ptr 1 1 0), (65, .sl true false 1 (texts ws)), (66, .int .i64 (((texts ws).length : Nat) : Int)), (67, .int .i64 (ns.length : Nat)), (17, .int .i64 (wordN c w lines : Nat)), (18, .bool (wordT c w lines).isSome)] ∧
              σ = [(0, some (.cells [.str [], .nils, .nils] ⟨false, some 57⟩)), (1, some (.cells [.str (fst32 s), .sl true false 1 (texts ws), .ms 2 ns.length 0 ns.length 1 false] ⟨false, some 57⟩)), (ns.length, some (.cells (nsA ns) ⟨false, none⟩))]) ?_ ?_
            · have hN0 : ¬ (c = 110 ∨ c = 108 ∨ c = 101) → wordN c w lines = 0 := fun h => by rw [hN, if_neg h]
              have hN1 : (c = 110 ∨ c = 108 ∨ c = 101) → wordN c w lines = numV w := fun h => by rw [hN, if_pos h]
              by_cases h114 : c = 114
              · have e114 := u8y (k := 114) (by decide) h114
                have hk : (wordT c w lines).isSome = regB w := by rw [hW]; subst h114; rfl
                have h0 : wordN c w lines = 0 := hN0 (by subst h114; decide)
                rw [hk, h0]
                refine pa [.b true, .v (.bool (regB w))] rfl ?_ ?_
                · (repeat' with_reducible apply AllP_cons) <;> try exact aC
                  all_goals first | exact ⟨_, hR, .cons (.refl .str) (.nil _)⟩ | skip
                exact S_inv ⟨(.cons rfl (.cons rfl (.cons rfl (.cons rfl (.cons rfl (.cons rfl (.cons rfl (.cons rfl (.cons rfl (.nil _)))))))))), rfl⟩
              have e114 := u8n (k := 114) (by decide) h114
              by_cases h112 : c = 112
              · have e112 := u8y (k := 112) (by decide) h112
                have hk : (wordT c w lines).isSome = isPathB w := by rw [hW]; subst h112; rfl
                have h0 : wordN c w lines = 0 := hN0 (by subst h112; decide)
                rw [hk, h0]
                refine pa [.b false, .b true, .v (.bool (isPathB w))] rfl ?_ ?_
                · (repeat' with_reducible apply AllP_cons) <;> try exact aC
                  all_goals first | exact ⟨_, hPa, .cons (.refl .str) (.nil _)⟩ | skip
                exact S_inv ⟨(.cons rfl (.cons rfl (.cons rfl (.cons rfl (.cons rfl (.cons rfl (.cons rfl (.cons rfl (.cons rfl (.nil _)))))))))), rfl⟩
              have e112 := u8n (k := 112) (by decide) h112
              by_cases h100 : c = 100
              · have e100 := u8y (k := 100) (by decide) h100
                have hk : (wordT c w lines).isSome = (w == [46] || isPathB w) := by rw [hW]; subst h100; rfl
                have h0 : wordN c w lines = 0 := hN0 (by subst h100; decide)
                rw [hk, h0]
                cases hd : (w == [46]) with
                | true =>
                  refine pB [.b false, .b false, .b true, .b true] rfl ?_
                  exact S_inv ⟨(.cons rfl (.cons rfl (.cons rfl (.cons rfl (.cons rfl (.cons rfl (.cons rfl (.cons rfl (.cons rfl (.nil _)))))))))), rfl⟩
                | false =>
                  refine pa [.b false, .b false, .b true, .b false, .v (.bool (isPathB w))] rfl ?_ ?_
                  · (repeat' with_reducible apply AllP_cons) <;> try exact aC
                    all_goals first | exact ⟨_, hPa, .cons (.refl .str) (.nil _)⟩ | skip
                  exact S_inv ⟨(.cons rfl (.cons rfl (.cons rfl (.cons rfl (.cons rfl (.cons rfl (.cons rfl (.cons rfl (.cons rfl (.nil _)))))))))), rfl⟩
              have e100 := u8n (k := 100) (by decide) h100
              by_cases h110 : c = 110
              · have e110 := u8y (k := 110) (by decide) h110
                have hk : (wordT c w lines).isSome = (numB w && decide (((numV w : Nat) : Int) ≤ 999999)) := by rw [hW]; subst h110; rfl
                have h0 : wordN c w lines = numV w := hN1 (by subst h110; decide)
                rw [hk, h0]
                have hQ := nmbr_ok w 999999 (by omega)
                refine pa [.b false, .b false, .b false, .b true, .v (nmrAV w 999999)] rfl ?_ ?_
                · (repeat' with_reducible apply AllP_cons) <;> try exact aC
                  all_goals first | exact ⟨_, hQ, .cons (.refl .str) (.cons (.refl .int) (.nil _))⟩ | skip
                exact S_inv ⟨(.cons rfl (.cons rfl (.cons rfl (.cons rfl (.cons rfl (.cons rfl (.cons rfl (.cons rfl (.cons rfl (.nil _)))))))))), rfl⟩
              have e110 := u8n (k := 110) (by decide) h110
              by_cases h108 : c = 108
              · have e108 := u8y (k := 108) (by decide) h108
                have hk : (wordT c w lines).isSome = (numB w && decide (((numV w : Nat) : Int) ≤ (lines : Int))) := by rw [hW]; subst h108; rfl
                have h0 : wordN c w lines = numV w := hN1 (by subst h108; decide)
                rw [hk, h0]
                have hQ := nmbr_ok w (lines : Int) (by omega)
                refine pa [.b false, .b false, .b false, .b false, .b true, .v (nmrAV w (lines : Int))] rfl ?_ ?_
                · (repeat' with_reducible apply AllP_cons) <;> try exact aC
                  all_goals first | exact ⟨_, hQ, .cons (.refl .str) (.cons (.refl .int) (.nil _))⟩ | skip
                exact S_inv ⟨(.cons rfl (.cons rfl (.cons rfl (.cons rfl (.cons rfl (.cons rfl (.cons rfl (.cons rfl (.cons rfl (.nil _)))))))))), rfl⟩
              have e108 := u8n (k := 108) (by decide) h108
              by_cases h101 : c = 101
              · have e101 := u8y (k := 101) (by decide) h101
                have hk : (wordT c w lines).isSome = (numB w && decide (((numV w : Nat) : Int) ≤ 99)) := by rw [hW]; subst h101; rfl
                have h0 : wordN c w lines = numV w := hN1 (by subst h101; decide)
                rw [hk, h0]
                have hQ := nmbr_ok w 99 (by omega)
                refine pa [.b false, .b false, .b false, .b false, .b false, .b true, .v (nmrAV w 99)] rfl ?_ ?_
                · (repeat' with_reducible apply AllP_cons) <;> try exact aC
                  all_goals first | exact ⟨_, hQ, .cons (.refl .str) (.cons (.refl .int) (.nil _))⟩ | skip
                exact S_inv ⟨(.cons rfl (.cons rfl (.cons rfl (.cons rfl (.cons rfl (.cons rfl (.cons rfl (.cons rfl (.cons rfl (.nil _)))))))))), rfl⟩
              have e101 := u8n (k := 101) (by decide) h101
              have hk : (wordT c w lines).isSome = true := by rw [hW]; simp [h114, h112, h100, h110, h108, h101]
              have h0 : wordN c w lines = 0 := hN0 (by rintro (h | h | h); exact h110 h; exact h108 h; exact h101 h)
              rw [hk, h0]
              refine pB [.b false, .b false, .b false, .b false, .b false, .b false] rfl ?_
              exact S_inv ⟨(.cons rfl (.cons rfl (.cons rfl (.cons rfl (.cons rfl (.cons rfl (.cons rfl (.cons rfl (.cons rfl (.nil _)))))))))), rfl⟩
            rintro fr σ ⟨hwk, rfl⟩
            refine S_code_weak hwk ?_
            cases hok : (wordT c w lines).isSome with
            | false =>
              rw [hok] at hP
              have hP : wordsP lines f ws = (ns ++ [], false) := hP
              rw [hP, List.append_nil]
              refine pB [.b true] rfl ?_
              exact S_ret ⟨_, _, rfl, ⟨rfl, trivial⟩, _, rfl, rd_frz rfl (.refl (.sl (fun _ => rfl) (texts_any _))) (ns_frz rfl) rfl⟩
            | true =>
              rw [hok] at hP
              have hP : wordsP lines f ws = (ns ++ wordN c w lines :: (wordsP lines (f.drop (ns.length + 1)) (ws.drop (ns.length + 1))).1, (wordsP lines (f.drop (ns.length + 1)) (ws.drop (ns.length + 1))).2) := hP
              refine pa [.b false] rfl ?_ ?_
              · (repeat' with_reducible apply AllP_cons) <;> try exact aC
                · show 0 + ns.length * 1 = (nsA ns).length; rw [nsA_len]; omega
                · show (ns.length + 1) * 8 ≤ 140737488355328; omega
              have hl2 : (ns ++ [wordN c w lines]).length = ns.length + 1 := by rw [List.length_append]; rfl
              have hap : nsA ns ++ [.int .i64 (wordN c w lines : Nat)] = nsA (ns ++ [wordN c w lines]) := by unfold nsA; rw [List.map_append]; rfl
              refine S_round (ns ++ [wordN c w lines]) (by show ws.length - (ns ++ [wordN c w lines]).length < ws.length - ns.length; omega) ⟨by show (ns ++ [wordN c w lines]).length ≤ ws.length; omega, ?_⟩ (.cons rfl (.cons rfl (.cons rfl (.cons rfl (.cons rfl (.cons rfl (.cons (by show AV.int .i64 (IntKind.i64.wrap ((ns.length : Int) + 1)) = .int .i64 (((ns ++ [wordN c w lines]).length : Nat) : Int); rw [hl2]; exact ai64 rfl (by omega)) (.nil _)))))))) ?_
              · show wordsP lines f ws = (ns ++ [wordN c w lines] ++ (wordsP lines (f.drop (ns ++ [wordN c w lines]).length) (ws.drop (ns ++ [wordN c w lines]).length)).1, (wordsP lines (f.drop (ns ++ [wordN c w lines]).length) (ws.drop (ns ++ [wordN c w lines]).length)).2)
                rw [hl2, List.append_assoc]; exact hP
              · show _ = [(0, some (Box.cells _ _)), (1, some (Box.cells [_, _, .ms 2 (ns ++ [wordN c w lines]).length 0 (ns ++ [wordN c w lines]).length 1 false] _)), ((ns ++ [wordN c w lines]).length, some (Box.cells (nsA (ns ++ [wordN c w lines])) _))]
                rw [hl2, ← hap]; rfl
          · have hil : ns.length = ws.length := by omega
            have e1 : decide ((ns.length : Int) < (((texts ws).length : Nat) : Int)) = false := decide_eq_false (by omega)
            rw [List.drop_of_length_le (show f.length ≤ ns.length by omega), List.drop_of_length_le (show ws.length ≤ ns.length by omega)] at hP
            have hP : wordsP lines f ws = (ns ++ [], true) := hP
            rw [hP, List.append_nil]
            refine pB [.b false] rfl ?_
            exact S_ret ⟨_, _, rfl, ⟨rfl, trivial⟩, _, rfl, rd_frz rfl (.refl (.sl (fun _ => rfl) (texts_any _))) (ns_frz rfl) rfl⟩
end Go.Proofs.YtgmakmfdjhgjlaaGreatDoor
end
section
set_option linter.unusedVariables false
set_option linter.unusedSimpArgs false
set_option maxRecDepth 20000
set_option maxHeartbeats 4000000
namespace Go.Proofs.YtgmakmfdjhgjlaaGreatDoor
open Go Go.Ab
theorem IndexFuncP_ok {st fl : Bool} (g : FuncId) (P : List UInt8 → Bool) (l : List (List UInt8)) (hg : ∀ s ∈ l, Calc cx g ([] ++ [.str s] ++ []) (.bool (P s))) (hl : l.length ≤ 1000000000000) : Calc cx 73 [.sl st fl 1 (texts l), .func (.func g) [] []] (.int .i64 (match l.findIdx? P with | some i => (i : Int) | none => -1)) :=
  pure_intro (fun a w => Tryz.call73 a w) Tryz.func73 rfl Tryz.ntmps73 rfl .int fun B => by
    have htl : (texts l).length = l.length := by simp [texts]
    refine pB [] rfl ?_
    refine S_while (α := Nat) (fun i => [(0, .sl st fl 1 (texts l)), (1, .func (.func g) [] []), (7, .int .i64 (((texts l).length : Nat) : Int)), (8, .int .i64 (i : Nat))]) (fun _ => []) (fun i => i ≤ l.length ∧ ∀ k (hk : k < l.length), k < i → P l[k] = false) (fun i => l.length - i) 0
      ⟨Nat.zero_le _, fun k hk h => absurd h (Nat.not_lt_zero _)⟩ (.cons rfl (.cons rfl (.cons rfl (.cons rfl (.nil _))))) rfl ?_
    rintro i ⟨hi, hN⟩
    have hi : i ≤ l.length := hi
    by_cases hlt : i < l.length
    · have e1 : decide ((i : Int) < (((texts l).length : Nat) : Int)) = true := decide_eq_true (by omega)
      have g1 : (texts l)[(i : Int).toNat]? = some (.str l[i]) := by rw [Int.toNat_natCast]; simp [texts, List.getElem?_eq_getElem hlt]
      have hF := hg l[i] (List.getElem_mem hlt)
      cases hb : P l[i] with
      | true =>
        rw [hb] at hF
        refine pa [.b true, .v (.str l[i]), .v (.bool true), .b true] rfl ?_ ?_
        · (repeat' with_reducible apply AllP_cons) <;> try exact aC
          · exact ⟨_, hF, .cons (.refl .str) (.nil _)⟩
        refine S_retc .int rfl trivial ?_
        have : l.findIdx? P = some i := by
          rw [List.findIdx?_eq_some_iff_getElem]
          exact ⟨hlt, by simpa using hb, fun j hj => by have := hN j (by omega) hj; simpa using this⟩
        rw [this]; rfl
      | false =>
        rw [hb] at hF
        refine pa [.b true, .v (.str l[i]), .v (.bool false), .b false] rfl ?_ ?_
        · (repeat' with_reducible apply AllP_cons) <;> try exact aC
          · exact ⟨_, hF, .cons (.refl .str) (.nil _)⟩
        refine S_round (i + 1) (by show l.length - (i + 1) < l.length - i; omega) ⟨hlt, fun k hk h => ?_⟩ (.cons rfl (.cons rfl (.cons rfl (.cons (nX (by omega)) (.nil _))))) rfl
        have h : k < i + 1 := h
        by_cases hki : k < i
        · exact hN k hk hki
        · have : k = i := by omega
          subst this; exact hb
    · have e1 : decide ((i : Int) < (((texts l).length : Nat) : Int)) = false := decide_eq_false (by omega)
      refine pB [.b false] rfl ?_
      refine S_retc .int rfl trivial ?_
      have : l.findIdx? P = none := by
        rw [List.findIdx?_eq_none_iff]
        intro x hx
        obtain ⟨k, hk, rfl⟩ := List.getElem_of_mem hx
        have := hN k hk (by omega)
        simpa using this
      rw [this]; rfl
theorem ContainsFuncP_ok {st fl : Bool} (g : FuncId) (P : List UInt8 → Bool) (l : List (List UInt8)) (hg : ∀ s ∈ l, Calc cx g ([] ++ [.str s] ++ []) (.bool (P s))) (hl : l.length ≤ 1000000000000) : Calc cx 34 [.sl st fl 1 (texts l), .func (.func g) [] []] (.bool (l.any P)) :=
  pure_intro (fun a w => Tryz.call34 a w) Tryz.func34 rfl Tryz.ntmps34 rfl .bool fun B => by
    have hI := IndexFuncP_ok (st := st) (fl := fl) g P l hg hl
    refine pa [.v (.int .i64 (match l.findIdx? P with | some i => (i : Int) | none => -1))] rfl ?_ ?_
    · (repeat' with_reducible apply AllP_cons) <;> try exact aC
      · exact ⟨_, hI, .cons (.refl (.sl (fun h => by cases h) (texts_any l))) (.cons (.refl (.func (fun x h => by cases h) (fun x h => by cases h))) (.nil _))⟩
    refine S_retc .bool rfl trivial ?_
    show AV.bool (decide ((match l.findIdx? P with | some i => (i : Int) | none => -1) ≥ 0)) = _
    congr 1
    cases h : l.findIdx? P with
    | none =>
      rw [List.findIdx?_eq_none_iff] at h
      rw [List.any_eq_false.2 (fun x hx => by have := h x hx; rw [this]; simp)]; rfl
    | some i =>
      rw [List.findIdx?_eq_some_iff_getElem] at h
      obtain ⟨h1, h2, _⟩ := h
      rw [List.any_eq_true.2 ⟨_, List.getElem_mem h1, h2⟩]
      show decide ((i : Int) ≥ 0) = true
      exact decide_eq_true (by omega)
theorem prog1_ok (s : List UInt8) : Calc cx 35 [.str s] (.bool (decide (100000 < s.length))) :=
  pure_intro (fun a w => Tryz.call35 a w) Tryz.func35 rfl Tryz.ntmps35 rfl .bool fun B => by
    refine pB [] rfl ?_
    refine S_retc .bool rfl trivial ?_
    show AV.bool (decide ((s.length : Int) > 100000)) = _
    congr 1
    rw [decide_eq_decide]; omega
def lns (l : List Ln) : List AV := l.map lnA
def lnCs (l : List Ln) : List AV := l.flatMap lnC
theorem lns_free {st : Bool} (l : List Ln) : ∀ x ∈ lns l, Free st x := by
  intro x hx
  obtain ⟨y, _, rfl⟩ := List.mem_map.1 hx
  exact lnA_free y
theorem lns_flat (l : List Ln) : (lns l).flatMap AV.cells = lnCs l := by
  unfold lns lnCs
  rw [List.flatMap_map]
  rfl
theorem lnCs_len (l : List Ln) : (lnCs l).length = l.length * 3 := by
  induction l with
  | nil => rfl
  | cons x r ih => unfold lnCs at *; rw [List.flatMap_cons, List.length_append, ih, List.length_cons]; show 3 + r.length * 3 = _; omega
theorem lns_size (l : List Ln) : ∀ x ∈ lns l, (AV.cells x).length = 3 := by
  intro x hx
  obtain ⟨y, _, rfl⟩ := List.mem_map.1 hx
  rfl
theorem lns_len (l : List Ln) : (lns l).length = l.length := by simp [lns]
def proAV (com : List (List UInt8)) : AV := .tup [.sl true false 3 (lns (if comE com = 0 then (progT com.length com).getD [] else [])), .int .i64 (comI com : Nat), .int .i64 (comE com : Nat)]
theorem proAV_free (com : List (List UInt8)) : Free true (proAV com) := .tup (by intro x hx; simp at hx; rcases hx with rfl | rfl | rfl; exact .sl (fun _ => rfl) (lns_free _); exact .int; exact .int)
theorem pro_frz {σ : Heap} {a : AV} {l : List Ln} {i e i' e' : Int} (h : Frz true σ a (.sl true false 3 (lns l))) (hi : i = i') (he : e = e') : Frz true σ (.tup [a, .int .i64 i, .int .i64 e]) (.tup [.sl true false 3 (lns l), .int .i64 i', .int .i64 e']) := by
  subst hi; subst he
  refine .tup rfl fun k h1 h2 => ?_
  match k, h1 with
  | 0, _ => exact h
  | 1, _ => exact .refl .int
  | 2, _ => exact .refl .int
  | k + 3, h => exact absurd h (by simp)
theorem progT_bad (L : Nat) : ∀ (com : List (List UInt8)) (i : Nat) (hi : i < com.length), (∀ j (hj : j < com.length), j < i → (lnOf L com[j]).isSome = true) → lnOf L com[i] = none → progT L com = none ∧ badLn L com = i
  | s :: r, 0, _, _, h => by
    have h : lnOf L s = none := h
    rw [progT, badLn, h]; exact ⟨rfl, rfl⟩
  | s :: r, i + 1, hi, ha, h => by
    have h0 := ha 0 (by simp) (by omega)
    obtain ⟨x, hx⟩ := Option.isSome_iff_exists.1 h0
    have hx : lnOf L s = some x := hx
    obtain ⟨k1, k2⟩ := progT_bad L r i (by simpa using hi) (fun j hj hji => ha (j + 1) (by simpa using hj) (by omega)) h
    rw [progT, badLn, hx, k2]
    show (progT L r).map (x :: ·) = none ∧ i + 1 = i + 1
    rw [k1]; exact ⟨rfl, rfl⟩
theorem progT_take (L : Nat) (com : List (List UInt8)) (xs : List Ln) (hl : xs.length = com.length) (h : ∀ j (hj : j < com.length), lnOf L com[j] = some (xs[j]'(by omega))) : progT L com = some xs := by
  induction com generalizing xs with
  | nil => obtain rfl : xs = [] := List.length_eq_zero_iff.1 (by simpa using hl); rfl
  | cons s r ih =>
    match xs, hl with
    | x :: ys, hl =>
      have h0 : lnOf L s = some x := h 0 (by simp)
      rw [progT, h0]
      show (progT L r).map (x :: ·) = _
      rw [ih ys (by simpa using hl) (fun j hj => h (j + 1) (by simpa using hj))]; rfl
theorem program_ok {st fl : Bool} (com : List (List UInt8)) (hl : com.length ≤ 1000000000000) : Calc cx 22 [.sl st fl 1 (texts com)] (proAV com) :=
  pure_intro (fun a w => Tryz.call22 a w) Tryz.func22 rfl Tryz.ntmps22 rfl (proAV_free com) fun B => by
    have htl : (texts com).length = com.length := by simp [texts]
    have hCF := ContainsFuncP_ok (st := st) (fl := fl) 35 (fun s => decide (100000 < s.length)) com (fun s _ => prog1_ok s) hl
    unfold proAV
    by_cases h60 : 60 < com.length
    · have hE : comE com = 2 := by unfold comE checkL; rw [if_pos h60]; rfl
      have hI : comI com = 0 := by unfold comI; rw [hE]; rfl
      rw [hE, hI, if_neg (by decide)]
      refine pB [.b true, .b true] rfl ?_
      exact S_ret ⟨_, _, rfl, trivial, _, rfl, pro_frz .nils rfl rfl⟩
    cases hlg : com.any (fun s => decide (100000 < s.length)) with
    | true =>
      have hE : comE com = 2 := by unfold comE checkL; rw [if_neg h60, hlg]; rfl
      have hI : comI com = 0 := by unfold comI; rw [hE]; rfl
      rw [hE, hI, if_neg (by decide)]
      rw [hlg] at hCF
      refine pa [.b false, .v (.bool true), .b true] rfl ?_ ?_
      · (repeat' with_reducible apply AllP_cons) <;> try exact aC
        · exact ⟨_, hCF, .cons (.refl (.sl (fun h => by cases h) (texts_any _))) (.cons (.refl (.func (fun x h => by cases h) (fun x h => by cases h))) (.nil _))⟩
      exact S_ret ⟨_, _, rfl, trivial, _, rfl, pro_frz .nils rfl rfl⟩
    | false =>
      rw [hlg] at hCF
      have hck : checkL com 60 = 0 := by unfold checkL; rw [if_neg h60, hlg]; rfl
      have hsl : ∀ j (hj : j < com.length), com[j].length ≤ 100000 := fun j hj => by
        have := List.any_eq_false.1 hlg _ (List.getElem_mem hj)
        simpa using this
      refine pa [.b false, .v (.bool false), .b false] rfl ?_ ?_
      · (repeat' with_reducible apply AllP_cons) <;> try exact aC
        · exact ⟨_, hCF, .cons (.refl (.sl (fun h => by cases h) (texts_any _))) (.cons (.refl (.func (fun x h => by cases h) (fun x h => by cases h))) (.nil _))⟩
      refine S_ghostF (t := 5) 3 ⟨false, none⟩ rfl rfl ⟨_, _, .inl rfl⟩ ?_
      refine S_dead ?_ ⟨_, _, .inl rfl⟩
      refine S_while (α := List Ln) (fun xs => [(0, .sl st fl 1 (texts com)), (5, .ms 0 xs.length 0 xs.length 3 false), (17, .sl st fl 1 (texts com)), (18, .int .i64 (((texts com).length : Nat) : Int)), (19, .int .i64 (xs.length : Nat))])
        (fun xs => [(xs.length, some (.cells (lnCs xs) ⟨false, none⟩)), (xs.length, none)])
        (fun xs => xs.length ≤ com.length ∧ ∀ j (hj : j < com.length) (hx : j < xs.length), lnOf com.length com[j] = some xs[j]) (fun xs => com.length - xs.length) []
        ⟨Nat.zero_le _, fun j hj hx => absurd hx (Nat.not_lt_zero _)⟩ (.cons rfl (.cons rfl (.cons rfl (.cons rfl (.cons rfl (.nil _)))))) rfl ?_
      rintro xs ⟨hi, hX⟩
      have hi : xs.length ≤ com.length := hi
      by_cases hlt : xs.length < com.length
      · have e1 : decide ((xs.length : Int) < (((texts com).length : Nat) : Int)) = true := decide_eq_true (by omega)
        have g1 : (texts com)[(xs.length : Int).toNat]? = some (.str com[xs.length]) := by rw [Int.toNat_natCast]; simp [texts, List.getElem?_eq_getElem hlt]
        have hs := hsl _ hlt
        have hR := rdLn_ok com.length com[xs.length] (by omega) (by omega)
        unfold rdAV at hR
        have hP := readP_ln com.length com[xs.length]
        cases hok : (readP com.length com[xs.length]).2 with
        | false =>
          rw [hok] at hP hR
          have hP : lnOf com.length com[xs.length] = none := hP
          obtain ⟨k1, k2⟩ := progT_bad com.length com xs.length hlt (fun j hj hji => by rw [hX j hj hji]; rfl) hP
          have hE : comE com = 1 := by unfold comE; rw [if_pos hck, k1]; rfl
          have hI : comI com = xs.length := by unfold comI; rw [if_pos hE, k2]
          rw [hE, hI, if_neg (by decide)]
          refine pa [.b true, .v (.str com[xs.length]), .v (.tup [lnA (readP com.length com[xs.length]).1, .bool false]), .b true] rfl ?_ ?_
          · (repeat' with_reducible apply AllP_cons) <;> try exact aC
            · rw [htl]; exact ⟨_, hR, .cons (.refl .str) (.cons (.refl .int) (.nil _))⟩
          exact S_ret ⟨_, _, rfl, trivial, _, rfl, pro_frz .nils rfl rfl⟩
        | true =>
          rw [hok] at hP hR
          have hP : lnOf com.length com[xs.length] = some (readP com.length com[xs.length]).1 := hP
          generalize (readP com.length com[xs.length]).1 = x at *
          refine pa [.b true, .v (.str com[xs.length]), .v (.tup [lnA x, .bool true]), .b false, .s] rfl ?_ ?_
          · (repeat' with_reducible apply AllP_cons) <;> try exact aC
            · rw [htl]; exact ⟨_, hR, .cons (.refl .str) (.cons (.refl .int) (.nil _))⟩
          refine pan 4 [] rfl ?_ ?_
          · (repeat' with_reducible apply AllP_cons) <;> try exact aC
            · show 0 + xs.length * 3 = _; rw [lnCs_len]; omega
            · show (xs.length + 1) * 64 ≤ 140737488355328; omega
          refine S_drop (id := 1) rfl ?_ ⟨.skip, _, .inr ⟨_, _, _, rfl⟩⟩
          have hl2 : (xs ++ [x]).length = xs.length + 1 := by rw [List.length_append]; rfl
          have hap : lnCs xs ++ lnC x = lnCs (xs ++ [x]) := by unfold lnCs; rw [List.flatMap_append]; simp
          refine S_heap [((xs ++ [x]).length, some (.cells (lnCs (xs ++ [x])) ⟨false, none⟩)), ((xs ++ [x]).length, none)] ?_ ?_
          · rw [hl2, ← hap]; rfl
          refine pB [] rfl ?_
          refine S_round (xs ++ [x]) (by show com.length - (xs ++ [x]).length < com.length - xs.length; omega) ⟨by show (xs ++ [x]).length ≤ com.length; omega, fun j hj hx => ?_⟩ (.cons rfl (.cons (by show AV.ms 0 (xs.length + 1) 0 (xs.length + 1) 3 false = AV.ms 0 (xs ++ [x]).length 0 (xs ++ [x]).length 3 false; rw [hl2]) (.cons rfl (.cons rfl (.cons (by show AV.int .i64 (IntKind.i64.wrap ((xs.length : Int) + 1)) = .int .i64 (((xs ++ [x]).length : Nat) : Int); rw [hl2]; exact ai64 rfl (by omega)) (.nil _)))))) rfl
          by_cases hjx : j < xs.length
          · rw [List.getElem_append_left hjx]; exact hX j hj hjx
          · obtain rfl : j = xs.length := by omega
            rw [List.getElem_append_right (by omega)]
            simpa using hP
      · have e1 : decide ((xs.length : Int) < (((texts com).length : Nat) : Int)) = false := decide_eq_false (by omega)
        have hPT := progT_take com.length com xs (by omega) (fun j hj => hX j hj (by omega))
        have hE : comE com = 0 := by unfold comE; rw [if_pos hck, hPT]; rfl
        have hI : comI com = 0 := by unfold comI; rw [hE]; rfl
        rw [hE, hI, if_pos rfl, hPT]
        refine pB [.b false] rfl ?_
        exact S_ret ⟨_, _, rfl, trivial, _, rfl, pro_frz (.ms rfl (by rw [lnCs_len]; omega) (by rw [List.drop_zero, lns_flat]; exact List.take_of_length_le (by rw [lnCs_len]; omega)) (lns_size _) (lns_len _) (lns_free _)) rfl rfl⟩
end Go.Proofs.YtgmakmfdjhgjlaaGreatDoor
end
section
set_option linter.unusedVariables false
set_option linter.unusedSimpArgs false
set_option maxRecDepth 20000
set_option maxHeartbeats 4000000
namespace Go.Proofs.YtgmakmfdjhgjlaaGreatDoor
open Go Go.Ab
inductive LnOk (lines : Nat) : Ln → Prop
  | set {c : UInt8} {t : List UInt8} (h1 : 97 ≤ c) (h2 : c ≤ 104) (ht : t.length ≤ 100000) : LnOk lines ⟨kSet, [[c], t], []⟩
  | read {c : UInt8} {p : List UInt8} (h1 : 97 ≤ c) (h2 : c ≤ 104) (hp : isPathB p = true) : LnOk lines ⟨kRead, [[c], p], [0, 0]⟩
  | list {c : UInt8} {p : List UInt8} (h1 : 97 ≤ c) (h2 : c ≤ 104) (hp : p = [46] ∨ isPathB p = true) : LnOk lines ⟨kList, [[c], p], [0, 0]⟩
  | join {c d : UInt8} (h1 : 97 ≤ c) (h2 : c ≤ 104) (h3 : 97 ≤ d) (h4 : d ≤ 104) : LnOk lines ⟨kJoin, [[c], [d]], [0, 0]⟩
  | cut {c : UInt8} {v w : List UInt8} {i j : Nat} (h1 : 97 ≤ c) (h2 : c ≤ 104) (hv : numT v 999999 = some i) (hw : numT w 999999 = some j) : LnOk lines ⟨kCut, [[c], v, w], [0, i, j]⟩
  | size {c d : UInt8} (h1 : 97 ≤ c) (h2 : c ≤ 104) (h3 : 97 ≤ d) (h4 : d ≤ 104) : LnOk lines ⟨kSize, [[c], [d]], [0, 0]⟩
  | sum {c : UInt8} (h1 : 97 ≤ c) (h2 : c ≤ 104) : LnOk lines ⟨kSum, [[c]], [0]⟩
  | make {c : UInt8} {p : List UInt8} (h1 : 97 ≤ c) (h2 : c ≤ 104) (hp : isPathB p = true) : LnOk lines ⟨kMake, [p, [c]], [0, 0]⟩
  | run {c : UInt8} {p : List UInt8} (h1 : 97 ≤ c) (h2 : c ≤ 104) (hp : isPathB p = true) : LnOk lines ⟨kRun, [p, [c]], [0, 0]⟩
  | same {c d : UInt8} {w : List UInt8} {j : Nat} (h1 : 97 ≤ c) (h2 : c ≤ 104) (h3 : 97 ≤ d) (h4 : d ≤ 104) (hw : numT w lines = some j) : LnOk lines ⟨kSame, [[c], [d], w], [0, 0, j]⟩
  | less {c d : UInt8} {w : List UInt8} {j : Nat} (h1 : 97 ≤ c) (h2 : c ≤ 104) (h3 : 97 ≤ d) (h4 : d ≤ 104) (hw : numT w lines = some j) : LnOk lines ⟨kLess, [[c], [d], w], [0, 0, j]⟩
  | goto {w : List UInt8} {j : Nat} (hw : numT w lines = some j) : LnOk lines ⟨kGoto, [w], [j]⟩
  | exit {w : List UInt8} {j : Nat} (hw : numT w 99 = some j) : LnOk lines ⟨kExit, [w], [j]⟩
theorem words_cons {L : Nat} {c : UInt8} {f : List UInt8} {ws : List (List UInt8)} {ns : List Nat} (h : wordsT L (c :: f) ws = some ns) : ∃ w ws' n ns', ws = w :: ws' ∧ ns = n :: ns' ∧ wordT c w L = some n ∧ wordsT L f ws' = some ns' := by
  match ws, h with
  | [], h => cases h
  | w :: ws', h =>
    rw [wordsT] at h
    cases hw : wordT c w L with
    | none => rw [hw] at h; cases h
    | some n =>
      rw [hw] at h
      replace h : (wordsT L f ws').map (n :: ·) = some ns := h
      cases hr : wordsT L f ws' with
      | none => rw [hr] at h; cases h
      | some ns' => rw [hr] at h; cases h; exact ⟨w, ws', n, ns', rfl, rfl, hw, hr⟩
theorem words_nil {L : Nat} {ws : List (List UInt8)} {ns : List Nat} (h : wordsT L [] ws = some ns) : ws = [] ∧ ns = [] := by
  match ws, h with
  | [], h => cases h; exact ⟨rfl, rfl⟩
  | w :: ws', h => cases h
theorem word_r {w : List UInt8} {L n : Nat} (h : wordT 114 w L = some n) : (∃ c : UInt8, w = [c] ∧ 97 ≤ c ∧ c ≤ 104) ∧ n = 0 := by
  unfold wordT at h
  rw [if_pos rfl] at h
  split at h
  · rename_i hr; cases h; exact ⟨regB_one hr, rfl⟩
  · cases h
theorem word_p {w : List UInt8} {L n : Nat} (h : wordT 112 w L = some n) : isPathB w = true ∧ n = 0 := by
  unfold wordT at h
  rw [if_neg (by decide), if_pos rfl] at h
  split at h
  · rename_i hr; cases h; exact ⟨hr, rfl⟩
  · cases h
theorem word_d {w : List UInt8} {L n : Nat} (h : wordT 100 w L = some n) : (w = [46] ∨ isPathB w = true) ∧ n = 0 := by
  unfold wordT at h
  rw [if_neg (by decide), if_neg (by decide), if_pos rfl] at h
  split at h
  · rename_i hr; cases h; exact ⟨by rw [Bool.or_eq_true, beq_iff_eq] at hr; exact hr, rfl⟩
  · cases h
theorem word_n {w : List UInt8} {L n : Nat} (h : wordT 110 w L = some n) : numT w 999999 = some n := by
  unfold wordT at h
  rwa [if_neg (by decide), if_neg (by decide), if_neg (by decide), if_pos rfl] at h
theorem word_l {w : List UInt8} {L n : Nat} (h : wordT 108 w L = some n) : numT w L = some n := by
  unfold wordT at h
  rwa [if_neg (by decide), if_neg (by decide), if_neg (by decide), if_neg (by decide), if_pos rfl] at h
theorem word_e {w : List UInt8} {L n : Nat} (h : wordT 101 w L = some n) : numT w 99 = some n := by
  unfold wordT at h
  rwa [if_neg (by decide), if_neg (by decide), if_neg (by decide), if_neg (by decide), if_neg (by decide), if_pos rfl] at h
theorem lnOk_of {L : Nat} {s : List UInt8} {x : Ln} (h : lnOf L s = some x) (hs : s.length ≤ 100000) : LnOk L x := by
  by_cases h0 : fst32 s = kSet
  · obtain ⟨c, b, t, h1, h2, _, rfl⟩ := ln_set h h0
    exact .set h1 h2 (by rw [List.length_drop]; omega)
  obtain ⟨f, hf, hne, ho, hsp, hw⟩ := ln_other h h0
  obtain ⟨op, ws, ns⟩ := x
  simp only at ho hsp hw
  subst ho
  have hm := formL_mem hf
  generalize fst32 s = w0 at *
  simp only [formL, List.mem_cons, Prod.mk.injEq, List.not_mem_nil, or_false] at hm
  rcases hm with ⟨rfl, rfl⟩ | ⟨rfl, rfl⟩ | ⟨rfl, rfl⟩ | ⟨rfl, rfl⟩ | ⟨rfl, rfl⟩ | ⟨rfl, rfl⟩ | ⟨rfl, rfl⟩ | ⟨rfl, rfl⟩ | ⟨rfl, rfl⟩ | ⟨rfl, rfl⟩ | ⟨rfl, rfl⟩ | ⟨rfl, rfl⟩ | ⟨rfl, rfl⟩
  · exact absurd rfl hne
  · obtain ⟨w1, _, n1, _, rfl, rfl, k1, q1⟩ := words_cons hw
    obtain ⟨w2, _, n2, _, rfl, rfl, k2, q2⟩ := words_cons q1
    obtain ⟨rfl, rfl⟩ := words_nil q2
    obtain ⟨⟨c, rfl, a1, a2⟩, rfl⟩ := word_r k1
    obtain ⟨b1, rfl⟩ := word_p k2
    exact .read a1 a2 b1
  · obtain ⟨w1, _, n1, _, rfl, rfl, k1, q1⟩ := words_cons hw
    obtain ⟨w2, _, n2, _, rfl, rfl, k2, q2⟩ := words_cons q1
    obtain ⟨rfl, rfl⟩ := words_nil q2
    obtain ⟨⟨c, rfl, a1, a2⟩, rfl⟩ := word_r k1
    obtain ⟨b1, rfl⟩ := word_d k2
    exact .list a1 a2 b1
  · obtain ⟨w1, _, n1, _, rfl, rfl, k1, q1⟩ := words_cons hw
    obtain ⟨w2, _, n2, _, rfl, rfl, k2, q2⟩ := words_cons q1
    obtain ⟨rfl, rfl⟩ := words_nil q2
    obtain ⟨⟨c, rfl, a1, a2⟩, rfl⟩ := word_r k1
    obtain ⟨⟨d, rfl, b1, b2⟩, rfl⟩ := word_r k2
    exact .join a1 a2 b1 b2
  · obtain ⟨w1, _, n1, _, rfl, rfl, k1, q1⟩ := words_cons hw
    obtain ⟨w2, _, n2, _, rfl, rfl, k2, q2⟩ := words_cons q1
    obtain ⟨w3, _, n3, _, rfl, rfl, k3, q3⟩ := words_cons q2
    obtain ⟨rfl, rfl⟩ := words_nil q3
    obtain ⟨⟨c, rfl, a1, a2⟩, rfl⟩ := word_r k1
    exact .cut a1 a2 (word_n k2) (word_n k3)
  · obtain ⟨w1, _, n1, _, rfl, rfl, k1, q1⟩ := words_cons hw
    obtain ⟨w2, _, n2, _, rfl, rfl, k2, q2⟩ := words_cons q1
    obtain ⟨rfl, rfl⟩ := words_nil q2
    obtain ⟨⟨c, rfl, a1, a2⟩, rfl⟩ := word_r k1
    obtain ⟨⟨d, rfl, b1, b2⟩, rfl⟩ := word_r k2
    exact .size a1 a2 b1 b2
  · obtain ⟨w1, _, n1, _, rfl, rfl, k1, q1⟩ := words_cons hw
    obtain ⟨rfl, rfl⟩ := words_nil q1
    obtain ⟨⟨c, rfl, a1, a2⟩, rfl⟩ := word_r k1
    exact .sum a1 a2
  · obtain ⟨w1, _, n1, _, rfl, rfl, k1, q1⟩ := words_cons hw
    obtain ⟨w2, _, n2, _, rfl, rfl, k2, q2⟩ := words_cons q1
    obtain ⟨rfl, rfl⟩ := words_nil q2
    obtain ⟨b1, rfl⟩ := word_p k1
    obtain ⟨⟨c, rfl, a1, a2⟩, rfl⟩ := word_r k2
    exact .make a1 a2 b1
  · obtain ⟨w1, _, n1, _, rfl, rfl, k1, q1⟩ := words_cons hw
    obtain ⟨w2, _, n2, _, rfl, rfl, k2, q2⟩ := words_cons q1
    obtain ⟨rfl, rfl⟩ := words_nil q2
    obtain ⟨b1, rfl⟩ := word_p k1
    obtain ⟨⟨c, rfl, a1, a2⟩, rfl⟩ := word_r k2
    exact .run a1 a2 b1
  · obtain ⟨w1, _, n1, _, rfl, rfl, k1, q1⟩ := words_cons hw
    obtain ⟨w2, _, n2, _, rfl, rfl, k2, q2⟩ := words_cons q1
    obtain ⟨w3, _, n3, _, rfl, rfl, k3, q3⟩ := words_cons q2
    obtain ⟨rfl, rfl⟩ := words_nil q3
    obtain ⟨⟨c, rfl, a1, a2⟩, rfl⟩ := word_r k1
    obtain ⟨⟨d, rfl, b1, b2⟩, rfl⟩ := word_r k2
    exact .same a1 a2 b1 b2 (word_l k3)
  · obtain ⟨w1, _, n1, _, rfl, rfl, k1, q1⟩ := words_cons hw
    obtain ⟨w2, _, n2, _, rfl, rfl, k2, q2⟩ := words_cons q1
    obtain ⟨w3, _, n3, _, rfl, rfl, k3, q3⟩ := words_cons q2
    obtain ⟨rfl, rfl⟩ := words_nil q3
    obtain ⟨⟨c, rfl, a1, a2⟩, rfl⟩ := word_r k1
    obtain ⟨⟨d, rfl, b1, b2⟩, rfl⟩ := word_r k2
    exact .less a1 a2 b1 b2 (word_l k3)
  · obtain ⟨w1, _, n1, _, rfl, rfl, k1, q1⟩ := words_cons hw
    obtain ⟨rfl, rfl⟩ := words_nil q1
    exact .goto (word_l k1)
  · obtain ⟨w1, _, n1, _, rfl, rfl, k1, q1⟩ := words_cons hw
    obtain ⟨rfl, rfl⟩ := words_nil q1
    exact .exit (word_e k1)
theorem numT_le {w : List UInt8} {most n : Nat} (h : numT w most = some n) : n ≤ most ∧ n < 1000000 := by
  unfold numT at h
  split at h
  · rename_i hc; cases h; exact ⟨hc.2.2.2.2, valN_len hc.1 hc.2.2.1⟩
  · cases h
structure McI (m : Mc) : Prop where
  ok : McOk m
  pth : ∀ f ∈ m.made, isPathB f.path = true ∧ f.text.length ≤ 100000
  many : (ksP m.made).length ≤ 60
  pc : m.pc ≤ 1000000
  code : m.code ≤ 104
  meet : ∀ p ∈ ksP m.made, ∀ q ∈ ksP m.made, insT p q = false
theorem McI.end_ {m : Mc} (h : McI m) {l k : Nat} (hl : l ≤ 100000) (hk : k ≤ 104) : McI (endM k { m with left := l }) :=
  ⟨⟨⟨h.ok.reg.nd, h.ok.reg.no⟩, h.ok.len, hl⟩, h.pth, h.many, h.pc, hk, h.meet⟩
theorem McI.trip {m : Mc} (h : McI m) {k : Nat} (hk : k ≤ 104) : McI (tripM k m) := by
  unfold tripM
  have := h.ok.left
  split
  · exact h.end_ (by omega) (by omega)
  · exact h.end_ (by omega) hk
theorem McI.set {m : Mc} (h : McI m) (r t : List UInt8) : McI (setM r t m) := by
  unfold setM keepM
  have := h.ok.left
  split
  · exact h.trip (by omega)
  split
  · exact h.end_ (by omega) (by omega)
  · rename_i h1 h2
    refine ⟨⟨⟨?_, fun k hk => ?_⟩, fun k => ?_, by show m.left - _ ≤ 100000; omega⟩, h.pth, h.many, h.pc, h.code, h.meet⟩
    · show (addK m.ks r).Nodup
      exact addU_nodup h.ok.reg.nd
    · have hk : k ∉ addK m.ks r := hk
      have hm : ∀ z, z ∈ addK m.ks r ↔ z ∈ m.ks ∨ z = r := fun z => addU_mem (l := m.ks) (s := r) (x := z)
      show updT m.regs r t k = []
      unfold updT
      rw [if_neg (fun e => hk ((hm k).2 (.inr e)))]
      exact h.ok.reg.no k (fun e => hk ((hm k).2 (.inl e)))
    · show (updT m.regs r t k).length ≤ 100000
      unfold updT
      split
      · omega
      · exact h.ok.len k
theorem McI.jump {m : Mc} (h : McI m) (b : Bool) {to : Nat} (ht : to ≤ 1000000) : McI (jumpM b to m) := by
  unfold jumpM
  have := h.ok.left
  split
  · exact h.end_ (by omega) (by omega)
  split
  · exact ⟨⟨⟨h.ok.reg.nd, h.ok.reg.no⟩, h.ok.len, by show m.left - 1 ≤ 100000; omega⟩, h.pth, h.many, ht, h.code, h.meet⟩
  · exact ⟨⟨⟨h.ok.reg.nd, h.ok.reg.no⟩, h.ok.len, by show m.left - 1 ≤ 100000; omega⟩, h.pth, h.many, h.pc, h.code, h.meet⟩
theorem McI.exit {m : Mc} (h : McI m) {k : Nat} (hk : k ≤ 104) : McI (exitM k m) := by
  unfold exitM
  have := h.ok.left
  split
  · exact h.end_ (by omega) (by omega)
  · exact h.end_ (by omega) hk
theorem badM_no {p : List UInt8} {c : List Fil} (h : badM p c = false) : ∀ q ∈ ksP c, insT p q = false ∧ insT q p = false := by
  intro q hq
  have h1 := List.any_eq_false.1 h q hq
  by_cases he : q = p
  · subst he; exact ⟨ins_self q, ins_self q⟩
  · have h2 : (q != p) = true := by simpa using he
    rw [h2] at h1
    unfold meetT at h1
    simp only [Bool.true_and, Bool.or_eq_true, not_or, Bool.not_eq_true] at h1
    exact ⟨h1.2, h1.1.2⟩
theorem McI.make {m : Mc} (h : McI m) {p t : List UInt8} (run : Bool) (hp : isPathB p = true) : McI (makeM p t run m) := by
  unfold makeM
  split
  · exact h.trip (by omega)
  · rename_i hb
    have hb1 : badM p m.made = false := by
      cases hq : badM p m.made with
      | false => rfl
      | true => exact absurd (.inl hq) hb
    have hno := badM_no hb1
    unfold keepM
    have := h.ok.left
    split
    · exact h.trip (by omega)
    split
    · exact h.end_ (by omega) (by omega)
    · rename_i h1 h2
      have hks : ksP (m.made ++ [⟨p, t, run⟩]) = addU (ksP m.made) p := ksP_add _ _
      refine ⟨⟨⟨h.ok.reg.nd, h.ok.reg.no⟩, h.ok.len, by show m.left - _ ≤ 100000; omega⟩, fun f hf => ?_, ?_, h.pc, h.code, ?_⟩
      · rcases List.mem_append.1 hf with hf | hf
        · exact h.pth f hf
        · obtain rfl := List.mem_singleton.1 hf
          exact ⟨hp, by show t.length ≤ 100000; omega⟩
      · show (ksP (m.made ++ [⟨p, t, run⟩])).length ≤ 60
        rw [hks, addU]
        have hm := h.many
        split
        · exact hm
        · rename_i hin
          have : (ksP m.made).length ≠ 60 := fun e => hb (.inr ⟨hin, e⟩)
          rw [List.length_append]
          show (ksP m.made).length + 1 ≤ 60
          omega
      · intro x hx y hy
        have hx : x ∈ ksP (m.made ++ [⟨p, t, run⟩]) := hx
        have hy : y ∈ ksP (m.made ++ [⟨p, t, run⟩]) := hy
        rw [hks, addU_mem] at hx hy
        rcases hx with hx | hx <;> rcases hy with hy | hy
        · exact h.meet x hx y hy
        · rw [hy]; exact (hno x hx).2
        · rw [hx]; exact (hno y hy).1
        · rw [hx, hy]; exact ins_self _
theorem McI.next {m : Mc} (h : McI m) (hp : m.pc + 1 ≤ 1000000) : McI { m with pc := m.pc + 1 } := ⟨⟨⟨h.ok.reg.nd, h.ok.reg.no⟩, h.ok.len, h.ok.left⟩, h.pth, h.many, hp, h.code, h.meet⟩
theorem McI.step {L : Nat} {fs : List Fil} {x : Ln} {m : Mc} (h : McI m) (hx : LnOk L x) (hL : L ≤ 1000) : McI (stepM fs x m) := by
  cases hx with
  | set => exact h.set _ _
  | @read c p =>
    show McI (match fs.find? (fun f => f.path == p) with | none => tripM 101 m | some f => setM [c] f.text m)
    split
    · exact h.trip (by omega)
    · exact h.set _ _
  | list => exact h.set _ _
  | join => exact h.set _ _
  | cut => exact h.set _ _
  | size => exact h.set _ _
  | sum => exact h.set _ _
  | make _ _ hp => exact h.make _ hp
  | run _ _ hp => exact h.make _ hp
  | same _ _ _ _ hw => exact h.jump _ (Nat.le_trans (numT_le hw).1 (by omega))
  | less _ _ _ _ hw => exact h.jump _ (Nat.le_trans (numT_le hw).1 (by omega))
  | goto hw => exact h.jump _ (Nat.le_trans (numT_le hw).1 (by omega))
  | exit hw => exact h.exit (Nat.le_trans (numT_le hw).1 (by decide))
end Go.Proofs.YtgmakmfdjhgjlaaGreatDoor
end
section
set_option linter.unusedVariables false
set_option linter.unusedSimpArgs false
set_option maxRecDepth 20000
set_option maxHeartbeats 4000000
namespace Go.Proofs.YtgmakmfdjhgjlaaGreatDoor
open Go Go.Ab
def LessM (m m' : Mc) : Prop := m'.done = true ∧ m'.left ≤ m.left ∨ m'.left < m.left
theorem LessM.le {m m' : Mc} (h : LessM m m') : m'.left ≤ m.left := by
  rcases h with ⟨_, h⟩ | h <;> omega
theorem trip_less (k : Nat) (m : Mc) : LessM m (tripM k m) := by
  unfold tripM
  split
  · exact .inl ⟨rfl, Nat.zero_le _⟩
  · exact .inl ⟨rfl, Nat.sub_le _ _⟩
theorem keep_less {t : List UInt8} {k : Mc → Mc} {m : Mc} (hk : ∀ m, (k m).left = m.left) : LessM m (keepM t k m) := by
  unfold keepM
  split
  · exact trip_less _ _
  split
  · exact .inl ⟨rfl, Nat.zero_le _⟩
  · rename_i h; right; rw [hk]; show m.left - _ < m.left; omega
theorem set_less (r t : List UInt8) (m : Mc) : LessM m (setM r t m) := keep_less fun _ => rfl
theorem make_less (p t : List UInt8) (run : Bool) (m : Mc) : LessM m (makeM p t run m) := by
  unfold makeM
  split
  · exact trip_less _ _
  · exact keep_less fun _ => rfl
theorem jump_less (b : Bool) (to : Nat) (m : Mc) : LessM m (jumpM b to m) := by
  unfold jumpM
  split
  · exact .inl ⟨rfl, Nat.zero_le _⟩
  split
  · right; show m.left - 1 < m.left; omega
  · right; show m.left - 1 < m.left; omega
theorem exit_less (k : Nat) (m : Mc) : LessM m (exitM k m) := by
  unfold exitM
  split
  · exact .inl ⟨rfl, Nat.zero_le _⟩
  · exact .inl ⟨rfl, Nat.sub_le _ _⟩
theorem step_less {L : Nat} {fs : List Fil} {x : Ln} {m : Mc} (hx : LnOk L x) : LessM m (stepM fs x m) := by
  cases hx with
  | set => exact set_less _ _ _
  | @read c p =>
    show LessM m (match fs.find? (fun f => f.path == p) with | none => tripM 101 m | some f => setM [c] f.text m)
    split
    · exact trip_less _ _
    · exact set_less _ _ _
  | list => exact set_less _ _ _
  | join => exact set_less _ _ _
  | cut => exact set_less _ _ _
  | size => exact set_less _ _ _
  | sum => exact set_less _ _ _
  | make => exact make_less _ _ _ _
  | run => exact make_less _ _ _ _
  | same => exact jump_less _ _ _
  | less => exact jump_less _ _ _
  | goto => exact jump_less _ _ _
  | exit => exact exit_less _ _
theorem runM_done {fs : List Fil} {prog : List Ln} {m : Mc} (h : m.done = true) : ∀ n, runM fs prog n m = m
  | 0 => rfl
  | n + 1 => by rw [runM, if_pos h]
theorem runM_fuel {L : Nat} {fs : List Fil} {prog : List Ln} (hp : ∀ x ∈ prog, LnOk L x) : ∀ (n : Nat) (m : Mc), m.left < n → runM fs prog n m = runM fs prog (m.left + 1) m := by
  intro n
  induction n using Nat.strongRecOn with
  | _ n ih =>
    intro m hn
    obtain ⟨k, rfl⟩ : ∃ k, n = k + 1 := ⟨n - 1, by omega⟩
    rw [runM, runM]
    split
    · rfl
    split
    · rfl
    · rename_i x hx
      have hless := step_less (fs := fs) (m := { m with pc := m.pc + 1 }) (hp x (List.mem_of_getElem? hx))
      rcases hless with ⟨hd, _⟩ | hl
      · rw [runM_done hd, runM_done hd]
      · have hl : (stepM fs x { m with pc := m.pc + 1 }).left < m.left := hl
        rw [ih k (by omega) _ (by omega)]
        by_cases he : m.left = k
        · subst he
          exact (ih m.left (by omega) _ hl).symm
        · exact (ih m.left (by omega) _ hl).symm
theorem progT_ok {com : List (List UInt8)} {L : Nat} (hs : ∀ s ∈ com, s.length ≤ 100000) {xs : List Ln} (h : progT L com = some xs) : xs.length = com.length ∧ ∀ x ∈ xs, LnOk L x := by
  induction com generalizing xs with
  | nil => cases h; exact ⟨rfl, fun x hx => by cases hx⟩
  | cons s r ih =>
    rw [progT] at h
    cases hq : lnOf L s with
    | none => rw [hq] at h; cases h
    | some x =>
      rw [hq] at h
      replace h : (progT L r).map (x :: ·) = some xs := h
      cases hr : progT L r with
      | none => rw [hr] at h; cases h
      | some ys =>
        rw [hr] at h
        cases h
        obtain ⟨k1, k2⟩ := ih (fun s hs' => hs s (List.mem_cons_of_mem _ hs')) hr
        refine ⟨by simp [k1], fun y hy => ?_⟩
        rcases List.mem_cons.1 hy with rfl | hy
        · exact lnOk_of hq (hs _ (List.mem_cons_self ..))
        · exact k2 y hy
theorem comE_long {com : List (List UInt8)} (h : comE com = 0) : com.length ≤ 60 ∧ (∀ s ∈ com, s.length ≤ 100000) ∧ ∃ xs, progT com.length com = some xs := by
  unfold comE checkL at h
  by_cases h1 : 60 < com.length
  · rw [if_pos h1] at h; simp at h
  · rw [if_neg h1] at h
    cases hq : com.any (fun s => decide (100000 < s.length)) with
    | true => rw [hq] at h; simp at h
    | false =>
      rw [hq] at h
      refine ⟨by omega, fun s hs => by have := List.any_eq_false.1 hq s hs; simpa using this, ?_⟩
      cases hp : progT com.length com with
      | none => rw [hp] at h; simp at h
      | some xs => exact ⟨xs, rfl⟩
theorem mc0_ok {fuel : Nat} (h : fuel ≤ 100000) : McI (mc0 fuel) :=
  ⟨⟨⟨.nil, fun _ _ => rfl⟩, fun r => by show ([] : List UInt8).length ≤ 100000; simp, h⟩, (fun f hf => by cases hf), by show (ksP []).length ≤ 60; simp [ksP], by show 0 ≤ 1000000; omega, by show 0 ≤ 104; omega, (fun p hp => by cases hp)⟩
theorem Values_ok (a b c d e : Nat) (fs : List Fil) (m : Mc) (x y : Nat) : CallOk cx 27 [.map 1 b] (mcH a b c d e fs m [(x, none), (y, none)])
    (fun o s => o = .ret (.func (.func 65) [] [.ptr 5 (x + 1) 0]) ∧ s = mcH a b c d e fs m [(x + 1, some (.cells [.map 1 b] ⟨false, none⟩)), (y, none)]) :=
  callOk_intro (fun a w => Tryz.call27 a w) Tryz.func27 rfl Tryz.ntmps27 rfl fun B => by
    refine pB [] rfl ?_
    exact S_ret ⟨_, _, rfl, trivial, rfl, rfl⟩
end Go.Proofs.YtgmakmfdjhgjlaaGreatDoor
end
section
set_option linter.unusedVariables false
set_option linter.unusedSimpArgs false
set_option maxRecDepth 20000
set_option maxHeartbeats 4000000
namespace Go.Proofs.YtgmakmfdjhgjlaaGreatDoor
open Go Go.Ab
def SortsF : Prop := ∀ (a b c d e x : Nat) (fs : List Fil) (m : Mc) (g : Tag) (τ : Heap), (ksP m.made).length ≤ 1000 → CallOk cx 26 [.func (.func 65) [] [.ptr 5 x 0], .func (.func 28) [] []] (mcH a b c d e fs m ((x, some (.cells [.map 1 b] g)) :: τ))
    (fun o s => o = .ret (.sl true false 3 (fils (ovT m.made))) ∧ s = mcH a b c d e fs m ((x, some (.cells [.map 1 b] g)) :: τ))
theorem call_step {L : Nat} {fs : List Fil} (hf : TrOk fs) {x : Ln} (hx : LnOk L x) (hL : L ≤ 1000) : ∃ (g : FuncId) (i : Nat), findK (.str x.op) stKV 0 = some (some (i, .func (.func g) [] [])) ∧
    ∀ (a b c d e : Nat) (m : Mc) (τ : Heap), McI m → CallOk cx g ([] ++ [.ptr 3 d 0, lnA x] ++ []) (mcH a b c d e fs m τ) (fun o s => o = .ret (.tup []) ∧ s = mcH a b c d e fs (stepM fs x m) τ) := by
  have hpl : ∀ {p : List UInt8}, isPathB p = true → p.length ≤ 10000000 := fun h => by have := (path_fst h).2.1; omega
  have hq : ∀ {m : Mc}, McI m → ∀ q ∈ ksP m.made, q.length ≤ 10000000 := fun hm q hq => by
    obtain ⟨f, hf, rfl⟩ := ksP_mem.1 hq
    exact hpl (hm.pth f hf).1
  cases hx with
  | @set c0 t _ _ ht => exact ⟨_, 0, rfl, fun a b c d e m τ hm => st1_ok fs [c0] t (by omega) a b c d e m τ hm.ok⟩
  | @read c0 p => exact ⟨_, 1, rfl, fun a b c d e m τ hm => st2_ok fs hf [c0] p _ a b c d e m τ hm.ok⟩
  | @list c0 p _ _ hp => exact ⟨_, 2, rfl, fun a b c d e m τ hm => st3_ok fs hf [c0] p (by rcases hp with rfl | hp; decide; exact hpl hp) _ a b c d e m τ hm.ok⟩
  | @join c0 d0 => exact ⟨_, 3, rfl, fun a b c d e m τ hm => st4_ok fs [c0] [d0] _ a b c d e m τ hm.ok⟩
  | @cut c0 v w i j _ _ hv hw => exact ⟨_, 4, rfl, fun a b c d e m τ hm => st5_ok fs [c0] [v, w] 0 i j (by have := (numT_le hv).1; omega) (by have := (numT_le hw).1; omega) a b c d e m τ hm.ok⟩
  | @size c0 d0 => exact ⟨_, 5, rfl, fun a b c d e m τ hm => st6_ok fs [c0] [d0] _ a b c d e m τ hm.ok⟩
  | @sum c0 => exact ⟨_, 6, rfl, fun a b c d e m τ hm => st7_ok fs [c0] _ a b c d e m τ hm.ok⟩
  | @make c0 p _ _ hp => exact ⟨_, 7, rfl, fun a b c d e m τ hm => st8_ok fs p [c0] _ (hpl hp) a b c d e m τ hm.ok (hq hm)⟩
  | @run c0 p _ _ hp => exact ⟨_, 8, rfl, fun a b c d e m τ hm => st9_ok fs p [c0] _ (hpl hp) a b c d e m τ hm.ok (hq hm)⟩
  | @same c0 d0 w j => exact ⟨_, 9, rfl, fun a b c d e m τ hm => st10_ok fs [c0] [d0] [w] 0 0 j a b c d e m τ hm.ok⟩
  | @less c0 d0 w j => exact ⟨_, 10, rfl, fun a b c d e m τ hm => st11_ok fs [c0] [d0] [w] 0 0 j a b c d e m τ hm.ok⟩
  | @goto w j => exact ⟨_, 11, rfl, fun a b c d e m τ hm => st12_ok fs [w] j a b c d e m τ hm.ok⟩
  | @exit w j => exact ⟨_, 12, rfl, fun a b c d e m τ hm => st13_ok fs [w] j a b c d e m τ hm.ok⟩
def runAV (fs : List Fil) (com : List (List UInt8)) (fuel : Int) : AV :=
  .tup [.sl true false 3 (fils (if boxE fs com fuel = 0 then ovT (runT fs com fuel.toNat).made else [])), .int .i64 (if boxE fs com fuel = 0 then (runT fs com fuel.toNat).code else 0 : Nat),
    .int .i64 (if boxE fs com fuel = 0 then fuel.toNat - (runT fs com fuel.toNat).left else 0 : Nat), .int .i64 (boxE fs com fuel : Nat)]
theorem runAV_free (fs : List Fil) (com : List (List UInt8)) (fuel : Int) : Free true (runAV fs com fuel) := .tup (by intro x hx; simp at hx; rcases hx with rfl | rfl | rfl | rfl; exact .sl (fun _ => rfl) (fils_free _); exact .int; exact .int; exact .int)
theorem run_frz {σ : Heap} {a : AV} {l : List AV} {i j e i' j' e' : Int} (h : Frz true σ a (.sl true false 3 l)) (hi : i = i') (hj : j = j') (he : e = e') : Frz true σ (.tup [a, .int .i64 i, .int .i64 j, .int .i64 e]) (.tup [.sl true false 3 l, .int .i64 i', .int .i64 j', .int .i64 e']) := by
  subst hi; subst hj; subst he
  refine .tup rfl fun k h1 h2 => ?_
  match k, h1 with
  | 0, _ => exact h
  | 1, _ => exact .refl .int
  | 2, _ => exact .refl .int
  | 3, _ => exact .refl .int
  | k + 4, h => exact absurd h (by simp)
theorem TrOk.of {fs : List Fil} (h : chkT fs = 0) : TrOk fs := by
  have hd := DirOk.of h
  exact ⟨hd.len, ok_paths hd.ok, fun f hf => (path_fst (hd.path f hf)).2.1, hd.text⟩
theorem ksP_nd {l : List Fil} (h : (l.map Fil.path).Nodup) : ksP l = l.map Fil.path := by
  have key : ∀ (l : List Fil) (a : List (List UInt8)), (a ++ l.map Fil.path).Nodup → l.foldl (fun ks f => addU ks f.path) a = a ++ l.map Fil.path := by
    intro l
    induction l with
    | nil => intro a _; simp
    | cons f r ih =>
      intro a ha
      rw [List.map_cons] at ha
      have hn : f.path ∉ a := fun hm => (List.nodup_append.1 ha).2.2 f.path hm f.path (List.mem_cons_self ..) rfl
      rw [List.foldl_cons, addU, if_neg hn, ih _ (by rw [List.append_assoc]; exact ha), List.map_cons, List.append_assoc]; rfl
  have := key l [] (by simpa using h)
  simpa [ksP] using this
def mcG (e n : Nat) (fs gs : List Fil) (m : Mc) (τ : Heap) : Heap :=
  (0, mapBx (fs.map Fil.path) (vaP fs)) :: (0, mapBx (ksP m.made) (vaP m.made)) :: (0, regX m) :: (0, some (.cells (mcC 0 0 0 n n m) ⟨false, some 54⟩)) :: (e, some (.cells (texts (gs.map Fil.path)) ⟨false, none⟩)) :: τ
theorem Run_ok (hSF : SortsF) {st fl st' fl' : Bool} (fs : List Fil) (com : List (List UInt8)) (fuel : Int) (hfs : FilsOk fs) (hcl : com.length ≤ 1000000000000) (hfu : -9223372036854775808 ≤ fuel ∧ fuel ≤ 9223372036854775807) :
    Calc cx 13 [.sl st fl 3 (fils fs), .sl st' fl' 1 (texts com), .int .i64 fuel] (runAV fs com fuel) :=
  pure_intro (fun a w => Tryz.call13 a w) Tryz.func13 rfl Tryz.ntmps13 rfl (runAV_free fs com fuel) fun B => by
    have hC := Check_ok (st := st) (fl := fl) fs hfs
    have hP := program_ok (st := st') (fl := fl') com hcl
    have hfr1 : ∀ σ : Heap, Frzs σ [.sl st fl 3 (fils fs)] [.sl st fl 3 (fils fs)] := fun σ => .cons (.refl (.sl (fun h => by cases h) (fils_free _))) (.nil _)
    have hfr2 : ∀ σ : Heap, Frzs σ [.sl st' fl' 1 (texts com)] [.sl st' fl' 1 (texts com)] := fun σ => .cons (.refl (.sl (fun h => by cases h) (texts_any _))) (.nil _)
    unfold runAV
    by_cases h0 : chkT fs = 0
    case neg =>
      have hb : boxE fs com fuel = chkT fs := by unfold boxE; rw [if_neg h0]
      rw [hb, if_neg h0, if_neg h0, if_neg h0]
      generalize chkT fs = k at *
      refine pa [.v (.int .i64 (k : Nat)), .b true] rfl ?_ ?_
      · (repeat' with_reducible apply AllP_cons) <;> try exact aC
        · exact ⟨_, hC, hfr1 _⟩
        · simpa using h0
      exact S_ret ⟨_, _, rfl, trivial, _, rfl, run_frz .nils rfl rfl rfl⟩
    rw [h0] at hC
    have hTr := TrOk.of h0
    unfold proAV at hP
    by_cases h1 : comE com = 0
    case neg =>
      have hb : boxE fs com fuel = comE com := by unfold boxE; rw [if_pos h0, if_neg h1]
      rw [hb, if_neg h1, if_neg h1, if_neg h1]
      rw [if_neg h1] at hP
      generalize comE com = k at *
      generalize comI com = k2 at *
      refine pa [.v (.int .i64 ((0 : Nat) : Int)), .b false, .v (.tup [.sl true false 3 (lns []), .int .i64 (k2 : Nat), .int .i64 (k : Nat)]), .b true] rfl ?_ ?_
      · (repeat' with_reducible apply AllP_cons) <;> try exact aC
        · exact ⟨_, hC, hfr1 _⟩
        · exact ⟨_, hP, hfr2 _⟩
        · simpa using h1
      exact S_ret ⟨_, _, rfl, trivial, _, rfl, run_frz .nils rfl rfl rfl⟩
    have hI0 : comI com = 0 := by unfold comI; rw [h1]; rfl
    obtain ⟨hc60, hcs, prog, hpr⟩ := comE_long h1
    obtain ⟨hpl, hpo⟩ := progT_ok hcs hpr
    rw [if_pos h1, h1, hI0, hpr] at hP
    have hP : Calc cx 22 [.sl st' fl' 1 (texts com)] (.tup [.sl true false 3 (lns prog), .int .i64 ((0 : Nat) : Int), .int .i64 ((0 : Nat) : Int)]) := hP
    have hrT : ∀ k, runT fs com k = runM fs prog (k + 1) (mc0 k) := fun k => by unfold runT; rw [hpr]; rfl
    by_cases hlo : fuel < 0
    · have hb : boxE fs com fuel = 3 := by unfold boxE; rw [if_pos h0, if_pos h1, if_pos (.inl hlo)]
      rw [hb, if_neg (by decide), if_neg (by decide), if_neg (by decide)]
      refine pa [.v (.int .i64 ((0 : Nat) : Int)), .b false, .v (.tup [.sl true false 3 (lns prog), .int .i64 ((0 : Nat) : Int), .int .i64 ((0 : Nat) : Int)]), .b false, .b true, .b true] rfl ?_ ?_
      · (repeat' with_reducible apply AllP_cons) <;> try exact aC
        · exact ⟨_, hC, hfr1 _⟩
        · exact ⟨_, hP, hfr2 _⟩
      exact S_ret ⟨_, _, rfl, trivial, _, rfl, run_frz .nils rfl rfl rfl⟩
    by_cases hhi : 100000 < fuel
    · have hb : boxE fs com fuel = 3 := by unfold boxE; rw [if_pos h0, if_pos h1, if_pos (.inr hhi)]
      rw [hb, if_neg (by decide), if_neg (by decide), if_neg (by decide)]
      refine pa [.v (.int .i64 ((0 : Nat) : Int)), .b false, .v (.tup [.sl true false 3 (lns prog), .int .i64 ((0 : Nat) : Int), .int .i64 ((0 : Nat) : Int)]), .b false, .b false, .b true] rfl ?_ ?_
      · (repeat' with_reducible apply AllP_cons) <;> try exact aC
        · exact ⟨_, hC, hfr1 _⟩
        · exact ⟨_, hP, hfr2 _⟩
      exact S_ret ⟨_, _, rfl, trivial, _, rfl, run_frz .nils rfl rfl rfl⟩
    have hb : boxE fs com fuel = 0 := by unfold boxE; rw [if_pos h0, if_pos h1, if_neg (by rintro (h | h) <;> omega)]
    rw [hb, if_pos rfl, if_pos rfl, if_pos rfl, hrT]
    obtain ⟨fu, rfl⟩ : ∃ fu : Nat, fuel = (fu : Int) := ⟨fuel.toNat, by omega⟩
    rw [Int.toNat_natCast]
    refine pa [.v (.int .i64 ((0 : Nat) : Int)), .b false, .v (.tup [.sl true false 3 (lns prog), .int .i64 ((0 : Nat) : Int), .int .i64 ((0 : Nat) : Int)]), .b false, .b false, .b false] rfl ?_ ?_
    · (repeat' with_reducible apply AllP_cons) <;> try exact aC
      · exact ⟨_, hC, hfr1 _⟩
      · exact ⟨_, hP, hfr2 _⟩
    have mE : (0, some (Box.map [] (some ([], 0)))) = ((0, some (.map [] (some ([], 0)))) : Nat × Option Box) := rfl
    refine pa [.f (.map 0 0) (fun _ => [(0, some (.map [] (some ([], 0))))]), .f (.map 1 0) (fun _ => [(0, some (.map [] (some ([], 0)))), (0, some (.map [] (some ([], 0))))]), .f (.map 2 0) (fun _ => [(0, some (.map [] (some ([], 0)))), (0, some (.map [] (some ([], 0)))), (0, some (.map [] (some ([], 0))))])] rfl ?_ ?_
    · (repeat' with_reducible apply AllP_cons) <;> try exact aC
      all_goals exact OpSpec.mapN (C := []) rfl trivial
    refine S_unstamp (id := 0) rfl ?_ ⟨_, _, .inl rfl⟩
    refine S_unstamp (id := 1) rfl ?_ ⟨_, _, .inl rfl⟩
    refine S_unstamp (id := 2) rfl ?_ ⟨_, _, .inl rfl⟩
    refine S_ghost (id := 3) (j := 1) (gid := 4) (gver := 0) 1 ⟨false, none⟩ rfl rfl rfl (by decide) ⟨_, _, .inl rfl⟩ ?_
    refine S_dead ?_ ⟨_, _, .inl rfl⟩
    have hfl := fils_len fs
    have htn := hTr.len
    refine S_while (α := Nat) (fun i => [(2, .int .i64 (fu : Nat)), (11, .sl true false 3 (lns prog)), (14, .ptr 3 0 0), (45, .sl st fl 3 (fils fs)), (46, .int .i64 (((fils fs).length : Nat) : Int)), (47, .int .i64 (i : Nat))])
      (fun i => mcH 0 0 0 0 i (fs.take i) (mc0 fu) [(i, none)]) (fun i => i ≤ fs.length) (fun i => fs.length - i) 0
      (Nat.zero_le _) (.cons rfl (.cons rfl (.cons rfl (.cons rfl (.cons rfl (.cons rfl (.nil _))))))) rfl ?_
    intro i hi
    have hi : i ≤ fs.length := hi
    by_cases hlt : i < fs.length
    · have e1 : decide ((i : Int) < (((fils fs).length : Nat) : Int)) = true := decide_eq_true (by omega)
      have g1 : (fils fs)[(i : Int).toNat]? = some (filA fs[i]) := fils_get hlt
      have htl : (fs.take i).length = i := by rw [List.length_take]; omega
      have htl2 : (fs.take (i + 1)).length = i + 1 := by rw [List.length_take]; omega
      have hnd : ∀ j, ((fs.take j).map Fil.path).Nodup := fun j => by rw [List.map_take]; exact (List.take_sublist ..).nodup hTr.nd
      have hmap : mapBx (addK ((fs.take i).map Fil.path) fs[i].path) (updF (vaP (fs.take i)) fs[i].path (filA fs[i])) = mapBx ((fs.take (i + 1)).map Fil.path) (vaP (fs.take (i + 1))) := by
        have := mapP_add (fs.take i) fs[i]
        rw [← List.take_succ_eq_append_getElem hlt, ksP_nd (hnd i), ksP_nd (hnd (i + 1))] at this
        exact this
      have htx : texts ((fs.take i).map Fil.path) ++ [.str fs[i].path] = texts ((fs.take (i + 1)).map Fil.path) := by
        rw [List.take_succ_eq_append_getElem hlt]; unfold texts; rw [List.map_append, List.map_append]; rfl
      refine S_heap (mcG i i (fs.take i) (fs.take i) (mc0 fu) [(i, none)]) (by unfold mcH mcG; rw [htl]) ?_
      refine pa [.b true, .v (filA fs[i]), .f (.tup []) (fun _ => mcG i i (fs.take (i + 1)) (fs.take i) (mc0 fu) [filBx (i + 1) fs[i]]), .d 8 9 [] (fun _ => mcG (i + 1) i (fs.take (i + 1)) (fs.take (i + 1)) (mc0 fu) [filBx (i + 1) fs[i]]) [.ms 4 (i + 1) 0 (i + 1) 1 false], .s] rfl ?_ ?_
      · (repeat' with_reducible apply AllP_cons) <;> try exact aC
        all_goals first | exact OpSpec.mput (kt := 9) (et := 38) (ks := (fs.take i).map Fil.path) (val := vaP (fs.take i)) (s := fs[i].path) (v := filA fs[i]) rfl (Tryz.underlying51) rfl rfl rfl rfl rfl (hnd i) (by rw [hmap]; rfl) | skip
        · show 0 + i * 1 = (texts ((fs.take i).map Fil.path)).length
          simp [texts]; omega
        · show (i + 1) * 16 ≤ 140737488355328; omega
        · rw [← htx]; rfl
      refine pan 3 [] rfl ?_ ?_
      · (repeat' with_reducible apply AllP_cons) <;> try exact aC
      refine S_drop (id := 5) rfl ?_ ⟨.skip, _, .inr ⟨_, _, _, rfl⟩⟩
      refine S_heap (mcH 0 0 0 0 (i + 1) (fs.take (i + 1)) (mc0 fu) [(i + 1, none)]) (by unfold mcH; rw [htl2]; rfl) ?_
      refine pB [] rfl ?_
      exact S_round (i + 1) (by show fs.length - (i + 1) < fs.length - i; omega) hlt (.cons rfl (.cons rfl (.cons rfl (.cons rfl (.cons rfl (.cons (nX (by omega)) (.nil _))))))) rfl
    · have e1 : decide ((i : Int) < (((fils fs).length : Nat) : Int)) = false := decide_eq_false (by omega)
      obtain rfl : i = fs.length := by omega
      rw [List.take_length]
      obtain ⟨e, he⟩ : ∃ e, e = fs.length := ⟨_, rfl⟩
      rw [← he]
      rw [← he] at e1
      refine pB [.b false] rfl ?_
      refine S_dead ?_ ⟨_, _, .inl rfl⟩
      have hlp := lns_len prog
      have hmc : McI (mc0 fu) := mc0_ok (by omega)
      refine S_while (α := Mc × Nat × Nat) (fun s => [(2, .int .i64 (fu : Nat)), (11, .sl true false 3 (lns prog)), (14, .ptr 3 0 0)])
        (fun s => mcH 0 0 0 0 e fs s.1 [(s.2.1, none), (s.2.2, none)]) (fun s => McI s.1 ∧ s.1.left ≤ fu ∧ runM fs prog (s.1.left + 1) s.1 = runM fs prog (fu + 1) (mc0 fu)) (fun s => if s.1.done then 0 else s.1.left + 1) (mc0 fu, e, 0)
        ⟨hmc, Nat.le_refl _, rfl⟩ (.cons rfl (.cons rfl (.cons rfl (.nil _)))) rfl ?_
      rintro ⟨m, x, y⟩ ⟨hI, hlf, hrun⟩
      have hlf : m.left ≤ fu := hlf
      have hI : McI m := hI
      have hmany := hI.many
      have hrun : runM fs prog (m.left + 1) m = runM fs prog (fu + 1) (mc0 fu) := hrun
      show S _ _ _ _ _ _ (mcH 0 0 0 0 e fs m [(x, none), (y, none)])
      cases hd : m.done with
      | true =>
        rw [← hrun, runM_done hd]
        refine pa [.b false, .b false, .f (.func (.func 65) [] [.ptr 5 (x + 1) 0]) (fun _ => mcH 0 0 0 0 e fs m [(x + 1, some (.cells [.map 1 0] ⟨false, none⟩)), (y, none)]), .k (.sl true false 3 (fils (ovT m.made)))] rfl ?_ ?_
        · (repeat' with_reducible apply AllP_cons) <;> try exact aC
          · rw [hd]; rfl
          · exact Values_ok 0 0 0 0 e fs m x y
          · exact hSF 0 0 0 0 e (x + 1) fs m ⟨false, none⟩ [(y, none)] (by omega)
        exact S_ret ⟨_, _, rfl, trivial, _, rfl, run_frz (.refl (.sl (fun _ => rfl) (fils_free _))) rfl (by
          show IntKind.i64.wrap ((fu : Int) - (m.left : Int)) = ((fu - m.left : Nat) : Int)
          have := hI.ok.left
          rw [IntWalk.i64_in _ ⟨by omega, by omega⟩]; omega) rfl⟩
      | false =>
        by_cases hpl : m.pc < prog.length
        · have e2 : decide ((m.pc : Int) < (((lns prog).length : Nat) : Int)) = true := decide_eq_true (by omega)
          have hxo := hpo _ (List.getElem_mem hpl)
          have g2 : (lns prog)[(m.pc : Int).toNat]? = some (lnA prog[m.pc]) := by rw [Int.toNat_natCast]; simp [lns, List.getElem?_eq_getElem hpl]
          obtain ⟨g, ix, hfk, hcall⟩ := call_step hTr hxo (by omega)
          have hstep : runM fs prog (m.left + 1) m = runM fs prog m.left (stepM fs prog[m.pc] { m with pc := m.pc + 1 }) := by
            rw [runM, hd, List.getElem?_eq_getElem hpl]; rfl
          have hIn := hI.next (by omega : m.pc + 1 ≤ 1000000)
          have hI2 := hIn.step (fs := fs) hxo (by omega)
          have hless := step_less (fs := fs) (m := { m with pc := m.pc + 1 }) hxo
          have hLe : (stepM fs prog[m.pc] { m with pc := m.pc + 1 }).left ≤ fu := Nat.le_trans hless.le hlf
          generalize prog[m.pc] = z at *
          refine pa [.b true, .b true, .v (lnA z)] rfl ?_ ?_
          · (repeat' with_reducible apply AllP_cons) <;> try exact aC
            · rw [hd]; rfl
          refine S_heap (mcH 0 0 0 0 e fs { m with pc := m.pc + 1 } [(x + 1, some (.cells (lnC z) ⟨false, some 57⟩)), (y, none)]) ?_ ?_
          · have hw : IntKind.i64.wrap ((m.pc : Int) + 1) = ((m.pc + 1 : Nat) : Int) := by rw [IntWalk.i64_in _ ⟨by omega, by omega⟩]; omega
            unfold mcH mcC
            show _ = [_, _, _, (0, some (Box.cells [_, _, _, _, .int .i64 ((m.pc + 1 : Nat) : Int), _, _, _] _)), _, _, _]
            rw [← hw]; rfl
          refine S_drawW (mcH 0 0 0 0 e fs { m with pc := m.pc + 1 } [(x + 1, some (.cells (lnC z) ⟨false, some 57⟩)), (y + 1, some (.map stKV none))]) 0 6 [] [.map 6 (y + 1), .func (.func g) [] []] rfl rfl rfl rfl rfl ?_ ?_
          · (repeat' with_reducible apply AllP_cons) <;> try exact aC
            all_goals first | exact steps_ok 0 0 0 0 e fs { m with pc := m.pc + 1 } (x + 1) (.cells (lnC z) ⟨false, some 57⟩) y | exact OpSpec.map (some (ix, .func (.func g) [] [])) (C := [y + 1 = y + 1, findK (.str z.op) stKV 0 = some (some (ix, .func (.func g) [] []))]) rfl ⟨rfl, hfk, trivial⟩
          refine pan 1 [.f (.tup []) (fun _ => mcH 0 0 0 0 e fs (stepM fs z { m with pc := m.pc + 1 }) [(x + 1, some (.cells (lnC z) ⟨false, some 57⟩)), (y + 1, some (.map stKV none))])] rfl ?_ ?_
          · (repeat' with_reducible apply AllP_cons) <;> try exact aC
            · exact hcall 0 0 0 0 e _ _ hIn
          refine S_drop (id := 5) rfl ?_ ⟨.skip, _, .inr ⟨_, _, _, rfl⟩⟩
          refine S_drop (id := 6) rfl ?_ ⟨.skip, _, .inr ⟨_, _, _, rfl⟩⟩
          refine pB [] rfl ?_
          refine S_round (stepM fs z { m with pc := m.pc + 1 }, x + 1, y + 1) ?_ ⟨hI2, hLe, ?_⟩ (.cons rfl (.cons rfl (.cons rfl (.nil _)))) rfl
          · show (if (stepM fs z { m with pc := m.pc + 1 }).done = true then 0 else (stepM fs z { m with pc := m.pc + 1 }).left + 1) < if m.done = true then 0 else m.left + 1
            rw [if_neg (show ¬ m.done = true by rw [hd]; decide)]
            rcases hless with ⟨h1, _⟩ | h1
            · rw [if_pos h1]; omega
            · have h1 : (stepM fs z { m with pc := m.pc + 1 }).left < m.left := h1
              split <;> omega
          · show runM fs prog ((stepM fs z { m with pc := m.pc + 1 }).left + 1) (stepM fs z { m with pc := m.pc + 1 }) = _
            rw [← hrun, hstep]
            rcases hless with ⟨h1, _⟩ | h1
            · rw [runM_done h1, runM_done h1]
            · exact (runM_fuel hpo _ _ h1).symm
        · have e2 : decide ((m.pc : Int) < (((lns prog).length : Nat) : Int)) = false := decide_eq_false (by omega)
          have hm : runM fs prog (m.left + 1) m = m := by rw [runM, hd, List.getElem?_eq_none (by omega)]; rfl
          rw [← hrun, hm]
          refine pa [.b true, .b false, .f (.func (.func 65) [] [.ptr 5 (x + 1) 0]) (fun _ => mcH 0 0 0 0 e fs m [(x + 1, some (.cells [.map 1 0] ⟨false, none⟩)), (y, none)]), .k (.sl true false 3 (fils (ovT m.made)))] rfl ?_ ?_
          · (repeat' with_reducible apply AllP_cons) <;> try exact aC
            · rw [hd]; rfl
            · exact Values_ok 0 0 0 0 e fs m x y
            · exact hSF 0 0 0 0 e (x + 1) fs m ⟨false, none⟩ [(y, none)] (by omega)
          exact S_ret ⟨_, _, rfl, trivial, _, rfl, run_frz (.refl (.sl (fun _ => rfl) (fils_free _))) rfl (by
            show IntKind.i64.wrap ((fu : Int) - (m.left : Int)) = ((fu - m.left : Nat) : Int)
            have := hI.ok.left
            rw [IntWalk.i64_in _ ⟨by omega, by omega⟩]; omega) rfl⟩
end Go.Proofs.YtgmakmfdjhgjlaaGreatDoor
end
section
set_option linter.unusedVariables false
set_option linter.unusedSimpArgs false
namespace Go.Ab
open Go
theorem wpListIn_spec {cx : Cx} {F : Fence} (hF : ∀ f, F.fn f) {nF n : Nat} {ops : Array Oper} {Q : Exit → Act → World → Prop} {rest : List Oper} {o : Oper} {fr : Fr} {σ σ' : Heap} {v : AV} {r : Rl} {a : Act} {w : World}
    (hg : o.guard = none) (hd : dstOk n o.dst = true) (hdf : ∀ c, o.op ≠ .defer c) (hs : OpSpec cx n fr σ o v σ') (hi : Inv cx r σ w) (hf : FRel r w n fr a)
    (hK : ∀ r' w' v', VRel r' w' v' v → Inv cx r' σ' w' → Ext r σ w r' σ' w' → FRel r' w' n (setA o.dst v fr) (a.put o.dst v') → wpListIn F nF cx.P ops Q rest (a.put o.dst v') w') : wpListIn F nF cx.P ops Q (o :: rest) a w := by
  refine wpListIn_plain hg fun K hK' => ⟨fun f _ => hF f, ?_⟩
  rw [Oper.semAt_eq _ _ _ hdf]
  obtain ⟨r', w', v', hrun, hv, hi', hx⟩ := hs r a w hi hf
  have hf' := (hf.mono (hx.grow hi)).setA hd hv
  rcases hrun with hrun | ⟨hrun, rfl⟩
  · rw [hrun]; exact hK' _ _ (hK r' w' v' hv hi' hx hf')
  · rw [hrun]; exact hK' _ _ (hK r' w' undef hv hi' hx hf')
theorem put_defers (a : Act) (d : Option Nat) (v : Value) : (a.put d v).defers = a.defers := by cases d <;> rfl
structure Off (r : Rl) (l : Nat) : Prop where
  ρ : ∀ id ver o, r.ρ id ver ≠ some (l, o)
  I : ¬ r.I l
theorem Off.live {r : Rl} {l : Nat} (h : Off r l) (σ : Heap) : ¬ Live r σ l := by
  rintro ⟨id, ver, x, o, _, h2⟩
  exact h.ρ id ver o h2
theorem Off.ext {r r' : Rl} {σ σ' : Heap} {w w' : World} {l : Nat} (h : Off r l) (hl : l < w.heap.size) (hx : Ext r σ w r' σ' w') : Off r' l := by
  refine ⟨fun id ver o hρ => ?_, fun hI => ?_⟩
  · rcases hx.blk id ver l o hρ with ⟨v, o', h'⟩ | h'
    · exact h.ρ _ _ _ h'
    · omega
  · rcases hx.If l hI with h' | h' | h'
    · exact h.I h'
    · exact h.live σ h'
    · omega
theorem Off.same {r r' : Rl} {σ σ' : Heap} {w w' : World} {l : Nat} (h : Off r l) (hl : l < w.heap.size) (hx : Ext r σ w r' σ' w') : w'.heap[l]? = w.heap[l]? := hx.same l hl (h.live σ)
theorem Off.new {cx : Cx} {r : Rl} {σ : Heap} {w : World} {l : Nat} (hi : Inv cx r σ w) (hl : w.heap.size ≤ l) : Off r l := by
  refine ⟨fun id ver o hρ => ?_, fun hI => ?_⟩
  · have := (hi.lt id ver l o hρ).2; omega
  · have := hi.Ilt l hI; omega
theorem putObj_other {w : World} {l k : Nat} {o : Obj} (h : k ≠ l) : (w.putObj l o).heap[k]? = w.heap[k]? := World.putObj_heap_other h
theorem putObj_size (w : World) (l : Nat) (o : Obj) : (w.putObj l o).heap.size = w.heap.size := by simp [World.putObj]
theorem Inv.poke {cx : Cx} {r : Rl} {σ : Heap} {w : World} {l : Nat} {o0 : Obj} (hi : Inv cx r σ w) (hl : w.heap[l]? = some o0) (hc : ∀ c t f, o0 ≠ .cells c t f) (ho : Off r l) (o : Obj) : Inv cx r σ (w.putObj l o) := by
  have g : Grow r w r (w.putObj l o) := by
    refine ⟨fun _ h => h, fun _ h => h, fun _ _ _ h => h, fun b hb => putObj_other (fun e => ho.I (e ▸ hb)), fun b c t f hb => ⟨c, f, ?_, rfl⟩⟩
    rw [putObj_other (fun e => by subst e; rw [hl] at hb; cases hb; exact hc _ _ _ rfl)]
    exact hb
  refine ⟨fun id ver x hx => ?_, fun id ver b o' hρ => ?_, hi.inj, hi.imm, fun b hb => by rw [putObj_size]; exact hi.Ilt b hb, hi.SI, hi.glob.mono g hi.SI⟩
  · rcases hi.box id ver x hx with ⟨b, o', hρ, hb⟩ | h
    · exact .inl ⟨b, o', hρ, hb.mono g (putObj_other (fun e => ho.ρ id ver o' (e ▸ hρ)))⟩
    · exact .inr h
  · obtain ⟨h1, h2⟩ := hi.lt id ver b o' hρ
    exact ⟨h1, by rw [putObj_size]; exact h2⟩
theorem FRel.poke {r : Rl} {w : World} {n : Nat} {fr : Fr} {a : Act} {l : Nat} {o0 : Obj} (hf : FRel r w n fr a) (hl : w.heap[l]? = some o0) (hc : ∀ c t f, o0 ≠ .cells c t f) (ho : Off r l) (o : Obj) : FRel r (w.putObj l o) n fr a := by
  refine hf.mono ⟨fun _ h => h, fun _ h => h, fun _ _ _ h => h, fun b hb => putObj_other (fun e => ho.I (e ▸ hb)), fun b c t f hb => ⟨c, f, ?_, rfl⟩⟩
  rw [putObj_other (fun e => by subst e; rw [hl] at hb; cases hb; exact hc _ _ _ rfl)]
  exact hb
theorem Ext.poke {r r' : Rl} {σ σ' : Heap} {w w' : World} {l : Nat} {o0 o1 : Obj} (hl : w.heap[l]? = some o0) (hc : ∀ c t f, o0 ≠ .cells c t f) (ho : Off r l) (hx : Ext r σ (w.putObj l o1) r' σ' w') : Ext r σ w r' σ' (w'.putObj l o0) := by
  have hsz := putObj_size w l o1
  have hll : l < w.heap.size := by
    rcases Nat.lt_or_ge l w.heap.size with h | h
    · exact h
    · rw [Array.getElem?_eq_none h] at hl; cases hl
  refine ⟨hx.S, hx.I, fun b h => by rw [← hsz]; exact hx.Sf b h, fun b h => by rw [← hsz]; exact hx.If b h, hx.ρ, by rw [putObj_size, ← hsz]; exact hx.hs, hx.σl, fun b hb hlv => ?_, fun b h => by rw [← hsz]; exact hx.liv b h, fun b c t f hb => ?_, hx.os, hx.output, hx.tape,
    fun id ver b o h => by rw [← hsz]; exact hx.blk id ver b o h⟩
  · by_cases hbl : b = l
    · subst hbl
      rw [hl]
      exact World.putObj_heap_same (by have := hx.hs; omega)
    · rw [putObj_other hbl, hx.same b (by omega) hlv, putObj_other hbl]
  · have hbl : b ≠ l := fun e => by subst e; rw [hl] at hb; cases hb; exact hc _ _ _ rfl
    obtain ⟨c', f', h1, h2⟩ := hx.size b c t f (by rw [putObj_other hbl]; exact hb)
    exact ⟨c', f', by rw [putObj_other hbl]; exact h1, h2⟩
theorem Ext.poke_new {r r' : Rl} {σ σ' : Heap} {w w' : World} {l : Nat} (hl : w.heap.size ≤ l) (hx : Ext r σ w r' σ' w') (o : Obj) : Ext r σ w r' σ' (w'.putObj l o) := by
  refine ⟨hx.S, hx.I, hx.Sf, hx.If, hx.ρ, by rw [putObj_size]; exact hx.hs, hx.σl, fun b hb hlv => ?_, hx.liv, fun b c t f hb => ?_, hx.os, hx.output, hx.tape, hx.blk⟩
  · rw [putObj_other (by omega)]; exact hx.same b hb hlv
  · have hbl : b < w.heap.size := by
      rcases Nat.lt_or_ge b w.heap.size with h | h
      · exact h
      · rw [Array.getElem?_eq_none h] at hb; cases hb
    obtain ⟨c', f', h1, h2⟩ := hx.size b c t f hb
    exact ⟨c', f', by rw [putObj_other (by omega)]; exact h1, h2⟩
theorem Inv.ghostAt {cx : Cx} {r : Rl} {σ σ' : Heap} {w : World} {id cur j gid gver : Nat} {cs : List AV} {g : Tag} (sz : Nat) (g' : Tag) (h : σ[id]? = some (cur, some (.cells cs g))) (hj : cs[j]? = some .nils) (ha : allocH σ (.cells [] g') = (gid, gver, σ')) (hne : id ≠ gid) (hi : Inv cx r σ w) :
    Inv cx r (σ'.set id (cur, some (.cells (cs.set j (.ms gid gver 0 0 sz false)) g))) w ∧ Ext r σ w r (σ'.set id (cur, some (.cells (cs.set j (.ms gid gver 0 0 sz false)) g))) w := by
  obtain ⟨ha1, ha2, ha3⟩ := allocH_spec ha
  obtain ⟨g1, g2⟩ := hi.ghost ha1 ha2 ha3
  obtain ⟨q1, q2⟩ := g1.recast (y := .cells (cs.set j (.ms gid gver 0 0 sz false)) g) (by rw [ha2 id hne]; exact h) (fun b o hb => nils_ms hj hb) (fun ro hro => by cases hro; simp at hj)
  exact ⟨q1, g2.trans q2⟩
def CallX (cx : Cx) (f : FuncId) (args : List AV) (σ : Heap) (X : Rl → World → Prop) (R : Out → Heap → Prop) : Prop :=
  ∀ r w vs, Inv cx r σ w → VRels r w vs args → X r w → Calls cx.P f vs w fun e w' => ∃ o σ' r', R o σ' ∧ ORel r' w' e o ∧ Inv cx r' σ' w' ∧ Ext r σ w r' σ' w'
theorem callX_intro {cx : Cx} {f : FuncId} {fn : Func} {c : Code} {n : Nat} {args : List AV} {σ : Heap} {X : Rl → World → Prop} {R : Out → Heap → Prop} (hf : cx.P.funcs[f]? = some fn) (hb : fn.body = some c) (hn : fn.ntmps = n) (ha : Nat.ble args.length n = true)
    (h : ∀ r w, Inv cx r σ w → X r w → S cx n ⟨r, σ, w, false⟩ [.code c] (retQ cx fn R) (enterFr 0 args) σ) : CallX cx f args σ X R := by
  intro r w vs hi hv hX
  subst hn
  refine calls_of_wp hf hb ?_
  have hwp := h r w hi hX r _ w hi (enter_rel hv (Nat.le_of_ble_eq_true ha)) (fun _ => rfl) (Ext.refl _ _ _)
  refine wp_mono hwp fun e a w' hq => ?_
  obtain ⟨ae, fr', σ', r', hq, he, hi', hf', hd', hx'⟩ := hq
  cases e <;> cases ae <;> first | exact he.elim | skip
  · obtain ⟨C, us, h1, h2, h3⟩ := hq
    obtain ⟨v', h4, h5⟩ := results_run (fn := fn) hi' hf' h1 h2
    exact ⟨hd' rfl, v', h4, _, σ', r', h3, h5, hi', hx'⟩
  · exact hq.elim
  · exact hq.elim
  · obtain ⟨C, us, h1, h2, h3⟩ := hq
    obtain ⟨v', h4, h5⟩ := results_run (fn := fn) hi' hf' h1 h2
    exact ⟨hd' rfl, v', h4, _, σ', r', h3, h5, hi', hx'⟩
  · exact ⟨hd' rfl, _, σ', r', hq, he, hi', hx'⟩
def YieldOk (cx : Cx) (B : Bs) (l : Nat) (cs : List AV) (σ σ' : Heap) : Prop := ∀ (m : Nat) r w v, Inv cx r σ w → Ext B.r B.σ B.w r σ w → VRel r w v (.agg cs) →
  YieldAt Fence.wide m cx.P l #[v] w (fun e w' => e = .returned (.bool true) ∧ ∃ r', Inv cx r' σ' w' ∧ Ext r σ w r' σ' w')
section
variable {cx : Cx} {n : Nat} {B : Bs} {k : List AI} {Q : Post} {fr : Fr} {σ : Heap}
theorem S_yieldR {id : Nat} {o0 o1 o2 o3 : Oper} {l : Nat} {cs : List AV} {σ' : Heap} {d0 d1 : Nat} {tys : Array TypeId} (hops : ∀ o ∈ [o0, o1, o2, o3], o.guard = none ∧ dstOk n o.dst = true) (hdf : ∀ o ∈ [o0, o1, o3], ∀ c, o.op ≠ .defer c)
    (h0 : OpSpec cx n fr σ o0 (.func (.yield l) [] []) σ) (h1 : OpSpec cx n (setA o0.dst (.func (.yield l) [] []) fr) σ o1 (.agg cs) σ) (h2 : o2.op = .call { callee := .value (.tmp d0), args := #[.tmp d1], argTypes := tys })
    (hd0 : (setA o1.dst (.agg cs) (setA o0.dst (.func (.yield l) [] []) fr)).get d0 = .func (.yield l) [] []) (hd1 : (setA o1.dst (.agg cs) (setA o0.dst (.func (.yield l) [] []) fr)).get d1 = .agg cs)
    (hY : YieldOk cx B l cs σ σ') (h3 : OpSpec cx n (setA o2.dst (.bool true) (setA o1.dst (.agg cs) (setA o0.dst (.func (.yield l) [] []) fr))) σ' o3 (.bool false) σ')
    (hk : S cx n B k Q (setA o3.dst (.bool false) (setA o2.dst (.bool true) (setA o1.dst (.agg cs) (setA o0.dst (.func (.yield l) [] []) fr)))) σ') :
    S cx n B (.code (.region id #[o0, o1, o2, o3] false) :: k) Q fr σ := by
  intro r a w hi hf hd hx
  have hw : ∀ f, Fence.wide.fn f := fun _ => trivial
  refine (wpIn_wide (n := 5)).1 (wpIn_region_list ?_)
  refine wpListIn_spec hw (hops o0 (by simp)).1 (hops o0 (by simp)).2 (hdf o0 (by simp)) h0 hi hf fun r1 w1 v1 hv1 hi1 hx1 hf1 => ?_
  refine wpListIn_spec hw (hops o1 (by simp)).1 (hops o1 (by simp)).2 (hdf o1 (by simp)) h1 hi1 hf1 fun r2 w2 v2 hv2 hi2 hx2 hf2 => ?_
  have hE := (hx.trans hx1).trans hx2
  have g0 := hf2.get d0
  have g1 := hf2.get d1
  rw [hd0] at g0
  rw [hd1] at g1
  have e0 : ((a.put o0.dst v1).put o1.dst v2).eval (.tmp d0) = .func (.yield l) #[] #[] := by
    show ((a.put o0.dst v1).put o1.dst v2).tmps.getD d0 undef = _
    generalize ((a.put o0.dst v1).put o1.dst v2).tmps.getD d0 undef = z at g0
    cases g0 with
    | func q1 _ q2 _ =>
      rw [Array.eq_empty_of_size_eq_zero q1, Array.eq_empty_of_size_eq_zero q2]
  have g1' : VRel r2 w2 (((a.put o0.dst v1).put o1.dst v2).eval (.tmp d1)) (.agg cs) := g1
  obtain ⟨fn, tmps, assign, body, hy, hR⟩ := hY (5 - 1) r2 w2 _ hi2 hE g1'
  refine wpListIn_plain (hops o2 (by simp)).1 fun K hK => ⟨fun f _ => trivial, ?_⟩
  rw [Oper.semAt_eq _ _ _ (by rw [h2]; intro c hc; cases hc)]
  have hrun : (execOp ((a.put o0.dst v1).put o1.dst v2).eval o2).run cx.P w2 = .ok (.round l fn tmps assign body) w2 := by
    simp only [execOp, h2, resolve, Sem.run_bind, e0, Deferred.ofValue, Sem.run_pure, Result.andThen_ok, invoke, callFunc, Array.map, Array.append_empty, Array.empty_append]
    first | exact hy | simpa using hy
  rw [hrun]
  refine ⟨(fun h => by cases h), hR.mono ?_⟩
  rintro e w3 ⟨rfl, r3, hi3, hx3⟩
  have hf3 := (hf2.mono (hx3.grow hi2)).setA (hops o2 (by simp)).2 (VRel.bool (b := true))
  refine hK _ _ ?_
  refine wpListIn_spec hw (hops o3 (by simp)).1 (hops o3 (by simp)).2 (hdf o3 (by simp)) h3 hi3 hf3 fun r4 w4 v4 hv4 hi4 hx4 hf4 => ?_
  refine wpListIn_nil (Lift.mk hk trivial hi4 hf4 (fun hb => ?_) ((hE.trans hx3).trans hx4))
  rw [put_defers, put_defers, put_defers, put_defers]
  exact hd hb
end
end Go.Ab
end
section
set_option linter.unusedVariables false
set_option linter.unusedSimpArgs false
set_option maxRecDepth 20000
set_option maxHeartbeats 4000000
namespace Go.Proofs.YtgmakmfdjhgjlaaGreatDoor
open Go Go.Ab
def HJ (a b c d e x : Nat) (fs : List Fil) (m : Mc) (g : Tag) (st : Option (List Nat × Nat)) (pre : List Fil) (τ : Heap) : Heap :=
  mcS a b c d e fs m st ((x, some (.cells [.map 1 b] g)) :: (0, some (.cells [.ms 7 pre.length 0 pre.length 3 false] ⟨false, none⟩)) :: (pre.length, some (.cells (celsF pre) ⟨false, none⟩)) :: τ)
def filC (f : Fil) : List AV := [.str f.path, .str f.text, .bool f.run]
def filD (v : Nat) (f : Fil) : Nat × Option Box := (v, some (.cells (filC f) ⟨false, some 38⟩))
def GathX (a b c d e x : Nat) (fs : List Fil) (m : Mc) (g : Tag) (l : Nat) : Rl → World → Prop := fun r w => ∀ (pre : List Fil) (f h : Fil) (st : Option (List Nat × Nat)) (c0 : Nat) (sn : List Nat) (vf : Nat), pre.length ≤ 1000 →
  YieldOk cx ⟨r, HJ a b c d e x fs m g none [] [], w, false⟩ l (filC f) (HJ a b c d e x fs m g st pre [(0, some (.miter 1 b c0 sn c0)), filD vf h]) (HJ a b c d e x fs m g st (pre ++ [f]) [(0, some (.miter 1 b c0 sn c0)), filD vf h])
theorem Values1_ok (a b c d e x : Nat) (fs : List Fil) (m : Mc) (g : Tag) (l : Nat) (hml : (ksP m.made).length ≤ 1000) :
    CallX cx 65 [.func (.yield l) [] [], .ptr 5 x 0] (HJ a b c d e x fs m g none [] []) (GathX a b c d e x fs m g l)
    (fun o s => o = .ret (.tup []) ∧ ∃ ps : List Fil, ps.Perm ((ksP m.made).map (lastF m.made)) ∧ ∃ u v : Nat, s = HJ a b c d e x fs m g none ps [(u, none), (v, none)]) :=
  callX_intro Tryz.func65 rfl Tryz.ntmps65 rfl fun r w hi hX => by
    refine pB [.s] rfl ?_
    refine S_stamp (id := 1) rfl (fun bs c0 hbl hbn hbc => ?_) ⟨.skip, _, .inr ⟨_, _, _, rfl⟩⟩
    have hbl : bs.length = (ksP m.made).length := by rw [hbl]; unfold mapF; rw [List.length_map]
    refine pa [.f (.ptr 8 0 0) (fun _ => HJ a b c d e x fs m g (some (bs, c0)) [] [(0, some (.miter 1 b c0 [] c0))])] rfl ?_ ?_
    · (repeat' with_reducible apply AllP_cons) <;> try exact aC
      · exact OpSpec.mapN (C := [b = b]) rfl ⟨rfl, trivial⟩
    refine S_dead ?_ ⟨_, _, .inl rfl⟩
    have hnat : ∀ sn : List Nat, sn.Nodup → (∀ x ∈ sn, x ∈ bs) → sn.length ≤ bs.length := fun sn h1 h2 => List.Nodup.length_le_of_subset h1 h2
    obtain ⟨fl, hfl⟩ : ∃ fl : Nat → Fil, ∀ bb, fl bb = lastF m.made ((ksP m.made).getD (bs.idxOf bb) []) := ⟨fun bb => lastF m.made ((ksP m.made).getD (bs.idxOf bb) []), fun _ => rfl⟩
    refine S_while (α := List Nat) (fun sn => [(0, .func (.yield l) [] []), (6, .ptr 8 0 0)]) (fun sn => HJ a b c d e x fs m g (some (bs, c0)) (sn.map fl) [(0, some (.miter 1 b c0 sn c0)), (sn.length, none)])
      (fun sn => sn.Nodup ∧ ∀ x ∈ sn, x ∈ bs) (fun sn => bs.length - sn.length) [] ⟨.nil, fun x h => by cases h⟩ (.cons rfl (.cons rfl (.nil _))) rfl ?_
    rintro sn ⟨hs1, hs2⟩
    refine pB [] rfl ?_
    refine S_mnext (id := 8) (ver := 0) (mid := 1) (mver := b) (since := c0) (last := c0) (c := c0) (seen := sn) (bs := bs) (kvs := mapF (ksP m.made) (vaP m.made)) rfl rfl rfl rfl (fun x hx => hbc x hx) (Nat.le_refl _) rfl rfl ?_ ?_
    · intro i bb hi2 hb hns
      have hi3 : i < (ksP m.made).length := by simpa [mapF] using hi2
      have hkv : (mapF (ksP m.made) (vaP m.made))[i]? = some (.str (ksP m.made)[i], vaP m.made (ksP m.made)[i]) := by simp [mapF, List.getElem?_eq_getElem hi3]
      have hbm : bb ∈ bs := List.mem_of_getElem? hb
      have hn2 : (sn ++ [bb]).Nodup := List.nodup_append.2 ⟨hs1, by simp, fun x hx y hy => by simp at hy; subst hy; exact fun e => hns (e ▸ hx)⟩
      have hm2 : ∀ x ∈ sn ++ [bb], x ∈ bs := fun x hx => by
        rcases List.mem_append.1 hx with hx | hx
        · exact hs2 x hx
        · simp at hx; subst hx; exact hbm
      have hlen2 := hnat _ hn2 hm2
      rw [List.length_append] at hlen2
      have hlen2 : sn.length + 1 ≤ bs.length := hlen2
      have hib : i < bs.length := by omega
      have hidx : bs.idxOf bb = i := by
        have h1 : bs.idxOf bb < bs.length := List.idxOf_lt_length_of_mem hbm
        have h2 : bs[bs.idxOf bb] = bb := List.getElem_idxOf h1
        rw [List.getElem?_eq_getElem hib] at hb
        exact (List.getElem_inj (h₀ := h1) (h₁ := hib) hbn).1 (h2.trans (Option.some.inj hb).symm)
      have hfb : lastF m.made (ksP m.made)[i] = fl bb := by rw [hfl, hidx]; simp [List.getD, List.getElem?_eq_getElem hi3]
      have hva : vaP m.made (ksP m.made)[i] = filA (fl bb) := by unfold vaP; rw [hfb]
      rw [hva] at hkv
      have hmap : (sn ++ [bb]).map fl = sn.map fl ++ [fl bb] := by rw [List.map_append]; rfl
      generalize hff : fl bb = f at *
      refine pa [.b true, .v (.tup [.str (ksP m.made)[i], filA f]), .s] rfl ?_ ?_
      · (repeat' with_reducible apply AllP_cons) <;> try exact aC
        · exact OpSpec.entryG (id := 8) (ver := 0) (mid := 1) (mver := b) (since := c0) (c := c0) (i := i) (b := bb) (seen := sn) (bs := bs) rfl rfl rfl rfl hb hkv
      refine pan 5 [] rfl ?_ ?_
      · (repeat' with_reducible apply AllP_cons) <;> try exact aC
      refine S_heap (HJ a b c d e x fs m g (some (bs, c0)) (sn.map fl) [(0, some (.miter 1 b c0 (sn ++ [bb]) c0)), filD (sn.length + 1) f]) rfl ?_
      refine S_yieldR (l := l) (cs := filC f) (σ' := HJ a b c d e x fs m g (some (bs, c0)) (sn.map fl ++ [f]) [(0, some (.miter 1 b c0 (sn ++ [bb]) c0)), filD (sn.length + 1) f]) (d0 := 11) (d1 := 12)
        (by intro o ho; simp only [List.mem_cons, List.not_mem_nil, or_false] at ho; rcases ho with rfl | rfl | rfl | rfl <;> exact ⟨rfl, rfl⟩) (by intro o ho c hc; simp only [List.mem_cons, List.not_mem_nil, or_false] at ho; rcases ho with rfl | rfl | rfl <;> cases hc)
        (OpSpec.aop rfl (by (repeat' with_reducible apply AllP_cons) <;> try exact aC)) (OpSpec.aop rfl (by (repeat' with_reducible apply AllP_cons) <;> try exact aC)) rfl rfl rfl (hX (sn.map fl) f f (some (bs, c0)) c0 (sn ++ [bb]) (sn.length + 1) (by rw [List.length_map]; omega)) (OpSpec.aop rfl (by (repeat' with_reducible apply AllP_cons) <;> try exact aC)) ?_
      refine S_drop (id := 9) rfl ?_ ⟨_, _, .inl rfl⟩
      refine S_heap (HJ a b c d e x fs m g (some (bs, c0)) ((sn ++ [bb]).map fl) [(0, some (.miter 1 b c0 (sn ++ [bb]) c0)), ((sn ++ [bb]).length, none)]) ?_ ?_
      · rw [hmap, List.length_append]; rfl
      refine pB [.b false] rfl ?_
      exact S_round (sn ++ [bb]) (by show bs.length - (sn ++ [bb]).length < bs.length - sn.length; rw [List.length_append]; show bs.length - (sn.length + 1) < _; omega) ⟨hn2, hm2⟩ (.cons rfl (.cons rfl (.nil _))) rfl
    · intro hall
      refine S_unstamp (id := 1) rfl ?_ ⟨.skip, _, .inr ⟨_, _, _, rfl⟩⟩
      refine S_drop (id := 8) rfl ?_ ⟨.skip, _, .inr ⟨_, _, _, rfl⟩⟩
      refine pB [.b false] rfl ?_
      refine S_nil ⟨_, _, rfl, trivial, rfl, sn.map fl, ?_, 0, sn.length, rfl⟩
      have h1 : sn.Perm bs := (List.perm_ext_iff_of_nodup hs1 hbn).2 fun z => ⟨fun h => hs2 z h, fun h => hall z h⟩
      refine (h1.map fl).trans ?_
      have h2 : bs.map fl = (ksP m.made).map (lastF m.made) := by
        refine List.ext_getElem (by simp [hbl]) fun j h3 h4 => ?_
        have hj : j < bs.length := by simpa using h3
        have hj2 : j < (ksP m.made).length := by omega
        rw [List.getElem_map, List.getElem_map, hfl]
        have : bs.idxOf bs[j] = j := (List.getElem_inj (h₀ := List.idxOf_lt_length_of_mem (List.getElem_mem hj)) (h₁ := hj) hbn).1 (List.getElem_idxOf (List.idxOf_lt_length_of_mem (List.getElem_mem hj)))
        rw [this]; simp [List.getD, List.getElem?_eq_getElem hj2]
      rw [h2]
end Go.Proofs.YtgmakmfdjhgjlaaGreatDoor
end
section
set_option linter.unusedVariables false
set_option linter.unusedSimpArgs false
set_option maxRecDepth 20000
set_option maxHeartbeats 1000000
namespace Go.Proofs.YtgmakmfdjhgjlaaGreatDoor
open Go Go.Ab
def apAssign : Code := (Code.region 2 #[{ dst := some 5, op := Op.alloc 38, type := 0, pos := "iter.go:51", after := #[], guard := none }, { dst := none, op := Op.store 38 (Operand.tmp 5) (Operand.tmp 7), type := 0, pos := "iter.go:51", after := #[{ on := 0, ground := Ground.data }, { on := 0, ground := Ground.phase }], guard := none }] false)
def apBody : Code := (Code.block 1 (Code.region 3 #[{ dst := some 8, op := Op.load 28 (Operand.tmp 2), type := 28, pos := "iter.go:52", after := #[], guard := none }, { dst := some 9, op := Op.load 38 (Operand.tmp 5), type := 38, pos := "iter.go:52", after := #[], guard := none },
  { dst := some 10, op := Op.buildSlice 28 1 #[(0, Operand.tmp 9)], type := 28, pos := "iter.go:52", after := #[{ on := 1, ground := Ground.data }], guard := none },
  { dst := some 11, op := Op.call { callee := Callee.builtin Builtin.append, args := #[Operand.tmp 8, Operand.tmp 10], argTypes := #[28, 28] }, type := 28, pos := "iter.go:52", after := #[{ on := 0, ground := Ground.data }, { on := 2, ground := Ground.data }], guard := none },
  { dst := none, op := Op.store 28 (Operand.tmp 2) (Operand.tmp 11), type := 0, pos := "iter.go:52", after := #[{ on := 3, ground := Ground.data }, { on := 3, ground := Ground.chain }, { on := 0, ground := Ground.phase }, { on := 1, ground := Ground.phase }, { on := 2, ground := Ground.phase }, { on := 3, ground := Ground.phase }], guard := none }] false))
def apRec (fn : FuncId) (tmps : Array Value) (D : Nat) : Loop := { state := .ready, pending := none, fn, tmps, params := #[7], assign := apAssign, body := apBody, defers := D }
theorem HJ_low8 (k : Nat) (hk : 8 ≤ k) (a b c d e x : Nat) (fs : List Fil) (m : Mc) (g : Tag) (st : Option (List Nat × Nat)) (pre : List Fil) (τ : Heap) (id ver : Nat) (y : Box) (hid : id < 8) (hx : (HJ a b c d e x fs m g st pre τ)[id]? = some (ver, some y)) : LowBox k y := by
  match id, hid with
  | 0, _ => exact mapX_low (vaP_free _) (by cases hx; rfl)
  | 1, _ =>
    cases hx
    refine .map fun p hp => ?_
    unfold mapF at hp
    obtain ⟨t, _, rfl⟩ := List.mem_map.1 hp
    exact ⟨.str, Low.free (st := false) (vaP_free _ _)⟩
  | 2, _ => exact mapX_low (ks := m.ks) (f := fun k => .str (m.regs k)) (fun _ => .str) (by cases hx; rfl)
  | 3, _ =>
    cases hx
    refine .cells fun y hy => ?_
    simp only [mcC, List.mem_cons, List.not_mem_nil, or_false] at hy
    rcases hy with rfl | rfl | rfl | rfl | rfl | rfl | rfl | rfl
    · exact .map (by omega)
    · exact .ms (by omega)
    · exact .map (by omega)
    · exact .map (by omega)
    · exact .int
    · exact .int
    · exact .int
    · exact .bool
  | 4, _ =>
    cases hx
    exact .cells fun y hy => Low.free (st := false) (texts_any _ y hy)
  | 5, _ =>
    cases hx
    exact .cells fun y hy => by simp at hy; subst hy; exact .map (by omega)
  | 6, _ =>
    cases hx
    exact .cells fun y hy => by simp at hy; subst hy; exact .ms (by omega)
  | 7, _ =>
    cases hx
    exact .cells fun y hy => Low.free (st := false) (cels_free pre y hy)
theorem HJ_low (a b c d e x : Nat) (fs : List Fil) (m : Mc) (g : Tag) (st : Option (List Nat × Nat)) (pre : List Fil) (c0 : Nat) (sn : List Nat) (vf : Nat) (h : Fil) (τ : Heap) : LowH 10 (HJ a b c d e x fs m g st pre ((0, some (.miter 1 b c0 sn c0)) :: filD vf h :: τ)) := by
  intro id ver y hid hx
  by_cases h8 : id < 8
  · exact HJ_low8 10 (by omega) a b c d e x fs m g st pre _ id ver y h8 hx
  by_cases h9 : id = 8
  · subst h9
    cases hx
    exact .miter (by decide)
  · obtain rfl : id = 9 := by omega
    cases hx
    exact .cells fun y hy => by simp only [filC, List.mem_cons, List.not_mem_nil, or_false] at hy; rcases hy with rfl | rfl | rfl; exact .str; exact .str; exact .bool
theorem gath_ok (a b c d e x : Nat) (fs : List Fil) (m : Mc) (g : Tag) (l D : Nat) (fn : FuncId) (tmps : Array Value) {r : Rl} {w : World} (hL : w.heap[l]? = some (.loop (apRec fn tmps D))) (ho : Off r l) (hf : FRel r w 13 [(2, .ptr 6 0 0)] { tmps := tmps, defers := [] })
    (hi : Inv cx r (HJ a b c d e x fs m g none [] []) w) : GathX a b c d e x fs m g l r w := by
  intro pre f h st c0 sn vf hpl k r1 w1 v hi1 hx1 hv
  have hll : l < w.heap.size := by
    rcases Nat.lt_or_ge l w.heap.size with h | h
    · exact h
    · rw [Array.getElem?_eq_none h] at hL; cases hL
  have hL1 : w1.heap[l]? = some (.loop (apRec fn tmps D)) := (ho.same hll hx1).trans hL
  have ho1 := ho.ext hll hx1
  have hf1 := hf.mono (hx1.grow hi)
  have hw : ∀ f, (Fence.wide.inRound l).fn f := fun _ => trivial
  refine ⟨fn, tmps.setIfInBounds 7 v, apAssign, apBody, ?_, roundIn_of_wpIn trivial ?_⟩
  · have := run_yield (P := cx.P) (args := #[v]) hL1 rfl
    simpa [apRec] using this
  have hf2 := hf1.set (d := 7) (by decide) hv
  have hf2 : FRel r1 w1 13 [(7, .agg (filC f)), (2, .ptr 6 0 0)] { tmps := tmps.setIfInBounds 7 v, defers := [] } := hf2
  unfold apAssign
  refine wpIn_region_list ?_
  refine wpListIn_spec (n := 13) (v := .ptr 10 0 0) (σ' := HJ a b c d e x fs m g st pre [(0, some (.miter 1 b c0 sn c0)), filD vf h, filD 0 ⟨[], [], false⟩]) hw rfl rfl (by intro c hc; cases hc) (OpSpec.aop rfl (by (repeat' with_reducible apply AllP_cons) <;> try exact aC)) hi1 hf2 fun r2 w2 v2 hv2 hi2 hx2 hf3 => ?_
  refine wpListIn_spec (n := 13) (v := .tup []) (σ' := HJ a b c d e x fs m g st pre [(0, some (.miter 1 b c0 sn c0)), filD vf h, filD 0 f]) hw rfl rfl (by intro c hc; cases hc) (OpSpec.aop rfl (by (repeat' with_reducible apply AllP_cons) <;> try exact aC)) hi2 hf3 fun r3 w3 v3 hv3 hi3 hx3 hf4 => ?_
  refine wpListIn_nil ?_
  have hsz1 : w.heap.size ≤ w1.heap.size := hx1.hs
  have hx13 := hx2.trans hx3
  have ho3 := ho1.ext (by omega) hx13
  have hL3 : w3.heap[l]? = some (.loop (apRec fn tmps D)) := (ho1.same (by omega) hx13).trans hL1
  have hnc : ∀ (q : Loop) (cs : Array Value) (t : TypeId) (fz : Nat × Nat), Obj.loop q ≠ .cells cs t fz := fun q cs t fz h => by cases h
  refine ⟨_, run_beginRound hL3 rfl, ?_⟩
  have hi3' := hi3.poke hL3 (hnc _) ho3 (.loop { apRec fn tmps D with state := .busy })
  have hf4' := hf4.poke hL3 (hnc _) ho3 (.loop { apRec fn tmps D with state := .busy })
  have hll3 : l < w3.heap.size := by have := hx13.hs; omega
  have hLb : (w3.putObj l (.loop { apRec fn tmps D with state := .busy })).heap[l]? = some (.loop { apRec fn tmps D with state := .busy }) := World.putObj_heap_same hll3
  generalize hW : w3.putObj l (.loop { apRec fn tmps D with state := .busy }) = wb at *
  have hcl := cels_len pre
  unfold apBody
  refine wpIn_block (wpIn_region_list ?_)
  refine wpListIn_spec (n := 13) (v := .ms 7 pre.length 0 pre.length 3 false) (σ' := HJ a b c d e x fs m g st pre [(0, some (.miter 1 b c0 sn c0)), filD vf h, filD 0 f]) hw rfl rfl (by intro c hc; cases hc) (OpSpec.aop rfl (by (repeat' with_reducible apply AllP_cons) <;> try exact aC)) hi3' hf4' fun r4 w4 v4 hv4 hi4 hx4 hf5 => ?_
  refine wpListIn_spec (n := 13) (v := .agg (filC f)) (σ' := HJ a b c d e x fs m g st pre [(0, some (.miter 1 b c0 sn c0)), filD vf h, filD 0 f]) hw rfl rfl (by intro c hc; cases hc) (OpSpec.aop rfl (by (repeat' with_reducible apply AllP_cons) <;> try exact aC)) hi4 hf5 fun r5 w5 v5 hv5 hi5 hx5 hf6 => ?_
  refine wpListIn_spec (n := 13) (v := .sl true true 3 [.agg (filC f)]) (σ' := HJ a b c d e x fs m g st pre [(0, some (.miter 1 b c0 sn c0)), filD vf h, filD 0 f]) hw rfl rfl (by intro c hc; cases hc) (OpSpec.aop rfl (by (repeat' with_reducible apply AllP_cons) <;> try exact aC)) hi5 hf6 fun r6 w6 v6 hv6 hi6 hx6 hf7 => ?_
  refine wpListIn_spec (n := 13) (v := .ms 7 (pre.length + 1) 0 (pre.length + 1) 3 false) (σ' := (HJ a b c d e x fs m g st pre [(0, some (.miter 1 b c0 sn c0)), filD vf h, filD 0 f]).set 7 (pre.length + 1, some (.cells (celsF (pre ++ [f])) ⟨false, none⟩))) hw rfl rfl (by intro c hc; cases hc) ?_ hi6 hf7 fun r7 w7 v7 hv7 hi7 hx7 hf8 => ?_
  · have hap : celsF (pre ++ [f]) = celsF pre ++ filC f := by rw [celsF_app]; simp [celsF, fils, filA, AV.cells, filC]
    rw [hap]
    exact OpSpec.aop rfl ⟨rfl, allOne_mem rfl, allOne_mem rfl, rfl, rfl, (by show 0 + pre.length * 3 = (celsF pre).length; rw [hcl]; omega), (by show (pre.length + 1) * 40 ≤ 140737488355328; omega), (by show pre.length + 1 ≤ 9223372036854775807; omega), trivial⟩
  have hl1 : (pre ++ [f]).length = pre.length + 1 := by rw [List.length_append]; rfl
  refine wpListIn_spec (n := 13) (v := .tup []) (σ' := HJ a b c d e x fs m g st (pre ++ [f]) [(0, some (.miter 1 b c0 sn c0)), filD vf h, filD 0 f]) hw rfl rfl (by intro c hc; cases hc) ?_ hi7 hf8 fun r8 w8 v8 hv8 hi8 hx8 hf9 => ?_
  · unfold HJ
    rw [hl1]
    exact OpSpec.aop rfl (by (repeat' with_reducible apply AllP_cons) <;> try exact aC)
  refine wpListIn_nil ?_
  have hxb := (((hx4.trans hx5).trans hx6).trans hx7).trans hx8
  have hob : Off r3 l := ho3
  have hllb : l < wb.heap.size := by rw [← hW, putObj_size]; exact hll3
  have ho8 := hob.ext hllb hxb
  have hL8 : w8.heap[l]? = some (.loop { apRec fn tmps D with state := .busy }) := (hob.same hllb hxb).trans hLb
  refine ⟨_, _, run_endRound none hL8, rfl, ?_⟩
  have hi9 := hi8.poke hL8 (hnc _) ho8 (.loop (apRec fn tmps D))
  have hx9 : Ext r3 _ w3 r8 _ (w8.putObj l (.loop (apRec fn tmps D))) := Ext.poke hL3 (hnc _) ho3 (hW ▸ hxb)
  obtain ⟨r9, k1, k2, _⟩ := trunc (k := 10) hi1 hi9 (hx13.trans hx9) (Nat.le_refl 10) (HJ_low a b c d e x fs m g st (pre ++ [f]) c0 sn vf h [filD 0 f])
  exact ⟨r9, k1, k2⟩
theorem AppendSeq_ok (a b c d e x : Nat) (fs : List Fil) (m : Mc) (g : Tag) (hml : (ksP m.made).length ≤ 1000) : CallOk cx 88 [.nils, .func (.func 65) [] [.ptr 5 x 0]] (mcH a b c d e fs m [(x, some (.cells [.map 1 b] g))])
    (fun o s => ∃ ps : List Fil, ps.Perm ((ksP m.made).map (lastF m.made)) ∧ o = .ret (.ms 7 ps.length 0 ps.length 3 false) ∧ s = HJ a b c d e x fs m g none ps []) := by
  refine ⟨fun a w => Tryz.call88 a w, fun r w vs hi hv => ?_⟩
  refine callsIn_wide.1 (callsIn_of_wp_marks (n := 9) Tryz.func88 rfl trivial ?_ rfl)
  rw [Tryz.ntmps88]
  have hw : ∀ f, Fence.wide.fn f := fun _ => trivial
  have hf := enter_rel (n := 13) hv (by show 2 ≤ 13; omega)
  refine wpIn_seq (wpIn_region_list ?_)
  refine wpListIn_spec (n := 13) (v := .ptr 6 0 0) (σ' := mcH a b c d e fs m [(x, some (.cells [.map 1 b] g)), (0, some (.cells [.nils] ⟨false, none⟩))]) hw rfl rfl (by intro c hc; cases hc) (OpSpec.aop rfl (by (repeat' with_reducible apply AllP_cons) <;> try exact aC)) hi hf fun r1 w1 v1 hv1 hi1 hx1 hf1 => ?_
  refine wpListIn_spec (n := 13) (v := .nils) (σ' := mcH a b c d e fs m [(x, some (.cells [.map 1 b] g)), (0, some (.cells [.nils] ⟨false, none⟩))]) hw rfl rfl (by intro c hc; cases hc) (OpSpec.aop rfl (by (repeat' with_reducible apply AllP_cons) <;> try exact aC)) hi1 hf1 fun r2 w2 v2 hv2 hi2 hx2 hf2 => ?_
  refine wpListIn_nil ?_
  refine wpIn_seq (wpIn_seq (wpIn_region_list ?_))
  refine wpListIn_spec (n := 13) (v := .func (.func 65) [] [.ptr 5 x 0]) (σ' := mcH a b c d e fs m [(x, some (.cells [.map 1 b] g)), (0, some (.cells [.nils] ⟨false, none⟩))]) hw rfl rfl (by intro c hc; cases hc) (OpSpec.aop rfl (by (repeat' with_reducible apply AllP_cons) <;> try exact aC)) hi2 hf2 fun r3 w3 v3 hv3 hi3 hx3 hf3 => ?_
  refine wpListIn_nil ?_
  refine wpIn_block (wpIn_rangeFunc fun fn _ => ?_)
  obtain ⟨hi4, hx4⟩ := hi3.ghostAt (id := 6) (j := 0) (gid := 7) (gver := 0) 3 ⟨false, none⟩ rfl rfl rfl (by decide)
  have hi4 : Ab.Inv cx r3 (HJ a b c d e x fs m g none [] []) w3 := hi4
  have hx4 : Ext r3 _ w3 r3 (HJ a b c d e x fs m g none [] []) w3 := hx4
  have hx04 := ((hx1.trans hx2).trans hx3).trans hx4
  obtain ⟨A, hAe, hfA, hdA⟩ : ∃ A, _ = A ∧ FRel r3 w3 13 _ A ∧ A.defers = [] := ⟨_, rfl, hf3, by rw [put_defers, put_defers, put_defers]⟩
  rw [hAe]
  obtain ⟨wL, hwL⟩ : ∃ wL, (w3.alloc (.deferred (some []))).alloc (.loop (apRec fn A.tmps w3.heap.size)) = wL := ⟨_, rfl⟩
  have hold : ∀ k, k < w3.heap.size → wL.heap[k]? = w3.heap[k]? := fun k hk => by
    rw [← hwL]; exact (Go.RowKit.Below.heap_alloc _ _ k (by simp; omega)).trans (Go.RowKit.Below.heap_alloc _ _ k hk)
  have hsL : wL.heap.size = w3.heap.size + 2 := by rw [← hwL]; simp
  obtain ⟨hiL, hxL⟩ := hi4.grown (w' := wL) hold (by omega) (by rw [← hwL]; rfl) (by rw [← hwL]; rfl) (by rw [← hwL]; rfl)
  have hLl : wL.heap[w3.heap.size + 1]? = some (.loop (apRec fn A.tmps w3.heap.size)) := by
    rw [← hwL]; have := World.alloc_heap_new (w3.alloc (.deferred (some []))) (.loop (apRec fn A.tmps w3.heap.size)); rwa [World.size_alloc] at this
  have hLD : wL.heap[w3.heap.size]? = some (.deferred (some [])) := by
    rw [← hwL]; exact (Go.RowKit.Below.heap_alloc _ _ _ (by simp)).trans (World.alloc_heap_new w3 _)
  have hol : Off r3 (w3.heap.size + 1) := Off.new hi4 (by omega)
  have hoD : Off r3 w3.heap.size := Off.new hi4 (Nat.le_refl _)
  have hfL := hfA.mono ((hx4.trans hxL).grow hi3)
  have g6 := hfA.get 6
  have g6 : VRel r3 w3 (A.tmps.getD 6 undef) (.func (.func 65) [] [.ptr 5 x 0]) := g6
  obtain ⟨pv, e6, hpv⟩ : ∃ pv, A.eval (.tmp 6) = .func (.func 65) #[] #[pv] ∧ VRel r3 w3 pv (.ptr 5 x 0) := by
    show ∃ pv, A.tmps.getD 6 undef = _ ∧ _
    generalize A.tmps.getD 6 undef = z at g6
    cases g6 with
    | func q1 q0 q2 q3 =>
      rename_i first captured
      refine ⟨captured.getD 0 undef, ?_, q3 0 (by simp)⟩
      rw [Array.eq_empty_of_size_eq_zero q1]
      congr 1
      have q2 : captured.size = 1 := q2
      refine Array.ext (by simp [q2]) fun j h1 h2 => ?_
      match j, h1 with
      | 0, h1 => simp [Array.getD, h1]
      | j + 1, h1 => omega
  refine ⟨w3.heap.size + 1, [{ target := .collected w3.heap.size, args := #[] }], wL, { target := .fn (.func 65) #[pv], args := #[.func (.yield (w3.heap.size + 1)) #[] #[]] }, wL, 65,
    #[.func (.yield (w3.heap.size + 1)) #[] #[]] ++ #[pv], wL, ?_, ?_, fun _ _ => trivial, ?_, (fun h => by cases h), ?_⟩
  · rw [← hwL]; exact run_enterLoop_outer _ _ _ _ _
  · have e6' : A.tmps[6]?.getD undef = .func (.func 65) #[] #[pv] := by rw [← Array.getD_eq_getD_getElem?]; exact e6
    simp [resolve, rangeCall, go_sem, e6', Deferred.ofValue]
  · have eg := fun args w => Tryz.call65 args w
    show (invoke _ _).run Tryz.prog wL = _
    simp [invoke, go_sem, eg]
  refine callsIn_wide.2 ((Values1_ok a b c d e x fs m g (w3.heap.size + 1) hml r3 wL _ hiL ?_ ?_).mono ?_)
  · refine ⟨rfl, fun i h => ?_⟩
    match i, h with
    | 0, _ => exact .func rfl (fun i h => absurd h (by simp)) rfl (fun i h => absurd h (by simp))
    | 1, _ => exact hpv.mono ((hx4.trans hxL).grow hi3)
    | k + 2, h => exact absurd h (by simp)
  · refine gath_ok a b c d e x fs m g (w3.heap.size + 1) w3.heap.size fn A.tmps hLl hol ⟨hfL.size, fun t => ?_, fun vs h => by cases h⟩ hiL
    have := hfL.get t
    by_cases ht : t = 2
    · subst ht; exact this
    · rw [Fr.get_cons, if_neg (fun e => ht e.symm)]; exact .top
  rintro en w5 ⟨o, σ', r5, ⟨rfl, ps, hps, u, v, rfl⟩, hor, hi5, hx5⟩
  cases en with
  | outgrown => exact hor.elim
  | panicked chain => exact hor.elim
  | returned vr =>
    have hnc : ∀ (q : Loop) (cs : Array Value) (t : TypeId) (fz : Nat × Nat), Obj.loop q ≠ .cells cs t fz := fun q cs t fz h => by cases h
    have hL5 : w5.heap[w3.heap.size + 1]? = some (.loop (apRec fn A.tmps w3.heap.size)) := (hol.same (by omega) hx5).trans hLl
    have hD5 : w5.heap[w3.heap.size]? = some (.deferred (some [])) := (hoD.same (by omega) hx5).trans hLD
    have hol5 := hol.ext (by omega) hx5
    have hoD5 := hoD.ext (by omega) hx5
    refine ⟨none, _, run_endLoop hL5 (show LoopState.ready ≠ LoopState.busy by decide), ?_⟩
    have hi6 := hi5.poke hL5 (hnc _) hol5 (.loop { apRec fn A.tmps w3.heap.size with state := .exhausted })
    have hsw : w.heap.size ≤ w3.heap.size := ((hx1.trans hx2).trans hx3).hs
    have hx6 := Ext.poke_new (l := w3.heap.size + 1) (by omega) ((hx04.trans hxL).trans hx5) (.loop { apRec fn A.tmps w3.heap.size with state := .exhausted })
    have hf6 := (hfL.mono (hx5.grow hiL)).poke hL5 (hnc _) hol5 (.loop { apRec fn A.tmps w3.heap.size with state := .exhausted })
    have hD6 : (w5.putObj (w3.heap.size + 1) (.loop { apRec fn A.tmps w3.heap.size with state := .exhausted })).heap[w3.heap.size]? = some (.deferred (some [])) := (putObj_other (by omega)).trans hD5
    generalize hW6 : w5.putObj (w3.heap.size + 1) (.loop { apRec fn A.tmps w3.heap.size with state := .exhausted }) = w6 at *
    show (Code.seq _ _).wpIn _ _ _ _ _ _
    have hf7 : FRel r5 w6 13 [(2, .ptr 6 0 0)] { A with defers := [{ target := .collected w3.heap.size, args := #[] }] ++ A.defers } := ⟨hf6.size, fun t => by
      have := hf6.get t
      by_cases ht : t = 2
      · subst ht; exact this
      · rw [Fr.get_cons, if_neg (fun e => ht e.symm)]; exact .top, fun vs h => by cases h⟩
    refine wpIn_seq (wpIn_region_list ?_)
    refine wpListIn_spec (n := 13) (v := .ms 7 ps.length 0 ps.length 3 false) (σ' := HJ a b c d e x fs m g none ps [(u, none), (v, none)]) hw rfl rfl (by intro c hc; cases hc) (OpSpec.aop rfl (by (repeat' with_reducible apply AllP_cons) <;> try exact aC)) hi6 hf7 fun r7 w7 v7 hv7 hi7 hx7 hf8 => ?_
    refine wpListIn_spec (n := 13) (v := .ms 7 ps.length 0 ps.length 3 false) (σ' := HJ a b c d e x fs m g none ps [(u, none), (v, none)]) hw rfl rfl (by intro c hc; cases hc) (OpSpec.aop rfl (by (repeat' with_reducible apply AllP_cons) <;> try exact aC)) hi7 hf8 fun r8 w8 v8 hv8 hi8 hx8 hf9 => ?_
    refine wpListIn_nil (wpIn_ret ?_)
    have hx78 := hx7.trans hx8
    have hs6 : w3.heap.size + 2 ≤ w6.heap.size := by rw [← hW6, putObj_size]; have := hx5.hs; omega
    have hoD6 : Off r5 w3.heap.size := hoD5
    have hoD8 := hoD6.ext (by omega) hx78
    have hD8 : w8.heap[w3.heap.size]? = some (.deferred (some [])) := (hoD6.same (by omega) hx78).trans hD6
    have hndf : ∀ (ds : Option (List Deferred)) (cs : Array Value) (t : TypeId) (fz : Nat × Nat), Obj.deferred ds ≠ .cells cs t fz := fun q cs t fz h => by cases h
    have hi9 := hi8.poke hD8 (hndf _) hoD8 (.deferred none)
    have hx9 := Ext.poke_new (l := w3.heap.size) hsw (hx6.trans hx78) (.deferred none)
    have hf10 := hf9.poke hD8 (hndf _) hoD8 (.deferred none)
    have g4 := hf10.get 4
    show LeavesInM _ _ _ _ _ _ (Act.defers _) _ _
    rw [put_defers, put_defers, hdA]
    refine ⟨by simp, .inl ⟨w3.heap.size, _, rfl, run_takeDeferred hD8, ?_⟩⟩
    refine ⟨_, results_tmp rfl _ _ _, ?_⟩
    obtain ⟨r10, k1, k2, k3, _⟩ := trunc (k := 8) hi hi9 hx9 (by show 6 ≤ 8; omega) (fun id ver y hid hx => HJ_low8 8 (Nat.le_refl _) a b c d e x fs m g none ps _ id ver y hid hx)
    exact ⟨_, _, r10, ⟨ps, hps, rfl, rfl⟩, k3 _ _ (.ms (by decide)) g4, k1, k2⟩
end Go.Proofs.YtgmakmfdjhgjlaaGreatDoor
end
section
set_option linter.unusedVariables false
set_option linter.unusedSimpArgs false
set_option maxRecDepth 20000
set_option maxHeartbeats 4000000
namespace Go.Proofs.YtgmakmfdjhgjlaaGreatDoor
open Go Go.Ab Go.Shelf Go.RowKit Go.Lib Go.Sort
theorem clos_cR (f g : Fil) (W : World) : Calls Tryz.prog 28 #[.agg (encF f).toArray, .agg (encF g).toArray] W fun e w' => e = .returned (.int .i64 (cmpF f g)) ∧ ∃ q os', w' = grow (W.drewN q) os' := by
  have hcon := fun W' => compare_c ⟨f.path.toArray⟩ ⟨g.path.toArray⟩ W'
  unfold cmpF
  generalize hr : cmpT f.path g.path = r
  have hcon : ∀ W', Calls Tryz.prog 29 #[.string ⟨f.path.toArray⟩, .string ⟨g.path.toArray⟩] W' fun e w' => e = .returned (.int .i64 r) ∧ w' = W' := by
    intro W'
    have := hcon W'
    simp only [List.toList_toArray, hr] at this
    exact this
  unfold encF
  go_enter Tryz.func28, Tryz.ntmps28
  go_wp2_with (go_at_call 29; refine (hcon _).mono ?_; rintro e w' ⟨rfl, rfl⟩)
  go_ret
  exact ⟨rfl, 0, _, by rw [alloc_eq_grow, alloc_eq_grow, grow_grow]; rfl⟩
theorem cmpLaysR (blk off size : Nat) (w : World) : CmpLays Tryz.prog 28 #[] encF 3 cmpF blk off size w :=
  fun _ _ _ _ f g => clos_cR f g _
theorem sort_cR (blk off cap : Nat) (d : Array Fil) (w : World) (hH : HoldsK encF 3 w blk off d) (hblk : blk < w.heap.size) (hsz : d.size < 4611686018427387904) :
    Calls Tryz.prog 64 #[.slice (some ⟨blk, off, none⟩) d.size cap, .func (.func 28) #[] #[]] w fun e w' =>
      e = .returned (.tuple #[]) ∧ ∃ d' n os, PermIn 0 d.size d d' ∧ SortedIn (ltOf cmpF) 0 d.size d' ∧ w' = sortWorldK encF 3 w blk off n d' os :=
  AnyQ.slices_SortFunc lay_sortf 3 Tryz.isAgg38 Tryz.sizeOf38 encF (fun _ => rfl) (fun x v hv => by simp [encF] at hv; rcases hv with rfl | rfl | rfl <;> rfl) cmpF swoF 28 #[] blk off cap d w (fun a w => Tryz.call28 a w) (cmpLaysR blk off d.size w) hH hblk hsz
theorem Sort_okR (o : List Fil) (hne : 0 < o.length) (hlen : o.length ≤ 1000000) (hnd : (o.map Fil.path).Nodup) {σ : Heap} {id ver : Nat} (hσ : σ[id]? = some (ver, some (.cells (celsF o) ⟨false, none⟩))) :
    CallOk cx 64 [.ms id ver 0 o.length 3 false, .func (.func 28) [] []] σ (fun e s => e = .ret (.tup []) ∧ s = σ.set id (ver, some (.cells (celsF (sortFl o)) ⟨false, none⟩))) := by
  refine ⟨fun a w => Tryz.call64 a w, fun r w vs hi hv => ?_⟩
  obtain ⟨hs, hv⟩ := hv
  have g0 := hv 0 (by simp)
  have g1 := hv 1 (by simp)
  have hvs : vs = #[vs.getD 0 undef, vs.getD 1 undef] := by
    have hs : vs.size = 2 := hs
    refine Array.ext (by simp [hs]) fun j h1 h2 => ?_
    match j, h1 with
    | 0, h1 => simp [Array.getD, h1]
    | 1, h1 => simp [Array.getD, h1]
    | j + 2, h1 => omega
  rw [hvs]
  generalize vs.getD 0 undef = a at g0
  generalize vs.getD 1 undef = b at g1
  have g0 : VRel r w a (.ms id ver 0 o.length 3 false) := g0
  have g1 : VRel r w b (.func (.func 28) [] []) := g1
  cases g1 with
  | func f1 hfx f2 hbx0 =>
  rename_i first captured
  have hf1 : first = #[] := Array.eq_empty_of_size_eq_zero f1
  have hf2 : captured = #[] := Array.eq_empty_of_size_eq_zero f2
  subst hf1; subst hf2
  generalize hn : o.length = n at g0
  cases g0 with
  | ms0 => omega
  | ms hρ hcap hle hff =>
  rename_i blk off cap
  rcases hi.box id ver _ hσ with ⟨blk', off', hρ', hbx⟩ | ⟨_, ro, h⟩
  case inr =>
    have h := Box.cells.inj h
    have := cels_len o
    rw [h.1] at this; simp at this; omega
  rw [hρ] at hρ'
  obtain ⟨rfl, rfl⟩ : blk = blk' ∧ off = off' := by cases hρ'; exact ⟨rfl, rfl⟩
  obtain ⟨c, t, lo, hi0, q1, q2, q3, q4, q5⟩ := hbx
  have hcl := cels_len o
  have hbs : blk < w.heap.size := (hi.lt _ _ _ _ hρ).2
  have hcell : ∀ j, j < o.length * 3 → c[off + j]? = some (flatK encF 3 o.toArray)[j]! := by
    intro j hj
    obtain ⟨v, k1, k2⟩ := q2 j (by omega)
    have hg := cel_get hj
    rw [List.getElem?_eq_getElem (by omega)] at hg
    rw [Option.some.inj hg] at k2
    rw [k1, flat_get hj, enc_eq (Nat.mod_lt _ (by decide)) k2]
  have hH : HoldsK encF 3 w blk off o.toArray := by
    intro j hj
    have hj : j < o.length * 3 := by simpa using hj
    refine ⟨by simp only [World.cell?, q1]; exact hcell j hj, ?_⟩
    have hjc : off + j < c.size := by
      rcases Nat.lt_or_ge (off + j) c.size with h | h
      · exact h
      · have := hcell j hj
        rw [Array.getElem?_eq_none h] at this; cases this
    simp only [World.frozen?, q1]
    cases hz : (decide (lo ≤ off + j) && decide (off + j < hi0)) with
    | false => rfl
    | true =>
      simp only [Bool.and_eq_true, decide_eq_true_eq] at hz
      have := (q4 _ hz.1 hz.2 hjc).1
      cases this
  have hc := sort_cR blk off cap o.toArray w hH hbs (by simp; omega)
  rw [show o.toArray.size = n by simpa using hn] at hc
  refine hc.mono ?_
  rintro e w' ⟨rfl, d', m, os, hp, hsd, rfl⟩
  obtain ⟨hd1, _, hd3⟩ := hp
  have hd1 : d'.size = n := by rw [hd1]; simpa using hn
  have hperm : d'.toList.Perm o := by
    have e1 : d'.extract 0 n = d' := by rw [← hd1]; simp
    have e2 : o.toArray.extract 0 n = o.toArray := by rw [← hn]; simp
    rw [e1, e2] at hd3
    simpa using hd3
  have hpw : d'.toList.Pairwise fun f g => f.path ≤ g.path := by
    rw [List.pairwise_iff_getElem]
    intro i j h1 h2 hij
    rw [Array.length_toList] at h1 h2
    have h3 := hsd i j (Nat.zero_le _) hij (by omega)
    rw [ltF, getElem!_pos d' i h1, getElem!_pos d' j h2] at h3
    simp only [decide_eq_false_iff_not] at h3
    simpa using h3
  have hsl := sortFl_uniq hnd hperm hpw
  have hd' : d' = (sortFl o).toArray := by rw [← hsl]
  have hln : (sortFl o).length = n := by rw [(sortFl_perm o).length_eq]; exact hn
  have hF : (flatK encF 3 d').size = n * 3 := by rw [size_flatK, hd1]
  have hheap : ∀ k, k < w.heap.size → (sortWorldK encF 3 w blk off m d' os).heap[k]? = if blk = k then some (Obj.cells (putCells _root_.id off (flatK encF 3 d') c) t (lo, hi0)) else w.heap[k]? := by
    intro k hk
    show ((w.heap.modify blk (onCells (putCells _root_.id off (flatK encF 3 d')))) ++ os)[k]? = _
    rw [Array.getElem?_append_left (by simpa using hk), Array.getElem?_modify]
    by_cases e : blk = k
    · subst e
      rw [if_pos rfl, if_pos rfl, q1]; rfl
    · rw [if_neg e, if_neg e]
  have hupd := hi.update (σ' := σ.set id (ver, some (.cells (celsF (sortFl o)) ⟨false, none⟩))) (id := id) (ver := ver) (b := blk) (o := off) (x := .cells (celsF (sortFl o)) ⟨false, none⟩) (w' := sortWorldK encF 3 w blk off m d' os)
    (by
      have : id < σ.length := by
        rcases Nat.lt_or_ge id σ.length with h | h
        · exact h
        · rw [List.getElem?_eq_none h] at hσ; cases hσ
      simp [this]) (fun j hj => by rw [List.getElem?_set, if_neg (Ne.symm hj)]) (fun c2 y hy => by rw [hσ] at hy; cases hy; exact .inr ⟨rfl, hρ⟩) (.inr ⟨ver, _, off, hσ, hρ⟩)
    (fun k hk hkb => by rw [hheap k hk, if_neg (Ne.symm hkb)]) (by
      show w.heap.size ≤ ((w.heap.modify blk (onCells (putCells _root_.id off (flatK encF 3 d')))) ++ os).size
      simp) (fun c2 t2 f2 hc2 => by
        rw [q1] at hc2; cases hc2
        exact ⟨_, _, by rw [hheap blk hbs, if_pos rfl], by simp [putCells]⟩) rfl rfl rfl
    (fun g => by
      refine ⟨_, t, lo, hi0, by rw [hheap blk hbs, if_pos rfl], fun i hil => ?_, cels_one _, fun i h1 h2 h3 => ?_, fun T h => by cases h⟩
      · have hil' : i < (sortFl o).length * 3 := by rw [cels_len] at hil; exact hil
        have hg := cel_get hil'
        rw [List.getElem?_eq_getElem hil] at hg
        rw [Option.some.inj hg]
        refine ⟨(flatK encF 3 (sortFl o).toArray)[i]!, ?_, by rw [flat_get hil']; exact enc_rel _ _ _ _ (Nat.mod_lt _ (by decide))⟩
        have hci : off + i < c.size := by
          have := hcell i (by omega)
          rcases Nat.lt_or_ge (off + i) c.size with h | h
          · exact h
          · rw [Array.getElem?_eq_none h] at this; cases this
        rw [hd']
        unfold putCells
        rw [Array.getElem?_mapIdx, Array.getElem?_eq_getElem hci]
        show some (if off ≤ off + i ∧ off + i < off + (flatK encF 3 (sortFl o).toArray).size then _root_.id ((flatK encF 3 (sortFl o).toArray)[off + i - off]!) else _) = _
        rw [if_pos ⟨by omega, by rw [size_flatK]; simp; omega⟩, Nat.add_sub_cancel_left]; rfl
      · have h3 : i < c.size := by simpa [putCells] using h3
        have := (q4 i h1 h2 h3).1
        cases this)
  exact ⟨.ret (.tup []), _, _, ⟨rfl, rfl⟩, .tup rfl (fun i h => absurd h (by simp)), hupd.1, hupd.2⟩
theorem Ins0_okR (σ : Heap) (v : Nat) : CallOk cx 105 [.ms 7 v 0 0 3 false, .int .i64 0, .int .i64 0, .func (.func 28) [] []] σ (fun o s => o = .ret (.tup []) ∧ s = σ) :=
  callOk_intro (fun a w => Tryz.call105 a w) Tryz.func105 rfl Tryz.ntmps105 rfl fun B => by
    refine pas [] rfl ?_ ?_
    · (repeat' with_reducible apply AllP_cons) <;> try exact aC
    refine S_while (α := Unit) (fun _ => [(2, .int .i64 0), (8, .int .i64 1)]) (fun _ => σ) (fun _ => True) (fun _ => 0) () trivial (.cons rfl (.cons rfl (.nil _))) rfl ?_
    rintro ⟨⟩ _
    refine pas [.b false] rfl ?_ ?_
    · (repeat' with_reducible apply AllP_cons) <;> try exact aC
    exact S_nil ⟨_, _, rfl, trivial, rfl, rfl⟩
theorem Pdq0_okR (σ : Heap) (v : Nat) : CallOk cx 89 [.ms 7 v 0 0 3 false, .int .i64 0, .int .i64 0, .int .i64 0, .func (.func 28) [] []] σ (fun o s => o = .ret (.tup []) ∧ s = σ) :=
  callOk_intro (fun a w => Tryz.call89 a w) Tryz.func89 rfl Tryz.ntmps89 rfl fun B => by
    refine pas [] rfl ?_ ?_
    · (repeat' with_reducible apply AllP_cons) <;> try exact aC
    refine S_while (α := Unit) (fun _ => [(0, .ms 7 v 0 0 3 false), (1, .int .i64 0), (2, .int .i64 0), (4, .func (.func 28) [] [])]) (fun _ => σ) (fun _ => True) (fun _ => 0) () trivial (.cons rfl (.cons rfl (.cons rfl (.cons rfl (.nil _))))) rfl ?_
    rintro ⟨⟩ _
    refine pa [.b true, .k (.tup [])] rfl ?_ ?_
    · (repeat' with_reducible apply AllP_cons) <;> try exact aC
      · exact Ins0_okR σ v
    exact S_ret ⟨_, _, rfl, trivial, rfl, rfl⟩
theorem Sort_any (o : List Fil) (hlen : o.length ≤ 1000000) (hnd : (o.map Fil.path).Nodup) {σ : Heap} {v : Nat} (hσ : σ[7]? = some (v, some (.cells (celsF o) ⟨false, none⟩))) :
    CallOk cx 64 [.ms 7 v 0 o.length 3 false, .func (.func 28) [] []] σ (fun e s => e = .ret (.tup []) ∧ s = σ.set 7 (v, some (.cells (celsF (sortFl o)) ⟨false, none⟩))) := by
  by_cases h0 : o = []
  · subst h0
    have hs : sortFl [] = [] := List.length_eq_zero_iff.1 (by rw [(sortFl_perm []).length_eq]; rfl)
    rw [hs]
    have hset : σ.set 7 (v, some (.cells (celsF []) ⟨false, none⟩)) = σ := by
      refine List.ext_getElem? fun i => ?_
      rw [List.getElem?_set]
      split
      · rename_i h; subst h
        split
        · exact hσ.symm
        · rename_i h; rw [List.getElem?_eq_none (by omega)] at hσ; cases hσ
      · rfl
    rw [hset]
    exact callOk_intro (fun a w => Tryz.call64 a w) Tryz.func64 rfl Tryz.ntmps64 rfl fun B => by
      refine pas [.v (.int .i64 0), .k (.tup [])] rfl ?_ ?_
      · (repeat' with_reducible apply AllP_cons) <;> try exact aC
        · exact ⟨_, LenU0_ok, .cons (.refl .int) (.nil _)⟩
        · exact Pdq0_okR _ _
      exact S_nil ⟨_, _, rfl, trivial, rfl, rfl⟩
  · exact Sort_okR o (List.length_pos_iff.2 h0) hlen hnd hσ
theorem Collect_ok (a b c d e x : Nat) (fs : List Fil) (m : Mc) (g : Tag) (hml : (ksP m.made).length ≤ 1000) : CallOk cx 63 [.func (.func 65) [] [.ptr 5 x 0]] (mcH a b c d e fs m [(x, some (.cells [.map 1 b] g))])
    (fun o s => ∃ ps : List Fil, ps.Perm ((ksP m.made).map (lastF m.made)) ∧ o = .ret (.ms 7 ps.length 0 ps.length 3 false) ∧ s = HJ a b c d e x fs m g none ps []) :=
  callOk_intro (fun a w => Tryz.call63 a w) Tryz.func63 rfl Tryz.ntmps63 rfl fun B => by
    refine pB [] rfl ?_
    refine S_call rfl rfl rfl (AppendSeq_ok a b c d e x fs m g hml) ?_ ?_
    · rintro v s ⟨ps, h1, h2, rfl⟩
      cases h2
      refine pB [] rfl ?_
      exact S_ret ⟨_, _, rfl, trivial, ps, h1, rfl, rfl⟩
    · rintro v s ⟨ps, h1, h2, rfl⟩
      cases h2
theorem gathered {c ps : List Fil} (h : ps.Perm ((ksP c).map (lastF c))) : (ps.map Fil.path).Nodup ∧ sortFl ps = ovT c := by
  have hp : ((ksP c).map (lastF c)).map Fil.path = ksP c := by
    rw [List.map_map]
    conv => rhs; rw [← List.map_id (ksP c)]
    exact List.map_congr_left fun p hp => (lastF_mem hp).2
  have hnd : (ps.map Fil.path).Nodup := (h.map Fil.path).nodup_iff.2 (by rw [hp]; exact ksP_nodup c)
  refine ⟨hnd, ?_⟩
  refine (sortFl_uniq hnd ?_ ?_).symm
  · unfold ovT
    exact (((sortT_perm (ksP c)).map (lastF c)).trans h.symm)
  · refine List.pairwise_map.1 ?_
    rw [ov_paths]
    exact sortT_pw _
theorem mcH_low6 (a b c d e x : Nat) (fs : List Fil) (m : Mc) (g : Tag) (τ : Heap) : LowH 6 (mcH a b c d e fs m ((x, some (.cells [.map 1 b] g)) :: τ)) := by
  intro id ver y hid hx
  match id, hid with
  | 0, _ => exact mapX_low (vaP_free _) (by cases hx; rfl)
  | 1, _ => exact mapX_low (vaP_free _) (by cases hx; rfl)
  | 2, _ => exact mapX_low (ks := m.ks) (f := fun k => .str (m.regs k)) (fun _ => .str) (by cases hx; rfl)
  | 3, _ =>
    cases hx
    refine .cells fun y hy => ?_
    simp only [mcC, List.mem_cons, List.not_mem_nil, or_false] at hy
    rcases hy with rfl | rfl | rfl | rfl | rfl | rfl | rfl | rfl
    · exact .map (by decide)
    · exact .ms (by decide)
    · exact .map (by decide)
    · exact .map (by decide)
    · exact .int
    · exact .int
    · exact .int
    · exact .bool
  | 4, _ =>
    cases hx
    exact .cells fun y hy => Low.free (st := false) (texts_any _ y hy)
  | 5, _ =>
    cases hx
    exact .cells fun y hy => by simp at hy; subst hy; exact .map (by decide)
theorem mcH_rn6 (a b c d e x : Nat) (fs : List Fil) (m : Mc) (g : Tag) : RnH (List.range 6) (mcH a b c d e fs m [(x, some (.cells [.map 1 b] g))]) (mcH a b c d e fs m [(x, some (.cells [.map 1 b] g))]) :=
  .cons (mapX_rn _ _ _ (vaP_free _) _) (.cons (mapX_rn _ _ _ (vaP_free _) _) (.cons (mapX_rn _ _ _ (fun _ => .str) _)
    (.cons (.live (.cells (.cons (.map rfl) (.cons (.ms rfl) (.cons (.map rfl) (.cons (.map rfl) (.free (by intro x hx; simp at hx; rcases hx with rfl | rfl | rfl | rfl; exact .int; exact .int; exact .int; exact .bool))))))))
      (.cons (.live (.cells (.free (texts_any _)))) (.cons (.live (.cells (.cons (.map rfl) (.nil _)))) (.nil _))))))
theorem SortedFunc_ok (a b c d e x : Nat) (fs : List Fil) (m : Mc) (g : Tag) (hml : (ksP m.made).length ≤ 1000) : CallOk cx 26 [.func (.func 65) [] [.ptr 5 x 0], .func (.func 28) [] []] (mcH a b c d e fs m [(x, some (.cells [.map 1 b] g))])
    (fun o s => o = .ret (.sl true false 3 (fils (ovT m.made))) ∧ s = mcH a b c d e fs m [(x, some (.cells [.map 1 b] g))]) :=
  callOk_introT (fun a w => Tryz.call26 a w) Tryz.func26 rfl Tryz.ntmps26 rfl fun B => by
    refine pB [] rfl ?_
    refine S_call rfl rfl rfl (Collect_ok a b c d e x fs m g hml) ?_ ?_
    · rintro v s ⟨ps, h1, h2, rfl⟩
      cases h2
      obtain ⟨hnd, hsf⟩ := gathered h1
      have hpl : ps.length ≤ 1000000 := by have := h1.length_eq; rw [List.length_map] at this; omega
      have hS := Sort_any ps hpl hnd (σ := HJ a b c d e x fs m g none ps []) (v := ps.length) rfl
      rw [hsf] at hS
      refine pB [.f (.tup []) (fun _ => (HJ a b c d e x fs m g none ps []).set 7 (ps.length, some (.cells (celsF (ovT m.made)) ⟨false, none⟩)))] rfl ?_
      have hol : (ovT m.made).length = ps.length := by rw [← hsf, (sortFl_perm ps).length_eq]
      refine S_ret ⟨_, _, rfl, trivial, 6, Nat.le_refl _, mcH_low6 a b c d e x fs m g _, _, ?_, rfl, rfl⟩
      rw [← hol]
      exact .ms (ys := celsF (ovT m.made)) (by decide) rfl (by rw [cels_len]; omega) (by rw [List.drop_zero, List.take_of_length_le (by rw [cels_len]; omega)]) (fil_size _) (fils_len _) rfl (fun i h h' => .low (Low.free (st := false) (cels_free _ _ (List.getElem_mem _))))
    · rintro v s ⟨ps, h1, h2, rfl⟩
      cases h2
theorem sortsF : SortsF := fun a b c d e x fs m g τ hml =>
  (SortedFunc_ok a b c d e x fs m g hml).pre1 6 τ rfl rfl
    (.cons (.func rfl (fun i h => absurd h (by simp)) rfl (fun i h h' => by match i, h with | 0, _ => exact .ptr rfl | k + 1, h => exact absurd h (by simp))) (.cons (.free (.func (fun x h => by cases h) (fun x h => by cases h))) (.nil _)))
    (mcH_rn6 a b c d e x fs m g) (mcH_rn6 a b c d e x fs m g) (.free (.sl (fun h => by cases h) (fils_free _)))
theorem Run_any {st fl st' fl' : Bool} (fs : List Fil) (com : List (List UInt8)) (fuel : Int) (hfs : FilsOk fs) (hcl : com.length ≤ 1000000000000) (hfu : -9223372036854775808 ≤ fuel ∧ fuel ≤ 9223372036854775807) :
    Calc cx 13 [.sl st fl 3 (fils fs), .sl st' fl' 1 (texts com), .int .i64 fuel] (runAV fs com fuel) := Run_ok sortsF fs com fuel hfs hcl hfu
end Go.Proofs.YtgmakmfdjhgjlaaGreatDoor
end
section
set_option linter.unusedVariables false
set_option linter.unusedSimpArgs false
set_option maxRecDepth 20000
set_option maxHeartbeats 4000000
namespace Go.Proofs.YtgmakmfdjhgjlaaGreatDoor
open Go Go.Ab
theorem WordsOf_ok (s : List UInt8) (hs : s.length ≤ 1099511627776) : Calc cx 20 [.str s] (.sl true false 1 (texts (splitB 32 s))) :=
  pure_intro (fun a w => Tryz.call20 a w) Tryz.func20 rfl Tryz.ntmps20 rfl (.sl (fun _ => rfl) (texts_any _)) fun B => by
    refine go (M := [5]) 1000 rfl trivial ?_
    refine S_unfull (t := 3) rfl ⟨_, _, .inl rfl⟩ ?_
    refine S_while (α := Nat × List (List UInt8) × List UInt8 × Nat) (fun (i, pre, last, u) => [(0, .str s), (3, .ms 0 u 0 (pre.length + 1) 1 false), (4, .int .i64 (i : Nat))])
      (fun (i, pre, last, u) => [(u, some (.cells (texts (pre ++ [last])) ⟨false, none⟩))])
      (fun (i, pre, last, u) => i ≤ s.length ∧ pre.length ≤ i ∧ last.length ≤ i ∧ pre ++ glue last (splitB 32 (s.drop i)) = splitB 32 s) (fun (i, pre, last, u) => s.length - i) (0, [], [], 0)
      ⟨Nat.zero_le _, Nat.le_refl _, Nat.le_refl _, by simp [glue_nil _ (splitB_ne 32 s)]⟩ (.cons rfl (.cons rfl (.cons rfl (.nil _)))) rfl ?_
    rintro ⟨i, pre, last, u⟩ ⟨h1, h2, h3, h4⟩
    have h1 : i ≤ s.length := h1
    have h2 : pre.length ≤ i := h2
    have h3 : last.length ≤ i := h3
    have hpl : (texts (pre ++ [last])).length = pre.length + 1 := by simp [texts]
    refine ab 1000 rfl trivial ?_
    refine S_dec rfl (fun hil => ?_) (fun hil => ?_)
    · have hil : i < s.length := by omega
      have hd : s.drop i = s[i] :: s.drop (i + 1) := List.drop_eq_getElem_cons hil
      have hgd : s.getD i 0 = s[i] := by simp [List.getD, hil]
      refine ab 1000 rfl ⟨by omega, by omega, trivial⟩ ?_
      refine S_beq rfl (fun hc => ?_) (fun hc => ?_)
      · have hc : s[i] = 32 := by
          have h' : (((s.getD (i : Int).toNat 0).toNat : Nat) : Int) = 32 := hc
          rw [Int.toNat_natCast, hgd] at h'
          exact UInt8.toNat_inj.1 (by have : s[i].toNat = 32 := by omega
                                      rw [this]; rfl)
        refine ab 1000 rfl ⟨?_, ?_, ?_, rfl, rfl, allOne_mem (cs := [.str []]) rfl, allOne_mem (cs := [.str []]) rfl, rfl, trivial⟩ ?_
        · show pre.length + 1 + 1 ≤ 9223372036854775807; omega
        · show (pre.length + 1 + 1) * 16 ≤ 140737488355328; omega
        · show 0 + (pre.length + 1) * 1 = (texts (pre ++ [last])).length; omega
        refine S_round (i + 1, pre ++ [last], [], u + 1) (by show s.length - (i + 1) < s.length - i; omega) ⟨hil, by simp; omega, Nat.zero_le _, ?_⟩ (.cons rfl (.cons ?_ (.cons (ai64 rfl (by omega)) (.nil _)))) ?_
        · rw [← h4, hd, hc]
          show (pre ++ [last]) ++ glue [] (splitB 32 (s.drop (i + 1))) = pre ++ glue last (splitB 32 (32 :: s.drop (i + 1)))
          rw [glue_nil _ (splitB_ne _ _), splitB, if_pos rfl]
          simp [glue]
        · show AV.ms 0 (u + 1) 0 (pre.length + 1 + 1) 1 false = .ms 0 (u + 1) 0 ((pre ++ [last]).length + 1) 1 false
          simp
        · show [(u + 1, some (Box.cells (texts (pre ++ [last]) ++ [.str []]) ⟨false, none⟩))] = [(u + 1, some (Box.cells (texts ((pre ++ [last]) ++ [[]])) ⟨false, none⟩))]
          simp [texts]
      · have hc : s[i] ≠ 32 := by
          intro e
          have h' : (((s.getD (i : Int).toNat 0).toNat : Nat) : Int) ≠ 32 := hc
          rw [Int.toNat_natCast, hgd, e] at h'
          exact h' rfl
        have hw1 : IntKind.i64.wrap (((pre.length + 1 : Nat) : Int) - 1) = (pre.length : Int) := w64 (by omega) (by omega)
        refine ab 1000 rfl trivial ?_
        have hw2 : IntKind.i64.wrap ((i : Int) + 1) = ((i + 1 : Nat) : Int) := w64 (by omega) (by omega)
        have hcut : cutL (some (i : Int)) (some (IntKind.i64.wrap ((i : Int) + 1))) s = [s[i]] := by
          rw [hw2]
          show (s.take ((i + 1 : Nat) : Int).toNat).drop (i : Int).toNat = _
          rw [Int.toNat_natCast, Int.toNat_natCast, List.take_succ_eq_append_getElem hil, List.drop_left' (by simp; omega)]
        have hld : ((texts (pre ++ [last])).drop (offN 0 (mulN (IntKind.i64.wrap (((pre.length + 1 : Nat) : Int) - 1)).toNat 1)))[0]? = some (.str last) := by
          rw [offN_eq, mulN_eq, hw1, Int.toNat_natCast]
          simp [texts]
        refine S_draw 12 [] [.top, .str last] rfl rfl rfl rfl ⟨rfl, rfl, rfl, rfl, rfl, by rw [hw1]; omega, by rw [hw1]; omega, rfl, hld, rfl, rfl, rfl, rfl, rfl, by omega, by rw [hw2]; omega, by rw [hw2]; omega, rfl, by rw [hcut]; simp; omega, trivial⟩ ?_
        refine ab 1000 rfl trivial ?_
        refine S_index .top rfl rfl rfl ⟨rfl, by rw [hw1]; omega, by rw [hw1]; omega, trivial⟩ ?_
        refine S_store rfl rfl rfl ⟨rfl, rfl, rfl, ?_, trivial⟩ ?_
        · show offN 0 (mulN (IntKind.i64.wrap (((pre.length + 1 : Nat) : Int) - 1)).toNat 1) + 1 ≤ (texts (pre ++ [last])).length
          rw [offN_eq, mulN_eq, hw1, Int.toNat_natCast]; omega
        refine ab 1000 rfl trivial ?_
        refine S_round (i + 1, pre, last ++ [s[i]], u) (by show s.length - (i + 1) < s.length - i; omega) ⟨hil, by omega, by simp; omega, by rw [← h4, hd, glue_cons last hc]⟩ (.cons rfl (.cons rfl (.cons (ai64 rfl (by omega)) (.nil _)))) ?_
        show [(u, some (Box.cells (setRange (texts (pre ++ [last])) (offN 0 (mulN (IntKind.i64.wrap (((pre.length + 1 : Nat) : Int) - 1)).toNat 1)) [.str (last ++ cutL (some (i : Int)) (some (IntKind.i64.wrap ((i : Int) + 1))) s)]) ⟨false, none⟩))] = [(u, some (Box.cells (texts (pre ++ [last ++ [s[i]]])) ⟨false, none⟩))]
        rw [hcut, offN_eq, mulN_eq, hw1, Int.toNat_natCast, Nat.zero_add, Nat.mul_one]
        have := set_at (texts pre) (AV.str (last ++ [s[i]])) (.str last) []
        rw [show (texts pre).length = pre.length by simp [texts]] at this
        show [(u, some (Box.cells (List.set (texts (pre ++ [last])) pre.length (.str (last ++ [s[i]]))) _))] = _
        rw [show texts (pre ++ [last]) = texts pre ++ [.str last] by simp [texts], this]
        simp [texts]
    · have hil : i = s.length := by omega
      rw [hil, List.drop_length] at h4
      refine ab 1000 rfl trivial ?_
      refine S_ret ⟨_, _, rfl, trivial, _, rfl, ?_⟩
      rw [← h4]
      simp only [splitB, glue, List.append_nil]
      exact .ms1 rfl (texts_one _) (by simp [texts]) (texts_any _)
theorem SbCheck_ok {st fl : Bool} (com : List (List UInt8)) (hl : com.length ≤ 1000000000000) : Calc cx 10 [.sl st fl 1 (texts com)] (.tup [.int .i64 (comI com : Nat), .int .i64 (comE com : Nat)]) :=
  pure_intro (fun a w => Tryz.call10 a w) Tryz.func10 rfl Tryz.ntmps10 rfl (.tup (by intro x hx; simp at hx; rcases hx with rfl | rfl; exact .int; exact .int)) fun B => by
    have h := program_ok (st := st) (fl := fl) com hl
    refine pa [.v (proAV com)] rfl ?_ ?_
    · (repeat' with_reducible apply AllP_cons) <;> try exact aC
      · exact ⟨_, h, .cons (.refl (.sl (fun h => by cases h) (texts_any _))) (.nil _)⟩
    exact S_retc (.tup (by intro x hx; simp at hx; rcases hx with rfl | rfl; exact .int; exact .int)) rfl trivial rfl
def begC : List (List UInt8) := [[115, 101, 116, 32, 97, 32, 104, 105], [109, 97, 107, 101, 32, 111, 117, 116, 32, 97]]
def begG : List (List UInt8) := [[103, 111, 116, 111, 32, 53]]
def begF : Fil := ⟨[111, 117, 116], [104, 105], false⟩
theorem beg_box : boxE [] begC 100 = 0 := by kernel_rfl
theorem beg_made : (runT [] begC 100).made = [begF] := by kernel_rfl
theorem beg_code : (runT [] begC 100).code = 0 := by kernel_rfl
theorem beg_left : (runT [] begC 100).left = 98 := by kernel_rfl
theorem beg_goto : comI begG = 0 ∧ comE begG = 1 := ⟨by kernel_rfl, by kernel_rfl⟩
theorem ov_one (f : Fil) : ovT [f] = [f] := by
  have h1 := (sortT_perm (ksP [f])).length_eq
  have h2 : ksP [f] = [f.path] := rfl
  rw [h2] at h1
  unfold ovT
  rw [h2]
  have hp := sortT_perm [f.path]
  rw [List.perm_singleton.1 hp]
  show [lastF [f] f.path] = [f]
  unfold lastF
  simp
theorem sandboxBegun_ok : Calc cx 12 [] (.bool true) :=
  pure_intro (fun a w => Tryz.call12 a w) Tryz.func12 rfl Tryz.ntmps12 rfl .bool fun B => by
    have hR := Run_any (st := true) (fl := true) (st' := true) (fl' := true) [] begC 100 ⟨by simp, by simp, by simp⟩ (by simp [begC]) ⟨by omega, by omega⟩
    have hC := SbCheck_ok (st := true) (fl := true) begG (by simp [begG])
    rw [beg_goto.1, beg_goto.2] at hC
    unfold runAV at hR
    rw [beg_box, if_pos rfl, if_pos rfl, if_pos rfl, show (100 : Int).toNat = 100 from rfl, beg_made, beg_code, beg_left, ov_one] at hR
    refine pa [.v (.tup [.sl true false 3 (fils [begF]), .int .i64 ((0 : Nat) : Int), .int .i64 ((2 : Nat) : Int), .int .i64 ((0 : Nat) : Int)]), .v (.tup [.int .i64 ((0 : Nat) : Int), .int .i64 ((1 : Nat) : Int)]), .b true, .b true, .b true, .b true, .v (filA begF), .b true, .b true] rfl ?_ ?_
    · (repeat' with_reducible apply AllP_cons) <;> try exact aC
      · exact ⟨_, hR, .cons .nils (.cons (.refl (.sl (fun h => by cases h) (texts_any begC))) (.cons (.refl .int) (.nil _)))⟩
      · exact ⟨_, hC, .cons (.refl (.sl (fun h => by cases h) (texts_any begG))) (.nil _)⟩
    exact S_retc .bool rfl trivial rfl
end Go.Proofs.YtgmakmfdjhgjlaaGreatDoor
end
section
set_option linter.unusedVariables false
set_option linter.unusedSimpArgs false
set_option maxRecDepth 20000
set_option maxHeartbeats 4000000
namespace Go.Proofs.YtgmakmfdjhgjlaaGreatDoor
open Go Go.Ab
structure CdOk (m : Mc) : Prop where
  run : m.done = false → m.code = 0
  fuel : m.code = 104 → m.left = 0
theorem CdOk.end_ {m : Mc} {l k : Nat} (h : k = 104 → l = 0) : CdOk (endM k { m with left := l }) := ⟨fun h => (by cases h), h⟩
theorem trip_c (k : Nat) (m : Mc) (hk : k ≠ 104) : CdOk (tripM k m) := by
  unfold tripM
  split
  · exact .end_ fun _ => rfl
  · exact .end_ fun h => absurd h hk
theorem CdOk.set {m : Mc} (h : CdOk m) (hd : m.done = false) (r t : List UInt8) : CdOk (setM r t m) := by
  unfold setM keepM
  split
  · exact trip_c 102 _ (by decide)
  split
  · exact .end_ fun _ => rfl
  · exact ⟨fun _ => h.run hd, fun e => by have e : m.code = 104 := e; rw [h.run hd] at e; cases e⟩
theorem CdOk.make {m : Mc} (h : CdOk m) (hd : m.done = false) (p t : List UInt8) (run : Bool) : CdOk (makeM p t run m) := by
  unfold makeM
  split
  · exact trip_c 103 _ (by decide)
  unfold keepM
  split
  · exact trip_c 102 _ (by decide)
  split
  · exact .end_ fun _ => rfl
  · exact ⟨fun _ => h.run hd, fun e => by have e : m.code = 104 := e; rw [h.run hd] at e; cases e⟩
theorem CdOk.jump {m : Mc} (h : CdOk m) (hd : m.done = false) (b : Bool) (to : Nat) : CdOk (jumpM b to m) := by
  unfold jumpM
  split
  · exact .end_ fun _ => rfl
  split
  · exact ⟨fun _ => h.run hd, fun e => by have e : m.code = 104 := e; rw [h.run hd] at e; cases e⟩
  · exact ⟨fun _ => h.run hd, fun e => by have e : m.code = 104 := e; rw [h.run hd] at e; cases e⟩
theorem CdOk.step {L : Nat} {fs : List Fil} {x : Ln} {m : Mc} (h : CdOk m) (hd : m.done = false) (hx : LnOk L x) : CdOk (stepM fs x m) := by
  cases hx with
  | set => exact h.set hd _ _
  | @read c p =>
    show CdOk (match fs.find? (fun f => f.path == p) with | none => tripM 101 m | some f => setM [c] f.text m)
    split
    · exact trip_c 101 _ (by decide)
    · exact h.set hd _ _
  | list => exact h.set hd _ _
  | join => exact h.set hd _ _
  | cut => exact h.set hd _ _
  | size => exact h.set hd _ _
  | sum => exact h.set hd _ _
  | make => exact h.make hd _ _ _
  | run => exact h.make hd _ _ _
  | same => exact h.jump hd _ _
  | less => exact h.jump hd _ _
  | goto => exact h.jump hd _ _
  | @exit w j hw => exact trip_c j _ (by have := (numT_le hw).1; omega)
theorem runM_le {L : Nat} {fs : List Fil} {prog : List Ln} (hp : ∀ x ∈ prog, LnOk L x) : ∀ (n : Nat) (m : Mc), (runM fs prog n m).left ≤ m.left
  | 0, m => Nat.le_refl _
  | n + 1, m => by
    rw [runM]
    by_cases hd : m.done = true
    · rw [if_pos hd]; exact Nat.le_refl _
    · rw [if_neg hd]
      split
      · exact Nat.le_refl _
      · rename_i x hq
        exact Nat.le_trans (runM_le hp n _) (step_less (fs := fs) (m := { m with pc := m.pc + 1 }) (hp x (List.mem_of_getElem? hq))).le
theorem run_inv {L : Nat} {fs : List Fil} {prog : List Ln} (hp : ∀ x ∈ prog, LnOk L x) (hL : L ≤ 1000) (hpl : prog.length ≤ 1000) : ∀ (n : Nat) (m : Mc), McI m → CdOk m → McI (runM fs prog n m) ∧ CdOk (runM fs prog n m)
  | 0, m, h1, h2 => ⟨h1, h2⟩
  | n + 1, m, h1, h2 => by
    rw [runM]
    by_cases hd : m.done = true
    · rw [if_pos hd]; exact ⟨h1, h2⟩
    · rw [if_neg hd]
      have hd : m.done = false := by simpa using hd
      split
      · exact ⟨h1, h2⟩
      · rename_i x hq
        have hx := hp x (List.mem_of_getElem? hq)
        have hpc : m.pc < prog.length := (List.getElem?_eq_some_iff.1 hq).1
        have hc2 : CdOk { m with pc := m.pc + 1 } := ⟨h2.run, h2.fuel⟩
        exact run_inv hp hL hpl n _ ((h1.next (by omega)).step (fs := fs) hx hL) (hc2.step (fs := fs) hd hx)
end Go.Proofs.YtgmakmfdjhgjlaaGreatDoor
end
section
set_option linter.unusedVariables false
set_option linter.unusedSimpArgs false
set_option maxRecDepth 20000
set_option maxHeartbeats 4000000
namespace Go.Proofs.YtgmakmfdjhgjlaaGreatDoor
open Go Go.Ab
theorem atF_step (o : List Fil) (f : Fil) : (atF o f.path = -1 ∧ stepF o f = addF o f) ∨ ∃ j, j < o.length ∧ atF o f.path = (j : Nat) ∧ stepF o f = o.set j f := by
  unfold atF stepF
  cases hq : o.findIdx? (fun g => g.path == f.path) with
  | none => exact .inl ⟨rfl, rfl⟩
  | some j =>
    have := (List.findIdx?_eq_some_iff_getElem.1 hq).1
    exact .inr ⟨j, this, rfl, rfl⟩
theorem cels_set {o : List Fil} {j : Nat} {f : Fil} (hj : j < o.length) : setRange (celsF o) (offN 0 (mulN (j : Int).toNat 3)) [.str f.path, .str f.text, .bool f.run] = celsF (o.set j f) := by
  rw [cels_off]
  show (celsF o).take (j * 3) ++ [.str f.path, .str f.text, .bool f.run] ++ (celsF o).drop (j * 3 + 3) = _
  have h1 : o = o.take j ++ o[j] :: o.drop (j + 1) := by rw [List.getElem_cons_drop, List.take_append_drop]
  have h2 : o.set j f = o.take j ++ f :: o.drop (j + 1) := by rw [List.set_eq_take_append_cons_drop, if_pos hj]
  have hl : (celsF (o.take j)).length = j * 3 := by rw [cels_len, List.length_take, Nat.min_eq_left (by omega)]
  have h3 : celsF o = celsF (o.take j) ++ ([.str o[j].path, .str o[j].text, .bool o[j].run] ++ celsF (o.drop (j + 1))) := by
    conv => lhs; rw [h1]
    rw [celsF_app]; rfl
  rw [h2, celsF_app, h3, List.take_left' hl, List.drop_append, List.drop_eq_nil_of_le (by omega), hl, show j * 3 + 3 - j * 3 = 3 by omega]
  simp [celsF, fils, filA, AV.cells]
end Go.Proofs.YtgmakmfdjhgjlaaGreatDoor
end
section
set_option linter.unusedVariables false
set_option linter.unusedSimpArgs false
set_option maxRecDepth 20000
set_option maxHeartbeats 4000000
namespace Go.Proofs.YtgmakmfdjhgjlaaGreatDoor
open Go Go.Ab
theorem made_dir {m : Mc} (h : McI m) : DirOk 101 (ovT m.made) := by
  have hmem : ∀ f ∈ ovT m.made, f ∈ m.made := fun f hf => ov_sub hf
  have hks : ∀ f ∈ ovT m.made, f.path ∈ ksP m.made := fun f hf => ksP_mem.2 ⟨f, hmem f hf, rfl⟩
  have hln : (ovT m.made).length = (ksP m.made).length := by unfold ovT; rw [List.length_map, (sortT_perm _).length_eq]
  refine ⟨by have := h.many; omega, fun f hf => (h.pth f (hmem f hf)).1, fun f hf => (h.pth f (hmem f hf)).2, ⟨?_, fun f hf g hg => h.meet _ (hks f hf) _ (hks g hg)⟩, fun f hf => ?_⟩
  · rw [List.pairwise_iff_getElem]
    intro i j hi hj hij
    have e : ∀ k (hk : k < (ovT m.made).length), (ovT m.made)[k].path = (sortT (ksP m.made))[k]'(by simpa [ovT] using hk) := by
      intro k hk
      have hk' : k < (sortT (ksP m.made)).length := by simpa [ovT] using hk
      have : (ovT m.made)[k] = lastF m.made ((sortT (ksP m.made))[k]'hk') := List.getElem_map (lastF m.made)
      rw [this]
      exact (lastF_mem ((sortT_perm _).mem_iff.1 (List.getElem_mem hk'))).2
    rw [e i hi, e j hj, bl_eq, decide_eq_true_eq]
    exact sort_lt (ksP_nodup _) hij _
  · have := (path_fst (h.pth f (hmem f hf)).1).2.1; omega
theorem box_facts {fs : List Fil} {com : List (List UInt8)} {fuel : Int} (h : boxE fs com fuel = 0) : chkT fs = 0 ∧ comE com = 0 ∧ 0 ≤ fuel ∧ fuel ≤ 100000 := by
  unfold boxE at h
  by_cases h0 : chkT fs = 0
  · rw [if_pos h0] at h
    by_cases h1 : comE com = 0
    · rw [if_pos h1] at h
      by_cases h2 : fuel < 0 ∨ 100000 < fuel
      · rw [if_pos h2] at h; cases h
      · exact ⟨h0, h1, by omega, by omega⟩
    · rw [if_neg h1] at h; exact absurd h h1
  · rw [if_neg h0] at h; exact absurd h h0
theorem box_of {fs : List Fil} {com : List (List UInt8)} {fuel : Int} (h0 : chkT fs = 0) (h1 : comE com = 0) (h2 : 0 ≤ fuel) (h3 : fuel ≤ 100000) : boxE fs com fuel = 0 := by
  unfold boxE
  rw [if_pos h0, if_pos h1, if_neg (by omega)]
theorem runT_inv {fs : List Fil} {com : List (List UInt8)} {fu : Nat} (h1 : comE com = 0) (hf : fu ≤ 100000) : McI (runT fs com fu) ∧ CdOk (runT fs com fu) ∧ (runT fs com fu).left ≤ fu ∧
    ∃ prog, progT com.length com = some prog ∧ prog.length = com.length ∧ (∀ x ∈ prog, LnOk com.length x) ∧ ∀ k, runT fs com k = runM fs prog (k + 1) (mc0 k) := by
  obtain ⟨hc60, hcs, prog, hpr⟩ := comE_long h1
  obtain ⟨hpl, hpo⟩ := progT_ok hcs hpr
  have hrT : ∀ k, runT fs com k = runM fs prog (k + 1) (mc0 k) := fun k => by unfold runT; rw [hpr]; rfl
  obtain ⟨a1, a2⟩ := run_inv (fs := fs) hpo (by omega) (by omega) (fu + 1) (mc0 fu) (mc0_ok hf) ⟨fun _ => rfl, fun h => by cases h⟩
  rw [hrT]
  exact ⟨a1, a2, runM_le hpo _ _, prog, hpr, hpl, hpo, hrT⟩
theorem comR {st fl : Bool} (com : List (List UInt8)) {σ : Heap} : Frz false σ (.sl st fl 1 (texts com)) (.sl st fl 1 (texts com)) := .refl (.sl (fun h => by cases h) (texts_any _))
theorem filR {st fl : Bool} (l : List Fil) {σ : Heap} : Frz false σ (.sl st fl 3 (fils l)) (.sl st fl 3 (fils l)) := .refl (.sl (fun h => by cases h) (fils_free _))
def runR (m : Mc) (fu : Nat) : AV := .tup [.sl true false 3 (fils (ovT m.made)), .int .i64 (m.code : Nat), .int .i64 (fu - m.left : Nat), .int .i64 ((0 : Nat) : Int)]
theorem runAV_0 {fs : List Fil} {com : List (List UInt8)} {fu : Nat} (h : boxE fs com (fu : Int) = 0) : runAV fs com (fu : Int) = runR (runT fs com fu) fu := by
  unfold runAV runR
  rw [h, if_pos rfl, if_pos rfl, if_pos rfl, Int.toNat_natCast]
end Go.Proofs.YtgmakmfdjhgjlaaGreatDoor
end
section
set_option linter.unusedVariables false
set_option linter.unusedSimpArgs false
set_option maxRecDepth 20000
namespace Go.Proofs.YtgmakmfdjhgjlaaGreatDoor
open Go Go.Ab
def isDg (c : UInt8) : Bool := 48 ≤ c.toNat && c.toNat ≤ 57
end Go.Proofs.YtgmakmfdjhgjlaaGreatDoor
end
section
set_option linter.unusedVariables false
set_option linter.unusedSimpArgs false
set_option maxRecDepth 20000
namespace Go.Proofs.YtgmakmfdjhgjlaaGreatDoor
open Go Go.Ab
theorem IsDigitByte_ok (c : UInt8) : Calc cx 80 [.int .u8 (c.toNat : Nat)] (.bool (isDg c)) :=
  pure_intro (fun a w => Tryz.call80 a w) Tryz.func80 rfl Tryz.ntmps80 rfl .bool fun B => by
    refine ab 1000 rfl trivial ?_
    refine S_guard rfl rfl rfl rfl (fun h => ?_) (fun h => ?_)
    · have h : 48 ≤ c.toNat := by have : (48 : Int) ≤ (c.toNat : Int) := of_decide_eq_true h; omega
      refine ab 1000 rfl trivial ?_
      refine S_retc .bool rfl trivial ?_
      rw [isDg, decide_eq_true h, Bool.true_and]
      exact congrArg AV.bool (decide_eq_decide.2 (by omega))
    · have h : ¬ 48 ≤ c.toNat := by have : ¬ (48 : Int) ≤ (c.toNat : Int) := of_decide_eq_false h; omega
      refine ab 1000 rfl trivial ?_
      refine S_retc .bool rfl trivial ?_
      rw [isDg, decide_eq_false h, Bool.false_and]; rfl
end Go.Proofs.YtgmakmfdjhgjlaaGreatDoor
end
section
set_option linter.unusedVariables false
set_option linter.unusedSimpArgs false
set_option maxRecDepth 20000
set_option maxHeartbeats 4000000
namespace Go.Proofs.YtgmakmfdjhgjlaaGreatDoor
open Go Go.Ab
theorem IsRegister_ok (s : List UInt8) (hs : s.length ≤ 1000000000) : Calc cx 38 [.str s] (.bool (regB s)) :=
  pure_intro (fun a w => Tryz.call38 a w) Tryz.func38 rfl Tryz.ntmps38 rfl .bool fun B => by
    match s, hs with
    | [], _ =>
      refine pB [.b false, .b false] rfl ?_
      exact S_retc .bool rfl trivial rfl
    | c :: c2 :: r, _ =>
      have e1 : ((((c :: c2 :: r).length : Nat) : Int) == 1) = false := by simp; omega
      refine pB [.b false, .b false] rfl ?_
      exact S_retc .bool rfl trivial rfl
    | [c], _ =>
      rw [regB_c]
      by_cases h1 : 97 ≤ c.toNat
      · rw [decide_eq_true h1]
        by_cases h2 : c.toNat ≤ 104
        · rw [decide_eq_true h2]
          refine pa [.b true, .b true] rfl ?_ ?_
          · (repeat' with_reducible apply AllP_cons) <;> try exact aC
            exact decide_eq_true (show (c.toNat : Int) ≥ 97 by omega)
          refine S_retc .bool rfl trivial ?_
          show AV.bool (decide ((c.toNat : Int) ≤ 104)) = _
          rw [decide_eq_true (by omega)]; rfl
        · rw [decide_eq_false h2]
          refine pa [.b true, .b true] rfl ?_ ?_
          · (repeat' with_reducible apply AllP_cons) <;> try exact aC
            exact decide_eq_true (show (c.toNat : Int) ≥ 97 by omega)
          refine S_retc .bool rfl trivial ?_
          show AV.bool (decide ((c.toNat : Int) ≤ 104)) = _
          rw [decide_eq_false (by omega)]; rfl
      · rw [decide_eq_false h1]
        refine pa [.b true, .b false] rfl ?_ ?_
        · (repeat' with_reducible apply AllP_cons) <;> try exact aC
          exact decide_eq_false (show ¬ (c.toNat : Int) ≥ 97 by omega)
        exact S_retc .bool rfl trivial rfl
theorem isDg_dig (c : UInt8) : isDg c = digB c := by
  rw [Bool.eq_iff_iff, digB_iff]
  unfold isDg
  simp
def numI (s : List UInt8) (most : Nat) : Int := match numT s most with
  | some n => (n : Int)
  | none => -1
theorem numI_no {s : List UInt8} {most : Nat} (h : numB s = false) : numI s most = -1 := by
  unfold numI; rw [numT_eq, if_neg (by rw [h]; simp)]
theorem numI_yes {s : List UInt8} {most : Nat} (h : numB s = true) : numI s most = if valN s ≤ most then (valN s : Int) else -1 := by
  have hv : numV s = valN s := by unfold numV; rw [if_pos h]
  unfold numI
  rw [numT_eq, hv]
  by_cases hm : valN s ≤ most
  · rw [if_pos ⟨h, hm⟩, if_pos hm]
  · rw [if_neg (fun x => hm x.2), if_neg hm]
theorem numI_some (s : List UInt8) (most : Nat) : decide (numI s most ≥ 0) = (numT s most).isSome := by
  unfold numI
  cases numT s most with
  | none => rfl
  | some n => exact decide_eq_true (by show (n : Int) ≥ 0; omega)
theorem NumberOf_ok (s : List UInt8) (most : Nat) (hs : s.length ≤ 1000000000) (hm : most ≤ 1000000000) : Calc cx 40 [.str s, .int .i64 (most : Nat)] (.int .i64 (numI s most)) :=
  pure_intro (fun a w => Tryz.call40 a w) Tryz.func40 rfl Tryz.ntmps40 rfl .int fun B => by
    refine pB [] rfl ?_
    refine S_while (α := Nat) (fun i => [(0, .str s), (1, .int .i64 (most : Nat)), (5, .int .i64 (valN (s.take i) : Nat)), (6, .int .i64 (i : Nat))]) (fun _ => []) (fun i => i ≤ s.length ∧ i ≤ 6 ∧ (s.take i).all digB = true) (fun i => s.length - i) 0
      ⟨Nat.zero_le _, Nat.zero_le _, rfl⟩ (.cons rfl (.cons rfl (.cons rfl (.cons rfl (.nil _))))) rfl ?_
    rintro i ⟨hi, hi6, hall⟩
    have hi : i ≤ s.length := hi
    have hvi : valN (s.take i) < 1000000 := valN_len hall (by rw [List.length_take]; omega)
    by_cases hlt : i < s.length
    · have e1 : decide ((i : Int) < (s.length : Int)) = true := decide_eq_true (by omega)
      have hgc : s.getD (i : Int).toNat 0 = s[i] := by rw [Int.toNat_natCast]; simp [List.getD, List.getElem?_eq_getElem hlt]
      have hD := IsDigitByte_ok s[i]
      rw [isDg_dig] at hD
      have hD' : ∀ σ, ∃ args', Calc cx 80 args' (.bool (digB s[i])) ∧ Frzs σ [.int .u8 (((s.getD (i : Int).toNat 0).toNat : Nat) : Int)] args' := fun σ => by
        rw [hgc]; exact ⟨_, hD, .cons (.refl .int) (.nil _)⟩
      cases hd : digB s[i] with
      | false =>
        have hn : numB s = false := by
          cases h : numB s with
          | false => rfl
          | true =>
            have := List.all_eq_true.1 ((numB_iff s).1 h).1 _ (List.getElem_mem hlt)
            rw [hd] at this; cases this
        rw [numI_no hn]
        rw [hd] at hD'
        refine pa [.b true, .v (.bool false), .b true, .b true] rfl ?_ ?_
        · (repeat' with_reducible apply AllP_cons) <;> try exact aC
          · exact hD' _
        exact S_retc .int rfl trivial rfl
      | true =>
        rw [hd] at hD'
        by_cases h5 : i > 5
        · have hn : numB s = false := by
            cases h : numB s with
            | false => rfl
            | true => have := ((numB_iff s).1 h).2.2.1; omega
          rw [numI_no hn]
          have e2 : decide ((i : Int) > 5) = true := decide_eq_true (by omega)
          refine pa [.b true, .v (.bool true), .b false, .b true] rfl ?_ ?_
          · (repeat' with_reducible apply AllP_cons) <;> try exact aC
            · exact hD' _
          exact S_retc .int rfl trivial rfl
        · have e2 : decide ((i : Int) > 5) = false := decide_eq_false (by omega)
          have hci := (digB_iff s[i]).1 hd
          have hv : valN (s.take (i + 1)) = 10 * valN (s.take i) + (s[i].toNat - 48) := by rw [List.take_succ_eq_append_getElem hlt, valN_snoc]
          refine pa [.b true, .v (.bool true), .b false, .b false] rfl ?_ ?_
          · (repeat' with_reducible apply AllP_cons) <;> try exact aC
            · exact hD' _
          refine S_round (i + 1) (by show s.length - (i + 1) < s.length - i; omega) ⟨hlt, by omega, by rw [List.take_succ_eq_append_getElem hlt, List.all_append, hall]; simp [hd]⟩ (.cons rfl (.cons rfl (.cons ?_ (.cons (ai64 rfl (by omega)) (.nil _))))) rfl
          show AV.int .i64 (IntKind.i64.wrap (IntKind.i64.wrap (IntKind.i64.wrap (10 * ((valN (s.take i) : Nat) : Int)) + IntKind.i64.wrap (((s.getD (i : Int).toNat 0).toNat : Nat) : Int)) - 48)) = .int .i64 ((valN (s.take (i + 1)) : Nat) : Int)
          rw [hgc, hv, IntWalk.i64_in (10 * ((valN (s.take i) : Nat) : Int)) ⟨by omega, by omega⟩, IntWalk.i64_in ((s[i].toNat : Nat) : Int) ⟨by omega, by omega⟩, IntWalk.i64_in (10 * ((valN (s.take i) : Nat) : Int) + ((s[i].toNat : Nat) : Int)) ⟨by omega, by omega⟩, IntWalk.i64_in _ ⟨by omega, by omega⟩]
          congr 1; omega
    have hil : i = s.length := by omega
    subst hil
    rw [List.take_length] at hall hvi ⊢
    have e1 : decide ((s.length : Int) < (s.length : Int)) = false := decide_eq_false (by omega)
    match s, hi, hi6, hall, hvi, e1, hs with
    | [], _, _, _, _, e1, _ =>
      rw [numI_no rfl]
      refine pB [.b false, .b true, .b true, .b true] rfl ?_
      exact S_retc .int rfl trivial rfl
    | c :: r, _, hi6, hall, hvi, e1, _ =>
      have hi6 : (c :: r).length ≤ 6 := hi6
      have e2 : ((c :: r) == ([] : List UInt8)) = false := by simp
      by_cases hc : c = 48
      · subst hc
        by_cases hr : 1 < ((48 : UInt8) :: r).length
        · have hn : numB ((48 : UInt8) :: r) = false := by
            cases h : numB ((48 : UInt8) :: r) with
            | false => rfl
            | true => exact absurd ⟨hr, rfl⟩ ((numB_iff _).1 h).2.2.2
          rw [numI_no hn]
          have e3 : decide (((((48 : UInt8) :: r).length : Nat) : Int) > 1) = true := decide_eq_true (by omega)
          refine pB [.b false, .b false, .b true, .b true, .b true] rfl ?_
          exact S_retc .int rfl trivial rfl
        · have hn : numB ((48 : UInt8) :: r) = true := (numB_iff _).2 ⟨hall, by simp, hi6, fun h => hr h.1⟩
          rw [numI_yes hn]
          have e3 : decide (((((48 : UInt8) :: r).length : Nat) : Int) > 1) = false := decide_eq_false (by omega)
          generalize valN ((48 : UInt8) :: r) = v at *
          by_cases hv : v ≤ most
          · rw [if_pos hv]
            have e4 : decide ((v : Int) > (most : Int)) = false := decide_eq_false (by omega)
            refine pB [.b false, .b false, .b true, .b false, .b false] rfl ?_
            exact S_retc .int rfl trivial rfl
          · rw [if_neg hv]
            have e4 : decide ((v : Int) > (most : Int)) = true := decide_eq_true (by omega)
            refine pB [.b false, .b false, .b true, .b false, .b true] rfl ?_
            exact S_retc .int rfl trivial rfl
      · have hn : numB (c :: r) = true := (numB_iff _).2 ⟨hall, by simp, hi6, fun h => hc (by have := h.2; simpa using this)⟩
        rw [numI_yes hn]
        have e3 : ((c.toNat : Int) == 48) = false := by
          have : ¬ c.toNat = 48 := fun e => hc (UInt8.toNat_inj.1 e)
          simpa using (show ¬ (c.toNat : Int) = 48 by omega)
        generalize valN (c :: r) = v at *
        by_cases hv : v ≤ most
        · rw [if_pos hv]
          have e4 : decide ((v : Int) > (most : Int)) = false := decide_eq_false (by omega)
          refine pB [.b false, .b false, .b false, .b false, .b false] rfl ?_
          exact S_retc .int rfl trivial rfl
        · rw [if_neg hv]
          have e4 : decide ((v : Int) > (most : Int)) = true := decide_eq_true (by omega)
          refine pB [.b false, .b false, .b false, .b false, .b true] rfl ?_
          exact S_retc .int rfl trivial rfl
theorem reg_at {tg : Tag} (ws : List (List UInt8)) (i : Nat) (w : List UInt8) (hi : i < ws.length) (hw : ws[i] = w) (hl : w.length ≤ 1000000000) : CallOk cx 37 ([] ++ [.int .i64 (i : Int)] ++ [.ptr 0 0 0]) [(0, some (.cells [.sl true false 1 (texts ws)] tg))]
    (fun o σ => o = .ret (.bool (regB w)) ∧ σ = [(0, some (.cells [.sl true false 1 (texts ws)] tg))]) :=
  callOk_intro (fun a w => Tryz.call37 a w) Tryz.func37 rfl Tryz.ntmps37 rfl fun B => by
    subst hw
    have hR := IsRegister_ok ws[i] hl
    have hwl : (texts ws).length = ws.length := by simp [texts]
    have g1 : (texts ws)[(i : Int).toNat]? = some (.str ws[i]) := texts_get hi
    have e1 : decide ((i : Int) < (((texts ws).length : Nat) : Int)) = true := decide_eq_true (by omega)
    refine pa [.v (.str ws[i]), .v (.bool (regB ws[i]))] rfl ?_ ?_
    · (repeat' with_reducible apply AllP_cons) <;> try exact aC
      · exact ⟨_, hR, .cons (.refl .str) (.nil _)⟩
    exact S_ret ⟨_, _, rfl, trivial, rfl, rfl⟩
end Go.Proofs.YtgmakmfdjhgjlaaGreatDoor
end
section
set_option linter.unusedVariables false
set_option linter.unusedSimpArgs false
set_option maxRecDepth 20000
set_option maxHeartbeats 4000000
namespace Go.Proofs.YtgmakmfdjhgjlaaGreatDoor
open Go Go.Ab
theorem runAV_n {fs : List Fil} {com : List (List UInt8)} {fuel : Int} (h : boxE fs com fuel ≠ 0) : runAV fs com fuel = .tup [.sl true false 3 (fils []), .int .i64 ((0 : Nat) : Int), .int .i64 ((0 : Nat) : Int), .int .i64 (boxE fs com fuel : Nat)] := by
  unfold runAV
  rw [if_neg h, if_neg h, if_neg h]
end Go.Proofs.YtgmakmfdjhgjlaaGreatDoor
end
