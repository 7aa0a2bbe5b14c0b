/-
  Nodes of a tree: what ReadNodes answers.
-/
import Derived.Test.YtjpmngjoohoddaaNodeR
import Derived.Test.YtjpmngjoohoddaaNodeE
set_option linter.unusedVariables false
set_option linter.unusedSimpArgs false
set_option maxRecDepth 20000
namespace Go.Proofs.Ytjpmngjoohoddaa
open Go Go.Ab

def nodesOf (l : List NodeV) : List UInt8 × Nat := (if chkN l = 0 then packNs l else [], chkN l)
def readNd (s : List UInt8) : List NodeV × Nat :=
  match rNodes s with
  | none => ([], 1)
  | some (ts, _) => if nodesOf ts = (s, 0) then (ts, 0) else ([], 1)

theorem readNV_free (x : List NodeV × Nat) : Free true (.tup [.sl true false 3 (nodes x.1), .int .i64 x.2]) := .tup (by intro y hy; simp at hy; rcases hy with rfl | rfl; exact .sl (fun _ => rfl) (nodes_any _); exact .int)
theorem nb_any {st : Bool} (l : List NodeV) : ∀ x ∈ (nodes l).flatMap AV.cells, Free st x := by
  intro x hx
  obtain ⟨y, hy, hxy⟩ := List.mem_flatMap.1 hx
  obtain ⟨n, _, rfl⟩ := List.mem_map.1 hy
  simp [nodeAV, AV.cells] at hxy
  rcases hxy with rfl | rfl | rfl
  · exact .str
  · exact .int
  · exact .str
theorem nodes_sz (l : List NodeV) : ∀ x ∈ nodes l, x.cells.length = 3 := by
  intro x hx
  obtain ⟨n, _, rfl⟩ := List.mem_map.1 hx
  rfl

theorem rNode_bd {s r : List UInt8} {n : NodeV} (h : rNode s = some (n, r)) : n.name.length ≤ s.length ∧ n.dig.length ≤ s.length ∧ r.length + 1 ≤ s.length := by
  unfold rNode at h
  split at h
  · cases h
  · rename_i h1
    have b1 := rText_bd h1
    split at h
    · cases h
    · rename_i h2
      have b2 := rNum_bd h2
      split at h
      · cases h
      · rename_i h3
        have b3 := rText_bd h3
        cases h
        simp only; omega

theorem rNodeRep_bd : ∀ (n : Nat) (r : List UInt8) {ts : List NodeV} {r' : List UInt8}, rNodeRep n r = some (ts, r') → ts.length + r'.length ≤ r.length ∧ (∀ x ∈ ts, x.name.length ≤ r.length) ∧ (∀ x ∈ ts, x.dig.length ≤ r.length)
  | 0, r, ts, r', h => by cases h; exact ⟨by simp, by simp, by simp⟩
  | n + 1, r, ts, r', h => by
    rw [rNodeRep] at h
    split at h
    · cases h
    · rename_i t r1 h1
      have hb := rNode_bd h1
      split at h
      · cases h
      · rename_i ts1 r2 h2
        obtain ⟨i1, i2, i3⟩ := rNodeRep_bd n r1 h2
        cases h
        refine ⟨by simp only [List.length_cons]; omega, fun x hx => ?_, fun x hx => ?_⟩
        · rcases List.mem_cons.1 hx with rfl | hx
          · exact hb.1
          · have := i2 x hx; omega
        · rcases List.mem_cons.1 hx with rfl | hx
          · exact hb.2.1
          · have := i3 x hx; omega

theorem rNodes_fit {s : List UInt8} {ts : List NodeV} {r : List UInt8} (h : rNodes s = some (ts, r)) (hs : s.length ≤ 9223372036854775807) : NodesOk ts := by
  unfold rNodes at h
  split at h
  · cases h
  · rename_i n r1 h1
    have := rMany_bd h1
    obtain ⟨i1, i2, i3⟩ := rNodeRep_bd n r1 h
    exact ⟨by omega, fun x hx => by have := i2 x hx; omega, fun x hx => by have := i3 x hx; omega⟩

theorem rNodes_bd {s : List UInt8} {ts : List NodeV} {r : List UInt8} (h : rNodes s = some (ts, r)) : ts.length + r.length + 1 ≤ s.length := by
  unfold rNodes at h
  split at h
  · cases h
  · rename_i n r1 h1
    have := rMany_bd h1
    have := (rNodeRep_bd n r1 h).1
    omega

theorem nclosure_ret (x e : AV) (a b : Nat) (xa xb' : Box) (R : Md → Heap → Prop) (h : R .ret [xb x, xb e, (a, some xa), (b, some xb'), zb]) :
    DCall cx (.func (.func 76) [] [.ptr 0 0 0, .ptr 1 0 0]) .ret [xb x, xb e, (a, some xa), (b, some xb')] R :=
  dcall_recover (fun a w => Try.call76 a w) Try.func76 rfl Try.ntmps76 rfl rfl rfl rfl rfl rfl rfl fun B => by
    refine ab 1000 rfl ⟨lble rfl, rfl, trivial⟩ ?_
    refine S_cond rfl (fun h => by cases h) (fun _ => ?_)
    refine ab 1000 rfl trivial ?_
    exact S_nil ⟨_, _, rfl, trivial, _, rfl, h⟩

theorem nclosure_pan (x e : AV) (a b : Nat) (xa xb' : Box) (R : Md → Heap → Prop) (h : R (.pan brk true) [xb .nils, xb (.int .i64 1), (a, some xa), (b, some xb'), zb]) :
    DCall cx (.func (.func 76) [] [.ptr 0 0 0, .ptr 1 0 0]) (.pan brk false) [xb x, xb e, (a, some xa), (b, some xb')] R :=
  dcall_recover (fun a w => Try.call76 a w) Try.func76 rfl Try.ntmps76 rfl rfl rfl rfl rfl rfl rfl fun B => by
    refine ab 1000 rfl ⟨lble rfl, rfl, trivial⟩ ?_
    refine S_cond rfl (fun _ => ?_) (fun h => by cases h)
    refine ab 1000 rfl ⟨lble rfl, rfl, lble rfl, rfl, trivial⟩ ?_
    exact S_nil ⟨_, _, rfl, trivial, _, rfl, h⟩

theorem nread_ok (s : List UInt8) (hs : s.length ≤ 1099511627776) :
    Calc cx 56 [.str s, .func (.func 57) [] [], .func (.func 29) [] []] (.tup [.sl true false 3 (nodes (readNd s).1), .int .i64 (readNd s).2]) :=
  calc_of (readNV_free _) (callOk_introD (fun a w => Try.call56 a w) Try.func56 rfl Try.ntmps56 rfl fun B hB => by
    refine ab 1000 rfl trivial ?_
    refine S_defer rfl rfl rfl rfl hB ?_
    refine ab 1000 rfl trivial ?_
    refine S_callf [2] (rnodes_ok 0 s (by omega)) rfl (.cons (.ptr rfl) (.nil _)) (Part.mk' (es := [rdE 0 s]) rfl rfl (.cons (.live (.cells (.cons (.free .str) (.nil _)))) (.nil _))) rfl rfl ?_ ?_
    · intro y σ1 h
      cases hx : rNodes s with
      | none => rw [hx] at h; cases h.1
      | some p =>
        obtain ⟨ts, r⟩ := p
        have hb := rNodes_bd hx
        rw [hx] at h
        obtain ⟨u, h1, rfl⟩ := h
        cases h1
        refine ⟨.ms 3 u 0 ts.length 3 false, [rdE 0 r, nb u ts], .cons (.live (.cells (.cons (.free .str) (.nil _)))) (.cons (.live (.cells (Rns.free (nb_any ts)))) (.nil _)), .ms rfl, ?_⟩
        refine ab 1000 rfl trivial ?_
        have htl := nodes_len ts
        have hcl := nodes_cells ts
        have hT : Calc cx 29 [.sl false false 3 (nodes ts)] (.tup [.str (nodesOf ts).1, .int .i64 ((nodesOf ts).2 : Nat)]) := Nodes_ok (st := false) (fl := false) ts (rNodes_fit hx (by omega))
        refine S_pure rfl rfl rfl hT (.cons ?_ (.nil _)) ?_
        · exact (.ms rfl (by rw [hcl]; omega) (by rw [List.drop_zero, show ts.length * 3 = ((nodes ts).flatMap AV.cells).length by rw [hcl]; omega, List.take_length]) (nodes_sz ts) htl (nodes_any ts))
        refine ab 1000 rfl trivial ?_
        generalize hto : nodesOf ts = to_
        obtain ⟨pt, pe⟩ := to_
        have good : ¬ (pt = s ∧ pe = 0) → readNd s = ([], 1) := by
          intro h
          simp only [readNd, hx, hto, Prod.mk.injEq]
          rw [if_neg h]
        refine S_guard rfl rfl rfl rfl (fun hg => ?_) (fun hg => ?_)
        · have hpe : pe ≠ 0 := by
            have hh : ((pe : Int) != 0) = true := hg
            intro e; subst e; exact absurd hh (by decide)
          refine ab 1000 rfl trivial ?_
          refine S_cond rfl (fun _ => ?_) (fun h => by cases h)
          refine ab 1000 rfl trivial ?_
          refine S_panic rfl rfl rfl ⟨_, rfl, nclosure_pan _ _ _ _ _ _ _ ⟨_, _, rfl, ⟨rfl, rfl, trivial⟩, _, rfl, ?_⟩⟩
          rw [good (fun h => hpe h.2)]
          exact Fzs.tup (.cons .nils (.cons (.refl .int) .nil))
        · have hpe : pe = 0 := by
            have hh : ((pe : Int) != 0) = false := hg
            simpa using hh
          subst hpe
          refine ab 1000 rfl trivial ?_
          refine S_cond rfl (fun h => ?_) (fun h => ?_)
          · have hne : ¬ pt = s := by simpa using h
            refine ab 1000 rfl trivial ?_
            refine S_panic rfl rfl rfl ⟨_, rfl, nclosure_pan _ _ _ _ _ _ _ ⟨_, _, rfl, ⟨rfl, rfl, trivial⟩, _, rfl, ?_⟩⟩
            rw [good (fun h => hne h.1)]
            exact Fzs.tup (.cons .nils (.cons (.refl .int) .nil))
          · have he : pt = s := by simpa using h
            subst he
            refine ab 1000 rfl ⟨lble rfl, rfl, lble rfl, rfl, trivial⟩ ?_
            refine S_ret ⟨_, rfl, nclosure_ret _ _ _ _ _ _ _ ⟨_, _, rfl, ⟨rfl, rfl, trivial⟩, _, rfl, ?_⟩⟩
            rw [show readNd pt = (ts, 0) by simp only [readNd, hx, hto, if_true]]
            exact Fzs.tup (.cons (.ms rfl (by rw [hcl]; omega) (by rw [List.drop_zero, show ts.length * 3 = ((nodes ts).flatMap AV.cells).length by rw [hcl]; omega, List.take_length]) (nodes_sz ts) htl (nodes_any ts)) (.cons (.refl .int) .nil))
    · intro y σ1 h
      cases hx : rNodes s with
      | some p => obtain ⟨ts, r⟩ := p; rw [hx] at h; obtain ⟨u, h1, _⟩ := h; cases h1
      | none =>
        rw [hx] at h
        obtain ⟨h1, r, u, ts, rfl⟩ := h
        cases h1
        refine ⟨brk, [rdE 0 r, nb u ts], .cons (.live (.cells (.cons (.free .str) (.nil _)))) (.cons (.live (.cells (Rns.free (nb_any ts)))) (.nil _)), .iface (.agg rfl (fun i h => absurd h (by simp))), ?_⟩
        refine ⟨_, rfl, nclosure_pan _ _ _ _ _ _ _ ?_⟩
        refine ⟨_, _, rfl, ⟨rfl, rfl, trivial⟩, _, rfl, ?_⟩
        rw [show readNd s = ([], 1) by simp only [readNd, hx]]
        exact Fzs.tup (.cons .nils (.cons (.refl .int) .nil)))

theorem ReadNodes_ok (s : List UInt8) (hs : s.length ≤ 1099511627776) : Calc cx 33 [.str s] (.tup [.sl true false 3 (nodes (readNd s).1), .int .i64 (readNd s).2]) :=
  pure_intro (fun a w => Try.call33 a w) Try.func33 rfl Try.ntmps33 rfl (readNV_free _) fun B => by
    refine ab 1000 rfl trivial ?_
    refine S_pure rfl rfl rfl (nread_ok s hs) (.cons (.refl .str) (.cons (.refl (.func (fun x h => by cases h) (fun x h => by cases h))) (.cons (.refl (.func (fun x h => by cases h) (fun x h => by cases h))) (.nil _)))) ?_
    refine ab 1000 rfl trivial ?_
    exact S_retc (readNV_free _) rfl trivial rfl

end Go.Proofs.Ytjpmngjoohoddaa
