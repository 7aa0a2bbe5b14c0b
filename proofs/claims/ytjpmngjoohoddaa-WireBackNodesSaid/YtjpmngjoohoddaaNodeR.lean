/-
  Nodes of a tree, read.
-/
import Derived.Test.YtjpmngjoohoddaaNodeC
import Derived.Test.YtjpmngjoohoddaaWireF
set_option linter.unusedVariables false
set_option linter.unusedSimpArgs false
set_option maxRecDepth 20000
namespace Go.Proofs.Ytjpmngjoohoddaa
open Go Go.Ab

def rNode (r : List UInt8) : Option (NodeV × List UInt8) :=
  match rText r with
  | none => none
  | some (a, r1) =>
    match rNum r1 with
    | none => none
    | some (k, r2) =>
      match rText r2 with
      | none => none
      | some (d, r3) => some (⟨a, k, d⟩, r3)

def rNodeRep : Nat → List UInt8 → Option (List NodeV × List UInt8)
  | 0, r => some ([], r)
  | n + 1, r =>
    match rNode r with
    | none => none
    | some (t, r') =>
      match rNodeRep n r' with
      | none => none
      | some (ts, r'') => some (t :: ts, r'')

def rNodes (s : List UInt8) : Option (List NodeV × List UInt8) :=
  match rMany s with
  | none => none
  | some (n, r) => rNodeRep n r

def nb (u : Nat) (ts : List NodeV) : Nat × Option Box := (u, some (.cells ((nodes ts).flatMap AV.cells) ⟨false, none⟩))

/-- What a reader of nodes leaves. -/
def RdNodes (v : Nat) (x : Option (List NodeV × List UInt8)) : Out → Heap → Prop := fun o σ' =>
  match x with
  | some (ts, r) => ∃ u, o = .ret (.ms 1 u 0 ts.length 3 false) ∧ σ' = [rdE v r, nb u ts]
  | none => o = .panic brk ∧ ∃ r u ts, σ' = [rdE v r, nb u ts]

theorem nodes_cells (l : List NodeV) : ((nodes l).flatMap AV.cells).length = 3 * l.length := by
  induction l with
  | nil => rfl
  | cons a r ih =>
    show ((AV.cells (nodeAV a)) ++ (nodes r).flatMap AV.cells).length = _
    rw [List.length_append, ih, List.length_cons]
    show 3 + 3 * r.length = _
    omega

theorem rnodes_ok (v : Nat) (s : List UInt8) (hs : s.length ≤ 1099511627776) :
    CallOk cx 57 [.ptr 0 v 0] (rd v s) (RdNodes v (rNodes s)) :=
  callOk_intro (fun a w => Try.call57 a w) Try.func57 rfl Try.ntmps57 rfl fun B => by
    refine ab 1000 rfl trivial ?_
    refine S_ghostF (t := 3) 3 ⟨false, none⟩ rfl rfl ⟨.skip, _, .inr ⟨_, _, _, rfl⟩⟩ ?_
    refine S_rd 0 rfl rfl rfl rfl rfl (fun y h => by cases h) (rmany_ok v s (by omega)) (fun _ => .int) (fun n r hx => ?_) (fun hx r => ?_)
    · have hb := rMany_bd hx
      refine ab 1000 rfl trivial ?_
      refine S_while (α := List NodeV × List UInt8 × Nat) (fun (ts, r, u) => [(0, .ptr 0 v 0), (3, .ms 1 u 0 ts.length 3 false), (5, .int .i64 n), (6, .int .i64 ts.length)]) (fun (ts, r, u) => [rdE v r, nb u ts])
        (fun (ts, r, u) => ts.length ≤ n ∧ ts.length + r.length ≤ s.length ∧ rNodes s = (match rNodeRep (n - ts.length) r with | none => none | some (ts', r') => some (ts ++ ts', r'))) (fun (ts, r, u) => n - ts.length) ([], r, 0)
        ⟨Nat.zero_le _, by simp; omega, ?_⟩ (.cons rfl (.cons rfl (.cons rfl (.cons rfl (.nil _))))) rfl ?_
      · simp only [rNodes, hx, List.length_nil, Nat.sub_zero, List.nil_append]
        cases rNodeRep n r <;> rfl
      rintro ⟨ts, r, u⟩ ⟨h1, h2, h3⟩
      refine ab 1000 rfl trivial ?_
      refine S_dec rfl (fun hlt => ?_) (fun hlt => ?_)
      · obtain ⟨m, hm⟩ : ∃ m, n - ts.length = m + 1 := ⟨n - ts.length - 1, by omega⟩
        rw [hm, rNodeRep] at h3
        refine ab 1000 rfl trivial ?_
        refine S_rd 0 rfl rfl rfl rfl rfl (fun y h => by cases h) (rtext_ok v r (by omega)) (fun _ => .str) (fun t r1 hx1 => ?_) (fun hx1 r' => ?_)
        · have hb1 := rText_bd hx1
          refine ab 1000 rfl trivial ?_
          refine S_rd 0 rfl rfl rfl rfl rfl (fun y h => by cases h) (rnumber_ok v r1 (by omega)) (fun _ => .int) (fun k r2 hx2 => ?_) (fun hx2 r' => ?_)
          · have hb2 := rNum_bd hx2
            refine ab 1000 rfl trivial ?_
            refine S_rd 0 rfl rfl rfl rfl rfl (fun y h => by cases h) (rtext_ok v r2 (by omega)) (fun _ => .str) (fun d r3 hx3 => ?_) (fun hx3 r' => ?_)
            · have hb3 := rText_bd hx3
              have hn : rNode r = some (⟨t, k, d⟩, r3) := by simp only [rNode, hx1, hx2, hx3]
              rw [hn] at h3
              refine ab 1000 rfl ⟨?_, ?_, ?_, rfl, rfl, allOne_mem (cs := [.str t, .int .i64 (k : Nat), .str d]) rfl, allOne_mem (cs := [.str t, .int .i64 (k : Nat), .str d]) rfl, rfl, trivial⟩ ?_
              · show ts.length + 1 ≤ 9223372036854775807; omega
              · show (ts.length + 1) * 40 ≤ 140737488355328; omega
              · show 0 + ts.length * 3 = ((nodes ts).flatMap AV.cells).length
                rw [nodes_cells]; omega
              refine S_round (ts ++ [⟨t, k, d⟩], r3, u + 1) (by show n - (ts ++ [(⟨t, k, d⟩ : NodeV)]).length < n - ts.length; simp; omega) ⟨by simp; omega, by simp; omega, ?_⟩ (.cons rfl (.cons ?_ (.cons rfl (.cons ?_ (.nil _))))) ?_
              · rw [h3, show n - (ts ++ [(⟨t, k, d⟩ : NodeV)]).length = m by simp; omega]
                cases hq : rNodeRep m r3 <;> simp [hq]
              · show AV.ms 1 (u + 1) 0 (ts.length + 1) 3 false = _
                simp
              · show AV.int .i64 (IntKind.i64.wrap ((ts.length : Int) + 1)) = _
                exact ai64 (by simp) (by simp; omega)
              · show [rdE v r3, (u + 1, some (Box.cells ((nodes ts).flatMap AV.cells ++ [.str t, .int .i64 (k : Nat), .str d]) ⟨false, none⟩))] = _
                simp [nodes, nb, nodeAV, AV.cells]
            · have hn : rNode r = none := by simp only [rNode, hx1, hx2, hx3]
              rw [hn] at h3
              show RdNodes v (rNodes s) (.panic brk) _
              rw [h3]
              exact ⟨rfl, r', u, ts, rfl⟩
          · have hn : rNode r = none := by simp only [rNode, hx1, hx2]
            rw [hn] at h3
            show RdNodes v (rNodes s) (.panic brk) _
            rw [h3]
            exact ⟨rfl, r', u, ts, rfl⟩
        · have hn : rNode r = none := by simp only [rNode, hx1]
          rw [hn] at h3
          show RdNodes v (rNodes s) (.panic brk) _
          rw [h3]
          exact ⟨rfl, r', u, ts, rfl⟩
      · refine ab 1000 rfl trivial ?_
        refine S_ret ⟨_, _, rfl, trivial, ?_⟩
        have h0 : n - ts.length = 0 := by omega
        rw [h0, rNodeRep] at h3
        rw [h3]
        exact ⟨u, by simp; rfl, by simp⟩
    · show RdNodes v (rNodes s) (.panic brk) _
      simp only [rNodes, hx]
      exact ⟨rfl, r, 0, [], rfl⟩

end Go.Proofs.Ytjpmngjoohoddaa
