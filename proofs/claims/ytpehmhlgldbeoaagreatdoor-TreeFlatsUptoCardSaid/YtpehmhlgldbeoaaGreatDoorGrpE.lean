/-
  Texts of our own, in one file.
-/
import Derived.Test.YtpehmhlgldbeoaaGreatDoorGrpD
import Derived.WideShapes
import Derived.Shelf.Spec.SlicesGrow
import Derived.Shelf.SlSortCmp.WholeK
import Derived.WalkKit
import Derived.Lib.Walk
section
set_option linter.unusedVariables false
set_option linter.unusedSimpArgs false
set_option maxRecDepth 20000
set_option maxHeartbeats 4000000
namespace Go.Proofs.YtpehmhlgldbeoaaGreatDoor
open Go Go.Ab
def flatN (sub : List UInt8 → List UInt8 → List Fil → List Fil × Nat) (get : List UInt8 → Option (List UInt8)) (path : List UInt8) : List NodeV → List Fil → List Fil × Nat
  | [], out => (out, 0)
  | nd :: r, out =>
    if 100 < (path ++ nd.name).length then (out, 2)
    else if nd.kind = 3 then
      if (sub nd.dig (path ++ nd.name ++ [47]) out).2 = 0 then flatN sub get path r (sub nd.dig (path ++ nd.name ++ [47]) out).1 else sub nd.dig (path ++ nd.name ++ [47]) out
    else match get nd.dig with
      | none => (out, 5)
      | some t => if out.length = 60 then (out, 2) else flatN sub get path r (out ++ [⟨path ++ nd.name, t, nd.kind == 2⟩])
def flatD (get : List UInt8 → Option (List UInt8)) : Nat → List UInt8 → List UInt8 → List Fil → List Fil × Nat
  | 0, d, path, out => (out, 0)
  | n + 1, d, path, out => match get d with
    | none => (out, 5)
    | some s => if (readNd s).2 ≠ 0 then (out, 1) else if (readNd s).1 = [] ∧ path ≠ [] then (out, 4) else flatN (flatD get n) get path (readNd s).1 out
theorem cels_free {st : Bool} (g : List Fil) : ∀ x ∈ celsF g, Free st x := by
  intro x hx
  obtain ⟨y, hy, hx⟩ := List.mem_flatMap.1 hx
  obtain ⟨f, _, rfl⟩ := List.mem_map.1 hy
  have hx : x ∈ [AV.str f.path, .str f.text, .bool f.run] := hx
  simp at hx; rcases hx with rfl | rfl | rfl
  · exact .str
  · exact .str
  · exact .bool
theorem celsF_add (g : List Fil) (f : Fil) : celsF (g ++ [f]) = celsF g ++ [.str f.path, .str f.text, .bool f.run] := by
  unfold celsF fils
  rw [List.map_append, List.flatMap_append]; rfl
theorem flatN_len {sub : List UInt8 → List UInt8 → List Fil → List Fil × Nat} {get : List UInt8 → Option (List UInt8)} {path : List UInt8} (hs : ∀ d p o, o.length ≤ 60 → (sub d p o).1.length ≤ 60 ∧ o.length ≤ (sub d p o).1.length) :
    ∀ (l : List NodeV) (out : List Fil), out.length ≤ 60 → (flatN sub get path l out).1.length ≤ 60 ∧ out.length ≤ (flatN sub get path l out).1.length
  | [], out, h => ⟨h, Nat.le_refl _⟩
  | nd :: r, out, h => by
    rw [flatN]
    split
    · exact ⟨h, Nat.le_refl _⟩
    split
    · have h1 := hs nd.dig (path ++ nd.name ++ [47]) out h
      split
      · have h2 := flatN_len (get := get) (path := path) hs r _ h1.1
        exact ⟨h2.1, Nat.le_trans h1.2 h2.2⟩
      · exact h1
    split
    · exact ⟨h, Nat.le_refl _⟩
    · split
      · exact ⟨h, Nat.le_refl _⟩
      · have h2 := flatN_len (get := get) (path := path) hs r (out ++ [⟨path ++ nd.name, ‹_›, nd.kind == 2⟩]) (by simp; omega)
        rw [List.length_append] at h2
        exact ⟨h2.1, Nat.le_trans (Nat.le_add_right _ _) h2.2⟩
theorem flatD_len (get : List UInt8 → Option (List UInt8)) : ∀ (n : Nat) (d path : List UInt8) (out : List Fil), out.length ≤ 60 → (flatD get n d path out).1.length ≤ 60 ∧ out.length ≤ (flatD get n d path out).1.length
  | 0, d, path, out, h => ⟨h, Nat.le_refl _⟩
  | n + 1, d, path, out, h => by
    rw [flatD]
    split
    · exact ⟨h, Nat.le_refl _⟩
    · split
      · exact ⟨h, Nat.le_refl _⟩
      · split
        · exact ⟨h, Nat.le_refl _⟩
        · exact flatN_len (flatD_len get n) _ out h
theorem readNd_fit {s : List UInt8} (h : (readNd s).2 = 0) : chkN (readNd s).1 = 0 := by
  unfold readNd at h ⊢
  split at h
  · cases h
  · rename_i ts q hx
    split at h
    · rename_i hq
      rw [if_pos hq]
      unfold nodesOf at hq
      exact congrArg Prod.snd hq
    · cases h
theorem readNd_len {s : List UInt8} (h : (readNd s).2 = 0) : (readNd s).1.length ≤ 60 := (chk_fit (readNd_fit h)).len
theorem readNd_name {s : List UInt8} (h : (readNd s).2 = 0) : ∀ x ∈ (readNd s).1, x.name.length ≤ 20 := (chk_fit (readNd_fit h)).name
def getM (ks : List (List UInt8)) (tx : List UInt8 → List UInt8) : List UInt8 → Option (List UInt8) := fun d => if d ∈ ks then some (tx d) else none
def hpT (ks : List (List UInt8)) (tx : List UInt8 → List UInt8) (g : Nat) (out : List Fil) (τ : Heap) : Heap :=
  (0, mapBx ks fun d => .str (tx d)) :: (0, some (.cells [.map 0 0, .ms 2 (g + out.length) 0 out.length 3 false] ⟨false, some 61⟩)) :: (g + out.length, some (.cells (celsF out) ⟨false, none⟩)) :: τ
def hpF (ks : List (List UInt8)) (tx : List UInt8 → List UInt8) (g : Nat) (out : List Fil) : Heap := hpT ks tx g out []
theorem hpF_rn (ks : List (List UInt8)) (tx : List UInt8 → List UInt8) (g : Nat) (out : List Fil) : RnH (List.range 3) (hpF ks tx g out) (hpF ks tx g out) :=
  .cons (.live (.map rfl fun i h1 h2 => by simp only [mapF, List.getElem_map]; exact ⟨.free .str, .free .str⟩)) (.cons (.live (.cells (.cons (.map rfl) (.cons (.ms rfl) (.nil _))))) (.cons (.live (.cells ⟨rfl, fun i h1 h2 => .free (cels_free out _ (List.getElem_mem _))⟩)) (.nil _)))
theorem flatN_at {sub : List UInt8 → List UInt8 → List Fil → List Fil × Nat} {get : List UInt8 → Option (List UInt8)} {path : List UInt8} {l : List NodeV} {j : Nat} (h : j < l.length) (out : List Fil) : flatN sub get path (l.drop j) out =
    if 100 < (path ++ l[j].name).length then (out, 2)
    else if l[j].kind = 3 then
      if (sub l[j].dig (path ++ l[j].name ++ [47]) out).2 = 0 then flatN sub get path (l.drop (j + 1)) (sub l[j].dig (path ++ l[j].name ++ [47]) out).1 else sub l[j].dig (path ++ l[j].name ++ [47]) out
    else match get l[j].dig with
      | none => (out, 5)
      | some t => if out.length = 60 then (out, 2) else flatN sub get path (l.drop (j + 1)) (out ++ [⟨path ++ l[j].name, t, l[j].kind == 2⟩]) := by
  rw [List.drop_eq_getElem_cons h, flatN]
theorem dir_ok (ks : List (List UInt8)) (tx : List UInt8 → List UInt8) (htx : ∀ d ∈ ks, (tx d).length ≤ 1000000) (g : Nat) : ∀ (n : Nat) (d path : List UInt8) (out : List Fil), path.length ≤ 101 → 102 ≤ n + path.length → out.length ≤ 60 →
    CallOk cx 48 [.ptr 1 0 0, .str d, .str path] (hpF ks tx g out) (fun o s => o = .ret (.int .i64 ((flatD (getM ks tx) n d path out).2 : Nat)) ∧ s = hpF ks tx g (flatD (getM ks tx) n d path out).1)
  | 0, d, path, out, h1, h2, h3 => by omega
  | n + 1, d, path, out, h1, h2, h3 => callOk_introT (fun a w => Tryz.call48 a w) Tryz.func48 rfl Tryz.ntmps48 rfl fun B => by
    have ret : ∀ (o : List Fil) (e : Nat) (τ : Heap), (flatD (getM ks tx) (n + 1) d path out) = (o, e) → TR 3 (fun z s => z = .ret (.int .i64 ((flatD (getM ks tx) (n + 1) d path out).2 : Nat)) ∧ s = hpF ks tx g (flatD (getM ks tx) (n + 1) d path out).1) (.ret (.int .i64 (e : Nat))) (hpT ks tx g o τ) := by
      intro o e τ he
      rw [he]
      refine ⟨3, Nat.le_refl _, LowH.of (fun x hx y hy => ?_), _, .low .int, rfl, rfl⟩
      have hx : x ∈ hpF ks tx g o := hx
      unfold hpF hpT at hx
      simp only [List.mem_cons, List.not_mem_nil, or_false] at hx
      rcases hx with rfl | rfl | rfl
      · cases hy; exact .map fun p hp => by obtain ⟨t, _, rfl⟩ := List.mem_map.1 hp; exact ⟨.str, .str⟩
      · cases hy; exact .cells (by intro z hz; simp at hz; rcases hz with rfl | rfl; exact .map (by decide); exact .ms (by decide))
      · cases hy
        refine .cells fun z hz => ?_
        obtain ⟨y, hy, hz⟩ := List.mem_flatMap.1 hz
        obtain ⟨f, _, rfl⟩ := List.mem_map.1 hy
        have hz : z ∈ [AV.str f.path, .str f.text, .bool f.run] := hz
        simp at hz; rcases hz with rfl | rfl | rfl; exact .str; exact .str; exact .bool
    refine S_dead ?_ ⟨_, _, .inl rfl⟩
    by_cases hk : d ∈ ks
    case neg =>
      have hres : flatD (getM ks tx) (n + 1) d path out = (out, 5) := by rw [flatD, getM, if_neg hk]
      refine pa [.v (.tup [.str [], .bool false]), .b true] rfl ?_ ?_
      · (repeat' with_reducible apply AllP_cons) <;> try exact aC
        · exact OpSpec.mget (kt := 9) (et := 9) (ks := ks) (val := fun d => .str (tx d)) (s := d) (z := .str []) rfl (Tryz.underlying59) rfl rfl rfl rfl rfl (by rw [if_neg hk, decide_eq_false hk]; rfl)
      exact S_ret ⟨_, _, rfl, trivial, ret out 5 [(0, none)] hres⟩
    have hget : getM ks tx d = some (tx d) := if_pos hk
    have hsl := htx d hk
    have hR := ReadNodes_ok (tx d) (by omega)
    by_cases he : (readNd (tx d)).2 = 0
    case neg =>
      have hres : flatD (getM ks tx) (n + 1) d path out = (out, 1) := by rw [flatD, hget]; show (if (readNd (tx d)).2 ≠ 0 then _ else _) = _; rw [if_pos he]
      refine pa [.v (.tup [.str (tx d), .bool true]), .b false, .v (.tup [.sl true false 3 (nodes (readNd (tx d)).1), .int .i64 (((readNd (tx d)).2 : Nat) : Int)]), .b true] rfl ?_ ?_
      · (repeat' with_reducible apply AllP_cons) <;> try exact aC
        · exact OpSpec.mget (kt := 9) (et := 9) (ks := ks) (val := fun d => .str (tx d)) (s := d) (z := .str []) rfl (Tryz.underlying59) rfl rfl rfl rfl rfl (by rw [if_pos hk, decide_eq_true hk]; rfl)
        · exact ⟨_, hR, .cons (.refl .str) (.nil _)⟩
        · show (((((readNd (tx d)).2 : Nat) : Int)) != 0) = true
          rw [chk_bne]; simpa using he
      exact S_ret ⟨_, _, rfl, trivial, ret out 1 [(0, none)] hres⟩
    rw [he] at hR
    have hD : flatD (getM ks tx) (n + 1) d path out = if (readNd (tx d)).1 = [] ∧ path ≠ [] then (out, 4) else flatN (flatD (getM ks tx) n) (getM ks tx) path (readNd (tx d)).1 out := by
      rw [flatD, hget]; show (if (readNd (tx d)).2 ≠ 0 then _ else _) = _; rw [if_neg (by simp [he])]
    have hnl0 : (readNd (tx d)).1.length ≤ 60 := readNd_len he
    have hnm0 : ∀ x ∈ (readNd (tx d)).1, x.name.length ≤ 20 := readNd_name he
    generalize (readNd (tx d)).1 = nds at *
    have hnl := nodes_len nds
    by_cases hbad : nds = [] ∧ path ≠ []
    · rw [if_pos hbad] at hD
      obtain ⟨rfl, hp⟩ := hbad
      refine pa [.v (.tup [.str (tx d), .bool true]), .b false, .v (.tup [.sl true false 3 (nodes []), .int .i64 ((0 : Nat) : Int)]), .b false, .b true, .b true] rfl ?_ ?_
      · (repeat' with_reducible apply AllP_cons) <;> try exact aC
        · exact OpSpec.mget (kt := 9) (et := 9) (ks := ks) (val := fun d => .str (tx d)) (s := d) (z := .str []) rfl (Tryz.underlying59) rfl rfl rfl rfl rfl (by rw [if_pos hk, decide_eq_true hk]; rfl)
        · exact ⟨_, hR, .cons (.refl .str) (.nil _)⟩
        · show (!(path == [])) = true
          simp [hp]
      exact S_ret ⟨_, _, rfl, trivial, ret out 4 [(0, none)] hD⟩
    rw [if_neg hbad] at hD
    by_cases hem : nds = []
    case' pos =>
      have hp0 : path = [] := Classical.byContradiction fun hp => hbad ⟨hem, hp⟩
      have e1 : ((((nodes nds).length : Nat) : Int) == 0) = true := by rw [hnl, hem]; rfl
      have e2 : (!(path == [])) = false := by rw [hp0]; rfl
      refine pa [.v (.tup [.str (tx d), .bool true]), .b false, .v (.tup [.sl true false 3 (nodes nds), .int .i64 ((0 : Nat) : Int)]), .b false, .b true, .b false] rfl ?_ ?_
    case' neg =>
      have e1 : ((((nodes nds).length : Nat) : Int) == 0) = false := by
        have : nds.length ≠ 0 := fun h => hem (List.length_eq_zero_iff.1 h)
        rw [hnl]; simp; exact hem
      refine pa [.v (.tup [.str (tx d), .bool true]), .b false, .v (.tup [.sl true false 3 (nodes nds), .int .i64 ((0 : Nat) : Int)]), .b false, .b false, .b false] rfl ?_ ?_
    case pos.refine_1 | neg.refine_1 =>
      (repeat' with_reducible apply AllP_cons) <;> try exact aC
      · exact OpSpec.mget (kt := 9) (et := 9) (ks := ks) (val := fun d => .str (tx d)) (s := d) (z := .str []) rfl (Tryz.underlying59) rfl rfl rfl rfl rfl (by rw [if_pos hk, decide_eq_true hk]; rfl)
      · exact ⟨_, hR, .cons (.refl .str) (.nil _)⟩
    all_goals
      refine S_while (α := Nat × List Fil) (fun q => [(0, .ptr 1 0 0), (2, .str path), (42, .sl true false 3 (nodes nds)), (43, .int .i64 (((nodes nds).length : Nat) : Int)), (44, .int .i64 (q.1 : Nat))]) (fun q => hpT ks tx g q.2 [(q.1, none)]) (fun q => q.1 ≤ nds.length ∧ q.2.length ≤ 60 ∧ flatN (flatD (getM ks tx) n) (getM ks tx) path (nds.drop q.1) q.2 = flatN (flatD (getM ks tx) n) (getM ks tx) path nds out) (fun q => nds.length - q.1) (0, out)
        ⟨Nat.zero_le _, h3, rfl⟩ (.cons rfl (.cons rfl (.cons rfl (.cons rfl (.cons rfl (.nil _)))))) rfl ?_
      rintro ⟨j, o⟩ ⟨hj, ho, hI⟩
      have hj : j ≤ nds.length := hj
      have ho : o.length ≤ 60 := ho
      have hI : flatN (flatD (getM ks tx) n) (getM ks tx) path (nds.drop j) o = flatN (flatD (getM ks tx) n) (getM ks tx) path nds out := hI
      by_cases hjt : j < nds.length
      · have e1 : decide ((j : Int) < (((nodes nds).length : Nat) : Int)) = true := decide_eq_true (by omega)
        have g1 : (nodes nds)[(j : Int).toNat]? = some (nodeAV nds[j]) := nodes_get hjt
        have hnm := hnm0 _ (List.getElem_mem hjt)
        rw [flatN_at hjt] at hI
        generalize nds[j] = nd at *
        have hpl : (path ++ nd.name).length = path.length + nd.name.length := List.length_append ..
        by_cases hlong : 100 < (path ++ nd.name).length
        · rw [if_pos hlong] at hI
          rw [← hI] at hD
          have e2 : decide ((((path ++ nd.name).length : Nat) : Int) > 100) = true := decide_eq_true (by omega)
          refine pB [.b true, .v (nodeAV nd), .b true] rfl ?_
          exact S_ret ⟨_, _, rfl, trivial, ret o 2 _ hD⟩
        rw [if_neg hlong] at hI
        have e2 : decide ((((path ++ nd.name).length : Nat) : Int) > 100) = false := decide_eq_false (by omega)
        by_cases h3k : nd.kind = 3
        · rw [if_pos h3k] at hI
          have e3 : (nd.kind == 3) = true := by rw [h3k]; rfl
          have ih := dir_ok ks tx htx g n nd.dig (path ++ nd.name ++ [47]) o (by rw [List.length_append]; simp only [List.length_cons, List.length_nil]; omega) (by rw [List.length_append]; simp only [List.length_cons, List.length_nil]; omega) ho
          have hfl := flatD_len (getM ks tx) n nd.dig (path ++ nd.name ++ [47]) o ho
          generalize flatD (getM ks tx) n nd.dig (path ++ nd.name ++ [47]) o = y at *
          obtain ⟨o', e'⟩ := y
          by_cases he' : e' = 0
          · rw [if_pos he'] at hI
            subst he'
            refine pa [.b true, .v (nodeAV nd), .b false, .b true, .f (.int .i64 ((0 : Nat) : Int)) (fun σ => hpT ks tx g o' σ.tail.tail.tail), .b false, .s] rfl ?_ ?_
            · (repeat' with_reducible apply AllP_cons) <;> try exact aC
              · exact CallOk.pre1 (σ := hpF ks tx g o) (σ' := hpF ks tx g o') 3 _ ih rfl rfl (.cons (.ptr rfl) (.cons (.free .str) (.cons (.free .str) (.nil _)))) (hpF_rn _ _ _ _) (hpF_rn _ _ _ _) (.free .int)
            refine S_drop (id := 3) rfl ?_ ⟨.skip, _, .inr ⟨_, _, _, rfl⟩⟩
            refine pB [] rfl ?_
            exact S_round (j + 1, o') (by show nds.length - (j + 1) < nds.length - j; omega) ⟨hjt, hfl.1, hI⟩ (.cons rfl (.cons rfl (.cons rfl (.cons rfl (.cons (nX (by omega)) (.nil _)))))) rfl
          · rw [if_neg he'] at hI
            rw [← hI] at hD
            refine pa [.b true, .v (nodeAV nd), .b false, .b true, .f (.int .i64 (e' : Nat)) (fun σ => hpT ks tx g o' σ.tail.tail.tail), .b true] rfl ?_ ?_
            · (repeat' with_reducible apply AllP_cons) <;> try exact aC
              · exact CallOk.pre1 (σ := hpF ks tx g o) (σ' := hpF ks tx g o') 3 _ ih rfl rfl (.cons (.ptr rfl) (.cons (.free .str) (.cons (.free .str) (.nil _)))) (hpF_rn _ _ _ _) (hpF_rn _ _ _ _) (.free .int)
              · show ((((e' : Int)) != 0) = true)
                rw [chk_bne]; simpa using he'
            exact S_ret ⟨_, _, rfl, trivial, ret o' e' _ hD⟩
        · rw [if_neg h3k] at hI
          have e3 : (nd.kind == 3) = false := by simpa using h3k
          by_cases hkd : nd.dig ∈ ks
          case neg =>
            have hgn : getM ks tx nd.dig = none := if_neg hkd
            rw [hgn] at hI
            rw [← hI] at hD
            refine pa [.b true, .v (nodeAV nd), .b false, .b false, .v (.tup [.str [], .bool false]), .b true] rfl ?_ ?_
            · (repeat' with_reducible apply AllP_cons) <;> try exact aC
              all_goals exact OpSpec.mget (kt := 9) (et := 9) (ks := ks) (val := fun d => .str (tx d)) (s := nd.dig) (z := .str []) rfl (Tryz.underlying59) rfl rfl rfl rfl rfl (by rw [if_neg hkd, decide_eq_false hkd]; rfl)
            exact S_ret ⟨_, _, rfl, trivial, ret o 5 _ hD⟩
          have hgn : getM ks tx nd.dig = some (tx nd.dig) := if_pos hkd
          rw [hgn] at hI
          by_cases h60 : o.length = 60
          · have hI : (if o.length = 60 then (o, 2) else _) = _ := hI
            rw [if_pos h60] at hI
            rw [← hI] at hD
            have e4 : ((o.length : Int) == 60) = true := by rw [h60]; rfl
            refine pa [.b true, .v (nodeAV nd), .b false, .b false, .v (.tup [.str (tx nd.dig), .bool true]), .b false, .b true] rfl ?_ ?_
            · (repeat' with_reducible apply AllP_cons) <;> try exact aC
              all_goals exact OpSpec.mget (kt := 9) (et := 9) (ks := ks) (val := fun d => .str (tx d)) (s := nd.dig) (z := .str []) rfl (Tryz.underlying59) rfl rfl rfl rfl rfl (by rw [if_pos hkd, decide_eq_true hkd]; rfl)
            exact S_ret ⟨_, _, rfl, trivial, ret o 2 _ hD⟩
          · have hI : (if o.length = 60 then (o, 2) else _) = _ := hI
            rw [if_neg h60] at hI
            have e4 : ((o.length : Int) == 60) = false := by simp; omega
            have hcl := cels_len o
            refine pa [.b true, .v (nodeAV nd), .b false, .b false, .v (.tup [.str (tx nd.dig), .bool true]), .b false, .b false,
              .d 12 13 [] (fun σ => (0, mapBx ks fun d => .str (tx d)) :: (0, some (.cells [.map 0 0, .ms 2 (g + o.length) 0 o.length 3 false] ⟨false, some 61⟩)) :: (g + o.length + 1, some (.cells (celsF o ++ [.str (path ++ nd.name), .str (tx nd.dig), .bool (nd.kind == 2)]) ⟨false, none⟩)) :: σ.tail.tail.tail) [.ms 2 (g + o.length + 1) 0 (o.length + 1) 3 false], .s] rfl ?_ ?_
            · (repeat' with_reducible apply AllP_cons) <;> try exact aC
              · exact OpSpec.mget (kt := 9) (et := 9) (ks := ks) (val := fun d => .str (tx d)) (s := nd.dig) (z := .str []) rfl (Tryz.underlying59) rfl rfl rfl rfl rfl (by rw [if_pos hkd, decide_eq_true hkd]; rfl)
              · show 0 + o.length * 3 = _
                rw [hcl]; omega
              · show (o.length + 1) * 40 ≤ 140737488355328
                omega
            refine pan 5 [] rfl ?_ ?_
            · (repeat' with_reducible apply AllP_cons) <;> try exact aC
            refine S_drop (id := 3) rfl ?_ ⟨_, _, .inl rfl⟩
            refine S_heap (hpT ks tx g (o ++ [⟨path ++ nd.name, tx nd.dig, nd.kind == 2⟩]) [(j + 1, none)]) ?_ ?_
            · show [(0, mapBx ks fun d => .str (tx d)), (0, some (.cells [.map 0 0, .ms 2 (g + o.length + 1) 0 (o.length + 1) 3 false] ⟨false, some 61⟩)), (g + o.length + 1, some (.cells (celsF o ++ [.str (path ++ nd.name), .str (tx nd.dig), .bool (nd.kind == 2)]) ⟨false, none⟩)), (j + 1, none)] = _
              have hoa : (o ++ [(⟨path ++ nd.name, tx nd.dig, nd.kind == 2⟩ : Fil)]).length = o.length + 1 := by simp
              unfold hpT
              rw [celsF_add, hoa]; rfl
            refine pB [] rfl ?_
            exact S_round (j + 1, o ++ [⟨path ++ nd.name, tx nd.dig, nd.kind == 2⟩]) (by show nds.length - (j + 1) < nds.length - j; omega) ⟨hjt, by show (o ++ [_]).length ≤ 60; simp; omega, hI⟩ (.cons rfl (.cons rfl (.cons rfl (.cons rfl (.cons (nX (by omega)) (.nil _)))))) rfl
      · have e1 : decide ((j : Int) < (((nodes nds).length : Nat) : Int)) = false := decide_eq_false (by omega)
        rw [List.drop_eq_nil_of_le (by omega), flatN] at hI
        rw [← hI] at hD
        refine pB [.b false] rfl ?_
        exact S_ret ⟨_, _, rfl, trivial, ret o 0 _ hD⟩
end Go.Proofs.YtpehmhlgldbeoaaGreatDoor
end
section
set_option linter.unusedVariables false
set_option linter.unusedSimpArgs false
set_option maxRecDepth 20000
set_option maxHeartbeats 4000000
namespace Go.Proofs.YtpehmhlgldbeoaaGreatDoor
open Go Go.Ab
theorem Flat1_ok (s : List UInt8) : Calc cx 45 [.str s] (.bool (decide (100000 < s.length))) :=
  pure_intro (fun a w => Tryz.call45 a w) Tryz.func45 rfl Tryz.ntmps45 rfl .bool fun B => by
    refine pB [] rfl ?_
    refine S_retc .bool rfl trivial ?_
    show AV.bool (decide ((s.length : Int) > 100000)) = _
    congr 1
    rw [decide_eq_decide]; omega
def longT (l : List (List UInt8)) : Bool := l.any fun s => decide (100000 < s.length)
theorem IndexFuncS_ok {st fl : Bool} (l : List (List UInt8)) (hl : l.length ≤ 1000000000000) : Calc cx 73 [.sl st fl 1 (texts l), .func (.func 45) [] []] (.int .i64 (match l.findIdx? (fun s => decide (100000 < s.length)) with | some i => (i : Int) | none => -1)) :=
  pure_intro (fun a w => Tryz.call73 a w) Tryz.func73 rfl Tryz.ntmps73 rfl .int fun B => by
    have htl : (texts l).length = l.length := by simp [texts]
    refine pB [] rfl ?_
    refine S_while (α := Nat) (fun i => [(0, .sl st fl 1 (texts l)), (1, .func (.func 45) [] []), (7, .int .i64 (((texts l).length : Nat) : Int)), (8, .int .i64 (i : Nat))]) (fun _ => []) (fun i => i ≤ l.length ∧ ∀ k (hk : k < l.length), k < i → l[k].length ≤ 100000) (fun i => l.length - i) 0
      ⟨Nat.zero_le _, fun k hk h => absurd h (Nat.not_lt_zero _)⟩ (.cons rfl (.cons rfl (.cons rfl (.cons rfl (.nil _))))) rfl ?_
    rintro i ⟨hi, hN⟩
    have hi : i ≤ l.length := hi
    by_cases hlt : i < l.length
    · have e1 : decide ((i : Int) < (((texts l).length : Nat) : Int)) = true := decide_eq_true (by omega)
      have g1 : (texts l)[(i : Int).toNat]? = some (.str l[i]) := by rw [Int.toNat_natCast]; simp [texts, List.getElem?_eq_getElem hlt]
      have hF := Flat1_ok l[i]
      by_cases hb : 100000 < l[i].length
      · rw [decide_eq_true hb] at hF
        refine pa [.b true, .v (.str l[i]), .v (.bool true), .b true] rfl ?_ ?_
        · (repeat' with_reducible apply AllP_cons) <;> try exact aC
          · exact ⟨_, hF, .cons (.refl .str) (.nil _)⟩
        refine S_retc .int rfl trivial ?_
        have : l.findIdx? (fun s => decide (100000 < s.length)) = some i := by
          rw [List.findIdx?_eq_some_iff_getElem]
          exact ⟨hlt, by simpa using hb, fun j hj => by have := hN j (by omega) hj; simpa using this⟩
        rw [this]; rfl
      · rw [decide_eq_false hb] at hF
        refine pa [.b true, .v (.str l[i]), .v (.bool false), .b false] rfl ?_ ?_
        · (repeat' with_reducible apply AllP_cons) <;> try exact aC
          · exact ⟨_, hF, .cons (.refl .str) (.nil _)⟩
        refine S_round (i + 1) (by show l.length - (i + 1) < l.length - i; omega) ⟨hlt, fun k hk h => ?_⟩ (.cons rfl (.cons rfl (.cons rfl (.cons (nX (by omega)) (.nil _))))) rfl
        have h : k < i + 1 := h
        by_cases hki : k < i
        · exact hN k hk hki
        · have : k = i := by omega
          subst this; omega
    · have e1 : decide ((i : Int) < (((texts l).length : Nat) : Int)) = false := decide_eq_false (by omega)
      refine pB [.b false] rfl ?_
      refine S_retc .int rfl trivial ?_
      have : l.findIdx? (fun s => decide (100000 < s.length)) = none := by
        rw [List.findIdx?_eq_none_iff]
        intro x hx
        obtain ⟨k, hk, rfl⟩ := List.getElem_of_mem hx
        have := hN k hk (by omega)
        simpa using this
      rw [this]; rfl
theorem ContainsFuncS_ok {st fl : Bool} (l : List (List UInt8)) (hl : l.length ≤ 1000000000000) : Calc cx 44 [.sl st fl 1 (texts l), .func (.func 45) [] []] (.bool (longT l)) :=
  pure_intro (fun a w => Tryz.call44 a w) Tryz.func44 rfl Tryz.ntmps44 rfl .bool fun B => by
    have hI := IndexFuncS_ok (st := st) (fl := fl) l hl
    refine pa [.v (.int .i64 (match l.findIdx? (fun s => decide (100000 < s.length)) with | some i => (i : Int) | none => -1))] rfl ?_ ?_
    · (repeat' with_reducible apply AllP_cons) <;> try exact aC
      · exact ⟨_, hI, .cons (.refl (.sl (fun h => by cases h) (texts_any l))) (.cons (.refl (.func (fun x h => by cases h) (fun x h => by cases h))) (.nil _))⟩
    refine S_retc .bool rfl trivial ?_
    show AV.bool (decide ((match l.findIdx? (fun s => decide (100000 < s.length)) with | some i => (i : Int) | none => -1) ≥ 0)) = _
    congr 1
    unfold longT
    cases h : l.findIdx? (fun s => decide (100000 < s.length)) with
    | none =>
      rw [List.findIdx?_eq_none_iff] at h
      rw [List.any_eq_false.2 (fun x hx => by have := h x hx; rw [this]; simp)]; rfl
    | some i =>
      rw [List.findIdx?_eq_some_iff_getElem] at h
      obtain ⟨h1, h2, _⟩ := h
      rw [List.any_eq_true.2 ⟨_, List.getElem_mem h1, h2⟩]
      show decide ((i : Int) ≥ 0) = true
      exact decide_eq_true (by omega)
theorem Len1_ok : Calc cx 117 [.int .u64 1] (.int .i64 1) :=
  pure_intro (fun a w => Tryz.call117 a w) Tryz.func117 rfl Tryz.ntmps117 rfl .int fun B => by
    refine pa [.b false, .b false, .b false] rfl ?_ ?_
    · (repeat' with_reducible apply AllP_cons) <;> try exact aC
      all_goals decide +kernel
    refine S_retc .int rfl trivial ?_
    rfl
theorem LenU_ok : Calc cx 77 [.int .u64 1] (.int .i64 1) :=
  pure_intro (fun a w => Tryz.call77 a w) Tryz.func77 rfl Tryz.ntmps77 rfl .int fun B => by
    refine pa [.b false, .v (.int .i64 1)] rfl ?_ ?_
    · (repeat' with_reducible apply AllP_cons) <;> try exact aC
      · exact ⟨_, Len1_ok, .cons (.refl .int) (.nil _)⟩
    exact S_retc .int rfl trivial rfl
theorem Ins1_ok (σ : Heap) (v : Nat) : CallOk cx 108 [.ms 2 v 0 1 3 false, .int .i64 0, .int .i64 1, .func (.func 50) [] []] σ (fun o s => o = .ret (.tup []) ∧ s = σ) :=
  callOk_intro (fun a w => Tryz.call108 a w) Tryz.func108 rfl Tryz.ntmps108 rfl fun B => by
    refine pas [] rfl ?_ ?_
    · (repeat' with_reducible apply AllP_cons) <;> try exact aC
    refine S_while (α := Unit) (fun _ => [(2, .int .i64 1), (8, .int .i64 1)]) (fun _ => σ) (fun _ => True) (fun _ => 0) () trivial (.cons rfl (.cons rfl (.nil _))) rfl ?_
    rintro ⟨⟩ _
    refine pas [.b false] rfl ?_ ?_
    · (repeat' with_reducible apply AllP_cons) <;> try exact aC
    exact S_nil ⟨_, _, rfl, trivial, rfl, rfl⟩
theorem Pdq1_ok (σ : Heap) (v : Nat) : CallOk cx 76 [.ms 2 v 0 1 3 false, .int .i64 0, .int .i64 1, .int .i64 1, .func (.func 50) [] []] σ (fun o s => o = .ret (.tup []) ∧ s = σ) :=
  callOk_intro (fun a w => Tryz.call76 a w) Tryz.func76 rfl Tryz.ntmps76 rfl fun B => by
    refine pas [] rfl ?_ ?_
    · (repeat' with_reducible apply AllP_cons) <;> try exact aC
    refine S_while (α := Unit) (fun _ => [(0, .ms 2 v 0 1 3 false), (1, .int .i64 0), (2, .int .i64 1), (4, .func (.func 50) [] [])]) (fun _ => σ) (fun _ => True) (fun _ => 0) () trivial (.cons rfl (.cons rfl (.cons rfl (.cons rfl (.nil _))))) rfl ?_
    rintro ⟨⟩ _
    refine pas [.b true, .k (.tup [])] rfl ?_ ?_
    · (repeat' with_reducible apply AllP_cons) <;> try exact aC
      · exact Ins1_ok σ v
    exact S_ret ⟨_, _, rfl, trivial, rfl, rfl⟩
theorem Sort1_ok (ks : List (List UInt8)) (tx : List UInt8 → List UInt8) (g : Nat) (f : Fil) : CallOk cx 49 [.ms 2 (g + 1) 0 1 3 false, .func (.func 50) [] []] (hpF ks tx g [f]) (fun o s => o = .ret (.tup []) ∧ s = hpF ks tx g [f]) :=
  callOk_intro (fun a w => Tryz.call49 a w) Tryz.func49 rfl Tryz.ntmps49 rfl fun B => by
    refine pa [.v (.int .i64 1), .k (.tup [])] rfl ?_ ?_
    · (repeat' with_reducible apply AllP_cons) <;> try exact aC
      · exact ⟨_, LenU_ok, .cons (.refl .int) (.nil _)⟩
      · exact Pdq1_ok _ _
    exact S_nil ⟨_, _, rfl, trivial, rfl, rfl⟩
end Go.Proofs.YtpehmhlgldbeoaaGreatDoor
end
section
set_option linter.unusedVariables false
set_option linter.unusedSimpArgs false
set_option maxRecDepth 20000
set_option maxHeartbeats 4000000
namespace Go.Proofs.YtpehmhlgldbeoaaGreatDoor
open Go Go.Ab
def ksB (l : List (List UInt8)) : List (List UInt8) := l.foldl (fun ks s => addU ks (sha s)) []
def txB (l : List (List UInt8)) (d : List UInt8) : List UInt8 := (l.reverse.find? (fun s => sha s == d)).getD []
def flatY (root : List UInt8) (blobs : List (List UInt8)) : List Fil × Nat := flatD (getM (ksB blobs) (txB blobs)) 102 root [] []
def flatT (S : List Fil → List Fil) (root : List UInt8) (blobs : List (List UInt8)) : List Fil × Nat :=
  if 2000 < blobs.length ∨ longT blobs = true then ([], 2) else if isDig root = true then (if (flatY root blobs).2 = 0 then (S (flatY root blobs).1, 0) else ([], (flatY root blobs).2)) else ([], 1)
def flatAV (y : List Fil × Nat) : AV := .tup [if y.2 = 0 then .sl true false 3 (fils y.1) else .nils, .int .i64 (y.2 : Nat)]
theorem flatAV_free (y : List Fil × Nat) : Free true (flatAV y) := .tup (by
  intro x hx; simp at hx
  rcases hx with rfl | rfl
  · split
    · exact .sl (fun _ => rfl) (fils_free _)
    · exact .nils
  · exact .int)
theorem ksB_mem {l : List (List UInt8)} {d : List UInt8} : d ∈ ksB l ↔ ∃ s ∈ l, sha s = d := by
  unfold ksB; rw [addU_fold_mem]; simp
theorem ksB_step {l : List (List UInt8)} {i : Nat} (h : i < l.length) : ksB (l.take (i + 1)) = addU (ksB (l.take i)) (sha l[i]) := by
  unfold ksB; rw [List.take_succ_eq_append_getElem h, List.foldl_append]; rfl
theorem txB_step {l : List (List UInt8)} {i : Nat} (h : i < l.length) (d : List UInt8) : txB (l.take (i + 1)) d = if d = sha l[i] then l[i] else txB (l.take i) d := by
  unfold txB
  rw [List.take_succ_eq_append_getElem h, List.reverse_append]
  show ((l[i] :: (l.take i).reverse).find? _).getD [] = _
  rw [List.find?_cons]
  by_cases e : d = sha l[i]
  · rw [if_pos e, show (sha l[i] == d) = true by simp [e]]; rfl
  · rw [if_neg e, show (sha l[i] == d) = false by simpa using Ne.symm e]
theorem txB_len {l : List (List UInt8)} (h : longT l = false) (d : List UInt8) : (txB l d).length ≤ 1000000 := by
  unfold txB
  cases hf : l.reverse.find? (fun s => sha s == d) with
  | none => exact Nat.zero_le _
  | some s =>
    have hm := List.mem_of_find?_eq_some hf
    unfold longT at h
    rw [List.any_eq_false] at h
    have := h s (by simpa using hm)
    simp at this
    show s.length ≤ _; omega
theorem mapB_step {l : List (List UInt8)} {i : Nat} (h : i < l.length) :
    mapBx (addK (ksB (l.take i)) (sha l[i])) (updF (fun d => .str (txB (l.take i) d)) (sha l[i]) (.str l[i])) = mapBx (ksB (l.take (i + 1))) fun d => .str (txB (l.take (i + 1)) d) := by
  unfold mapBx
  rw [ksB_step h]
  show some (Box.map (mapF (addU _ _) _) none) = some (Box.map (mapF (addU _ _) _) none)
  congr 2
  refine mapF_congr fun n _ => ?_
  unfold updF
  rw [txB_step h]
  split <;> rfl
theorem Flat_gen {st fl : Bool} (S : List Fil → List Fil) (root : List UInt8) (blobs : List (List UInt8)) (hr : root.length ≤ 9223372036854775807) (hbl : blobs.length ≤ 1000000000000) (hS0 : ∀ out, (S out).length = out.length)
    (hsort : (flatY root blobs).2 = 0 → CallOk cx 49 [.ms 2 (0 + (flatY root blobs).1.length) 0 (flatY root blobs).1.length 3 false, .func (.func 50) [] []] (hpF (ksB blobs) (txB blobs) 0 (flatY root blobs).1) (fun o s => o = .ret (.tup []) ∧ s = hpF (ksB blobs) (txB blobs) 0 (S (flatY root blobs).1))) :
    Calc cx 18 [.str root, .sl st fl 1 (texts blobs)] (flatAV (flatT S root blobs)) :=
  pure_intro (fun a w => Tryz.call18 a w) Tryz.func18 rfl Tryz.ntmps18 rfl (flatAV_free _) fun B => by
    have htl : (texts blobs).length = blobs.length := by simp [texts]
    have hI := ContainsFuncS_ok (st := st) (fl := fl) blobs hbl
    have hD := digestIs_ok root hr
    unfold flatT
    have rt : ∀ e : Nat, e ≠ 0 → flatAV ([], e) = .tup [.nils, .int .i64 (e : Nat)] := fun e he => by unfold flatAV; rw [if_neg he]
    have rf : ∀ e : Int, Free true (.tup [.nils, .int .i64 e]) := fun e => .tup (by intro x hx; simp at hx; rcases hx with rfl | rfl; exact .nils; exact .int)
    by_cases hmany : 2000 < blobs.length
    · rw [if_pos (.inl hmany), rt 2 (by decide)]
      have e1 : decide ((((texts blobs).length : Nat) : Int) > 2000) = true := decide_eq_true (by omega)
      refine pB [.b true, .b true] rfl ?_
      exact S_retc (rf _) rfl trivial rfl
    have e1 : decide ((((texts blobs).length : Nat) : Int) > 2000) = false := decide_eq_false (by omega)
    cases hlg : longT blobs with
    | true =>
      rw [hlg] at hI
      rw [if_pos (.inr rfl), rt 2 (by decide)]
      refine pa [.b false, .v (.bool true), .b true] rfl ?_ ?_
      · (repeat' with_reducible apply AllP_cons) <;> try exact aC
        · exact ⟨_, hI, .cons (.refl (.sl (fun h => by cases h) (texts_any _))) (.cons (.refl (.func (fun x h => by cases h) (fun x h => by cases h))) (.nil _))⟩
      exact S_retc (rf _) rfl trivial rfl
    | false =>
      rw [hlg] at hI
      rw [if_neg (by simp; omega)]
      cases hdg : isDig root with
      | false =>
        rw [hdg] at hD
        rw [if_neg (by simp), rt 1 (by decide)]
        refine pa [.b false, .v (.bool false), .b false, .v (.bool false), .b true] rfl ?_ ?_
        · (repeat' with_reducible apply AllP_cons) <;> try exact aC
          · exact ⟨_, hI, .cons (.refl (.sl (fun h => by cases h) (texts_any _))) (.cons (.refl (.func (fun x h => by cases h) (fun x h => by cases h))) (.nil _))⟩
          · exact ⟨_, hD, .cons (.refl .str) (.nil _)⟩
        exact S_retc (rf _) rfl trivial rfl
      | true =>
        rw [hdg] at hD
        rw [if_pos rfl]
        refine pa [.b false, .v (.bool false), .b false, .v (.bool true), .b false, .f (.map 0 0) (fun _ => [(0, some (.map [] (some ([], 0))))])] rfl ?_ ?_
        · (repeat' with_reducible apply AllP_cons) <;> try exact aC
          · exact ⟨_, hI, .cons (.refl (.sl (fun h => by cases h) (texts_any _))) (.cons (.refl (.func (fun x h => by cases h) (fun x h => by cases h))) (.nil _))⟩
          · exact ⟨_, hD, .cons (.refl .str) (.nil _)⟩
          · exact OpSpec.mapN (C := []) rfl trivial
        refine S_unstamp (id := 0) rfl ?_ ⟨_, _, .inl rfl⟩
        refine S_ghost 3 ⟨false, none⟩ (id := 1) (j := 1) rfl rfl rfl (show (1 : Nat) ≠ 2 by decide) ⟨_, _, .inl rfl⟩ ?_
        refine S_while (α := Nat) (fun i => [(0, .str root), (6, .ptr 1 0 0), (23, .sl st fl 1 (texts blobs)), (24, .int .i64 (((texts blobs).length : Nat) : Int)), (25, .int .i64 (i : Nat))]) (fun i => hpT (ksB (blobs.take i)) (txB (blobs.take i)) 0 [] []) (fun i => i ≤ blobs.length) (fun i => blobs.length - i) 0
          (Nat.zero_le _) (.cons rfl (.cons rfl (.cons rfl (.cons rfl (.cons rfl (.nil _)))))) rfl ?_
        intro i hi
        have hi : i ≤ blobs.length := hi
        by_cases hlt : i < blobs.length
        · have e2 : decide ((i : Int) < (((texts blobs).length : Nat) : Int)) = true := decide_eq_true (by omega)
          have g1 : (texts blobs)[(i : Int).toNat]? = some (.str blobs[i]) := by rw [Int.toNat_natCast]; simp [texts, List.getElem?_eq_getElem hlt]
          have hbz : blobs[i].length ≤ 100000 := by
            unfold longT at hlg
            rw [List.any_eq_false] at hlg
            have := hlg _ (List.getElem_mem hlt)
            simpa using this
          have hS := Sum_ok blobs[i] (by omega)
          refine pa [.b true, .v (.str blobs[i]), .v (.str (sha blobs[i])), .f (.tup []) (fun σ => (0, mapBx (addK (ksB (blobs.take i)) (sha blobs[i])) (updF (fun d => .str (txB (blobs.take i) d)) (sha blobs[i]) (.str blobs[i]))) :: σ.tail), .s] rfl ?_ ?_
          · (repeat' with_reducible apply AllP_cons) <;> try exact aC
            · exact ⟨_, hS, .cons (.refl .str) (.nil _)⟩
            · exact OpSpec.mput (kt := 9) (et := 9) (ks := ksB (blobs.take i)) (val := fun d => .str (txB (blobs.take i) d)) (s := sha blobs[i]) rfl (Tryz.underlying59) rfl rfl rfl rfl rfl (addU_fold_nodup sha _ [] .nil) rfl
          refine S_heap (hpT (ksB (blobs.take (i + 1))) (txB (blobs.take (i + 1))) 0 [] []) ?_ ?_
          · rw [mapB_step hlt]; rfl
          refine pB [] rfl ?_
          exact S_round (i + 1) (by show blobs.length - (i + 1) < blobs.length - i; omega) hlt (.cons rfl (.cons rfl (.cons rfl (.cons rfl (.cons (nX (by omega)) (.nil _)))))) rfl
        · have hil : i = blobs.length := by omega
          subst hil
          have e2 : decide ((blobs.length : Int) < (((texts blobs).length : Nat) : Int)) = false := decide_eq_false (by omega)
          rw [List.take_length]
          have hdir := dir_ok (ksB blobs) (txB blobs) (fun d _ => txB_len hlg d) 0 102 root [] [] (by decide) (by decide) (by decide)
          have hfl := flatD_len (getM (ksB blobs) (txB blobs)) 102 root [] [] (by decide)
          change CallOk _ _ _ _ (fun o s => o = .ret (.int .i64 ((flatY root blobs).2 : Nat)) ∧ s = hpF (ksB blobs) (txB blobs) 0 (flatY root blobs).1) at hdir
          change (flatY root blobs).1.length ≤ 60 ∧ _ at hfl
          generalize flatY root blobs = y at *
          obtain ⟨out, e⟩ := y
          by_cases he : e = 0
          · subst he
            rw [if_pos rfl]
            have hso := hsort rfl
            have hSl := hS0 out
            have hcl := cels_len (S out)
            simp only at hso hdir hfl
            refine pB [.b false, .f (.int .i64 ((0 : Nat) : Int)) (fun _ => hpT (ksB blobs) (txB blobs) 0 out []), .b false, .f (.tup []) (fun _ => hpT (ksB blobs) (txB blobs) 0 (S out) [])] rfl ?_
            refine S_ret ⟨_, _, rfl, trivial, _, rfl, ?_⟩
            show Frz true _ (.tup [.ms 2 (0 + (S out).length) 0 (S out).length 3 false, .int .i64 0]) (.tup [.sl true false 3 (fils (S out)), .int .i64 0])
            exact Fzs.tup (.cons (.ms rfl (by show 0 + (S out).length * 3 ≤ (celsF (S out)).length; omega) (by rw [List.drop_zero]; exact List.take_of_length_le (by omega)) (fil_size _) (fils_len _) (fils_free _)) (.cons (.refl .int) .nil))
          · rw [if_neg he, rt e he]
            refine pa [.b false, .f (.int .i64 (e : Nat)) (fun _ => hpT (ksB blobs) (txB blobs) 0 out []), .b true] rfl ?_ ?_
            · (repeat' with_reducible apply AllP_cons) <;> try exact aC
              · show ((((e : Int)) != 0) = true)
                rw [chk_bne]; simpa using he
            exact S_retc (rf _) rfl trivial rfl
end Go.Proofs.YtpehmhlgldbeoaaGreatDoor
end
section
set_option linter.unusedVariables false
set_option linter.unusedSimpArgs false
set_option maxRecDepth 20000
set_option maxHeartbeats 4000000
namespace Go.Proofs.YtpehmhlgldbeoaaGreatDoor
open Go Go.Ab
def h1T : List UInt8 := [50, 100, 55, 49, 49, 54, 52, 50, 98, 55, 50, 54, 98, 48, 52, 52, 48, 49, 54, 50, 55, 99, 97, 57, 102, 98, 97, 99, 51, 50, 102, 53, 99, 56, 53, 51, 48, 102, 98, 49, 57, 48, 51, 99, 99, 52, 100, 98, 48, 50, 50, 53, 56, 55, 49, 55, 57, 50, 49, 97, 52, 56, 56, 49]
def t1T : List UInt8 := [1, 1, 98, 1, 64, 50, 100, 55, 49, 49, 54, 52, 50, 98, 55, 50, 54, 98, 48, 52, 52, 48, 49, 54, 50, 55, 99, 97, 57, 102, 98, 97, 99, 51, 50, 102, 53, 99, 56, 53, 51, 48, 102, 98, 49, 57, 48, 51, 99, 99, 52, 100, 98, 48, 50, 50, 53, 56, 55, 49, 55, 57, 50, 49, 97, 52, 56, 56, 49]
def h2T : List UInt8 := [100, 56, 98, 99, 99, 98, 53, 99, 97, 99, 48, 101, 52, 50, 49, 101, 97, 52, 101, 49, 55, 99, 50, 49, 50, 49, 102, 51, 56, 55, 52, 51, 48, 57, 102, 98, 51, 101, 51, 100, 48, 50, 48, 53, 52, 97, 48, 54, 48, 101, 102, 50, 101, 48, 48, 49, 99, 56, 53, 97, 53, 99, 48, 99]
def t2T : List UInt8 := [1, 1, 97, 3, 64, 100, 56, 98, 99, 99, 98, 53, 99, 97, 99, 48, 101, 52, 50, 49, 101, 97, 52, 101, 49, 55, 99, 50, 49, 50, 49, 102, 51, 56, 55, 52, 51, 48, 57, 102, 98, 51, 101, 51, 100, 48, 50, 48, 53, 52, 97, 48, 54, 48, 101, 102, 50, 101, 48, 48, 49, 99, 56, 53, 97, 53, 99, 48, 99]
def h3T : List UInt8 := [48, 54, 55, 52, 52, 101, 54, 57, 101, 102, 98, 53, 56, 53, 102, 48, 50, 54, 48, 51, 98, 101, 52, 48, 57, 102, 56, 98, 101, 55, 51, 100, 50, 54, 51, 53, 50, 55, 56, 51, 50, 102, 55, 52, 54, 55, 50, 97, 51, 55, 57, 98, 53, 101, 52, 101, 55, 101, 102, 49, 50, 50, 99, 98]
def l0T : List Fil := [⟨[97, 47, 98], [120], false⟩]
theorem sha1T : sha [120] = h1T := by decide +kernel
theorem sha2T : sha t1T = h2T := by decide +kernel
theorem sha3T : sha t2T = h3T := by decide +kernel
theorem pk1T : packNs [⟨[98], 1, h1T⟩] = t1T := by decide +kernel
theorem pk2T : packNs [⟨[97], 3, h2T⟩] = t2T := by decide +kernel
theorem rd1T : readNd t1T = ([⟨[98], 1, h1T⟩], 0) := by kernel_rfl
theorem rd2T : readNd t2T = ([⟨[97], 3, h2T⟩], 0) := by kernel_rfl
theorem chk0T : chkT l0T = 0 := by decide +kernel
theorem sort_one (n : List UInt8) : sortT [n] = [n] := by unfold sortT; rw [List.mergeSort_singleton]
theorem dir0T : dirT 101 l0T = (t2T, [[120], t1T]) := by
  have a1 : nmsT l0T = [[97]] := by decide +kernel
  have a2 : grT l0T [97] = [⟨[98], [120], false⟩] := by decide +kernel
  have a3 : nmsT [⟨[98], [120], false⟩] = [[98]] := by decide +kernel
  have a4 : grT [⟨[98], [120], false⟩] [98] = [⟨[], [120], false⟩] := by decide +kernel
  have e1 : dirT 100 [⟨[98], [120], false⟩] = (t1T, [[120]]) := by
    rw [dirT, a3, sort_one]
    unfold nodsT blbsT
    simp only [List.map_cons, List.map_nil, List.flatMap_cons, List.flatMap_nil, List.append_nil, a4, entT, if_pos, sha1T]
    exact Prod.ext pk1T rfl
  rw [dirT, a1, sort_one]
  unfold nodsT blbsT
  simp only [List.map_cons, List.map_nil, List.flatMap_cons, List.flatMap_nil, List.append_nil, a2, entT, e1]
  rw [if_neg (by decide), sha2T]
  exact Prod.ext pk2T rfl
theorem root0T : rootT l0T = h3T := by unfold rootT; rw [dir0T]; exact sha3T
theorem blob0T : blobT l0T = [t2T, t1T, [120]] := by
  unfold blobT
  rw [dir0T]
  have : addU ([[120], t1T].foldl addU []) t2T = [[120], t1T, t2T] := by decide +kernel
  show sortT (addU ([[120], t1T].foldl addU []) t2T) = _
  rw [this]
  refine perm_sorted ((sortT_perm _).trans ?_) (sortT_pw _) ?_
  · exact (List.reverse_perm [[120], t1T, t2T]).symm
  · decide +kernel
theorem ks0T : ksB [t2T, t1T, [120]] = [h3T, h2T, h1T] := by
  unfold ksB
  simp only [List.foldl_cons, List.foldl_nil, sha1T, sha2T, sha3T]
  decide +kernel
theorem tx3T : txB [t2T, t1T, [120]] h3T = t2T := by
  have b1 : (h1T == h3T) = false := by decide +kernel
  have b2 : (h2T == h3T) = false := by decide +kernel
  have b3 : (h3T == h3T) = true := by decide +kernel
  unfold txB
  simp only [List.reverse_cons, List.reverse_nil, List.nil_append, List.cons_append, List.find?_cons, sha1T, sha2T, sha3T, b1, b2, b3]
  rfl
theorem tx2T : txB [t2T, t1T, [120]] h2T = t1T := by
  have b1 : (h1T == h2T) = false := by decide +kernel
  have b2 : (h2T == h2T) = true := by decide +kernel
  unfold txB
  simp only [List.reverse_cons, List.reverse_nil, List.nil_append, List.cons_append, List.find?_cons, sha1T, sha2T, sha3T, b1, b2]
  rfl
theorem tx1T : txB [t2T, t1T, [120]] h1T = [120] := by
  have b1 : (h1T == h1T) = true := by decide +kernel
  unfold txB
  simp only [List.reverse_cons, List.reverse_nil, List.nil_append, List.cons_append, List.find?_cons, sha1T, b1]
  rfl
theorem flat0T : flatY h3T [t2T, t1T, [120]] = (l0T, 0) := by
  have g3 : getM (ksB [t2T, t1T, [120]]) (txB [t2T, t1T, [120]]) h3T = some t2T := by unfold getM; rw [ks0T, if_pos (by simp), tx3T]
  have g2 : getM (ksB [t2T, t1T, [120]]) (txB [t2T, t1T, [120]]) h2T = some t1T := by unfold getM; rw [ks0T, if_pos (by simp), tx2T]
  have g1 : getM (ksB [t2T, t1T, [120]]) (txB [t2T, t1T, [120]]) h1T = some [120] := by unfold getM; rw [ks0T, if_pos (by simp), tx1T]
  unfold flatY
  generalize getM (ksB [t2T, t1T, [120]]) (txB [t2T, t1T, [120]]) = get at *
  have e1 : flatD get 101 h2T [97, 47] [] = (l0T, 0) := by
    rw [flatD, g2]
    simp only [rd1T]
    rw [if_neg (by decide), if_neg (by simp), flatN]
    rw [if_neg (by decide), if_neg (by decide)]
    simp only [g1]
    rw [if_neg (by decide), flatN]; rfl
  rw [flatD, g3]
  simp only [rd2T]
  rw [if_neg (by decide), if_neg (by simp), flatN]
  rw [if_neg (by decide), if_pos rfl]
  show (if (flatD get 101 h2T [97, 47] []).2 = 0 then _ else _) = _
  rw [e1, if_pos rfl, flatN]
  show ((flatD get 101 h2T [97, 47] []).1, 0) = _
  rw [e1]
theorem treeBegun_ok : Calc cx 15 [] (.bool true) :=
  pure_intro (fun a w => Tryz.call15 a w) Tryz.func15 rfl Tryz.ntmps15 rfl .bool fun B => by
    have hl0 : FilsOk l0T := ⟨by decide, by intro f hf; simp [l0T] at hf; subst hf; decide, by intro f hf; simp [l0T] at hf; subst hf; decide⟩
    have hB := Blobs_ok (st := true) (fl := true) l0T hl0
    have hR := Root_ok (st := true) (fl := true) l0T hl0
    have hF := Flat_gen (st := true) (fl := false) id h3T [t2T, t1T, [120]] (by decide) (by decide) (fun _ => rfl) (fun _ => by
      rw [flat0T]
      exact Sort1_ok (ksB [t2T, t1T, [120]]) (txB [t2T, t1T, [120]]) 0 ⟨[97, 47, 98], [120], false⟩)
    have hS := SameFiles_ok (st := true) (st' := true) (fl := true) (fl' := false) l0T l0T (by decide) (by decide)
    rw [decide_eq_true rfl] at hS
    unfold blobAV at hB
    unfold rootAV at hR
    rw [chk0T, if_pos rfl, blob0T] at hB
    rw [chk0T, if_pos rfl, root0T] at hR
    have hft : flatT id h3T [t2T, t1T, [120]] = (l0T, 0) := by
      unfold flatT
      rw [if_neg (by decide +kernel), if_pos (by decide +kernel), flat0T, if_pos rfl]; rfl
    rw [hft] at hF
    refine pa [.v (.tup [.sl true false 1 (texts [t2T, t1T, [120]]), .int .i64 ((0 : Nat) : Int)]), .v (.tup [.str h3T, .int .i64 ((0 : Nat) : Int)]), .v (.tup [.sl true false 3 (fils l0T), .int .i64 ((0 : Nat) : Int)]), .b true, .b true, .b true, .v (.bool true)] rfl ?_ ?_
    · (repeat' with_reducible apply AllP_cons) <;> try exact aC
      · exact ⟨_, hB, .cons (.refl (.sl (fun _ => rfl) (fils_free l0T))) (.nil _)⟩
      · exact ⟨_, hR, .cons (.refl (.sl (fun _ => rfl) (fils_free l0T))) (.nil _)⟩
      · exact ⟨_, hF, .cons (.refl .str) (.cons (.refl (.sl (fun _ => rfl) (texts_any _))) (.nil _))⟩
      · exact ⟨_, hS, .cons (.refl (.sl (fun _ => rfl) (fils_free l0T))) (.cons (.refl (.sl (fun _ => rfl) (fils_free l0T))) (.nil _))⟩
    exact S_retc .bool rfl trivial rfl
end Go.Proofs.YtpehmhlgldbeoaaGreatDoor
end
section
set_option linter.unusedVariables false
set_option linter.unusedSimpArgs false
namespace Go.Ab
open Go Go.WideShapes
inductive RdD (P : Program) {H : Type} : TypeId → DataW H → AV → Prop
  | bool {t b} (ht : P.underlying t = some .bool) : RdD P t (.lit (.bool b)) (.bool b)
  | int {t k n} (ht : P.underlying t = some (.int k)) (hw : (Lit.int k n).wf = true) : RdD P t (.lit (.int k n)) (.int k n)
  | str {t s} (ht : P.underlying t = some .string) (hs : s.length ≤ maxLen) : RdD P t (.lit (.string s)) (.str s)
  | nils {t e} (ht : P.underlying t = some (.slice e)) : RdD P t .nil (.sl true false (P.cellsOf e) [])
  | sl {t e} {ds rest : List (DataW H)} {xs : List AV} (ht : P.underlying t = some (.slice e)) (hl : xs.length = ds.length) (hm : xs.length ≤ maxLen) (h : ∀ i (h1 : i < ds.length) (h2 : i < xs.length), RdD P e ds[i] xs[i]) : RdD P t (.slice ds rest) (.sl true false (P.cellsOf e) xs)
  | st {t} {fs : Array Field} {ds : List (DataW H)} {xs : List AV} (ht : P.underlying t = some (.struct fs)) (hd : ds.length = fs.size) (hx : xs.length = fs.size) (h : ∀ i (h1 : i < ds.length) (h2 : i < xs.length) (h3 : i < fs.size), RdD P fs[i].type ds[i] xs[i]) : RdD P t (.agg ds) (.agg (xs.flatMap AV.cells))
def CellsV (w : World) (cs : List Value) (az : List AV) : Prop := cs.length = az.length ∧ ∀ i (h1 : i < cs.length) (h2 : i < az.length), VRel (Rl.old w) w cs[i] az[i]
theorem CellsV.one {w : World} {v : Value} {a : AV} (h : VRel (Rl.old w) w v a) : CellsV w [v] [a] := by
  refine ⟨rfl, fun i h1 h2 => ?_⟩
  obtain rfl : i = 0 := by simpa using h1
  exact h
def RdDAll (P : Program) {H : Type} : List Field → List (DataW H) → List AV → Prop
  | [], [], [] => True
  | f :: fs, d :: ds, x :: xs => RdD P f.type d x ∧ RdDAll P fs ds xs
  | _, _, _ => False
theorem RdDAll.of {P : Program} {H : Type} : ∀ {fs : List Field} {ds : List (DataW H)} {xs : List AV}, ds.length = fs.length → xs.length = fs.length → (∀ i (h1 : i < ds.length) (h2 : i < xs.length) (h3 : i < fs.length), RdD P fs[i].type ds[i] xs[i]) → RdDAll P fs ds xs
  | [], ds, xs, h1, h2, _ => by
    obtain rfl : ds = [] := List.eq_nil_of_length_eq_zero h1
    obtain rfl : xs = [] := List.eq_nil_of_length_eq_zero h2
    trivial
  | f :: fs, ds, xs, h1, h2, h => by
    cases ds with
    | nil => simp at h1
    | cons d ds =>
      cases xs with
      | nil => simp at h2
      | cons x xs =>
        exact ⟨h 0 (by simp) (by simp) (by simp), RdDAll.of (by simpa using h1) (by simpa using h2) (fun i k1 k2 k3 => h (i + 1) (Nat.succ_lt_succ k1) (Nat.succ_lt_succ k2) (Nat.succ_lt_succ k3))⟩
theorem RdDAll.cons {P : Program} {H : Type} {f : Field} {fs : List Field} {ds : List (DataW H)} {xs : List AV} (h : RdDAll P (f :: fs) ds xs) : ∃ d ds' x xs', ds = d :: ds' ∧ xs = x :: xs' ∧ RdD P f.type d x ∧ RdDAll P fs ds' xs' := by
  match ds, xs, h with
  | d :: ds', x :: xs', ⟨h1, h2⟩ => exact ⟨d, ds', x, xs', rfl, rfl, h1, h2⟩
theorem RdDAll.nil {P : Program} {H : Type} {ds : List (DataW H)} {xs : List AV} (h : RdDAll P [] ds xs) : ds = [] ∧ xs = [] := by
  match ds, xs, h with
  | [], [], _ => exact ⟨rfl, rfl⟩
section
variable {P : Program} {H : Type} {t : TypeId} {d : DataW H} {a : AV}
end
end Go.Ab
end
section
set_option linter.unusedVariables false
set_option linter.unusedSimpArgs false
set_option maxRecDepth 20000
set_option maxHeartbeats 4000000
namespace Go.Proofs.YtpehmhlgldbeoaaGreatDoor
open Go Go.Ab
theorem filesAre_ok {st fl st' fl' : Bool} (a b : List Fil) (e : Nat) (ha : a.length ≤ 1000000000) (hb : b.length ≤ 1000000000) (h0 : e = 0 → a = b) (h1 : e ≠ 0 → a = []) : Calc cx 23 [.sl st fl 3 (fils a), .int .i64 (e : Nat), .int .i64 (e : Nat), .sl st' fl' 3 (fils b)] (.bool true) :=
  pure_intro (fun a w => Tryz.call23 a w) Tryz.func23 rfl Tryz.ntmps23 rfl .bool fun B => by
    by_cases he : e = 0
    · obtain rfl := h0 he
      subst he
      have hS := SameFiles_ok (st := st) (fl := fl) (st' := st') (fl' := fl') a a ha ha
      rw [decide_eq_true rfl] at hS
      refine pa [.b false, .b true, .v (.bool true)] rfl ?_ ?_
      · (repeat' with_reducible apply AllP_cons) <;> try exact aC
        · exact ⟨_, hS, .cons (.refl (.sl (fun h => by cases h) (fils_free a))) (.cons (.refl (.sl (fun h => by cases h) (fils_free a))) (.nil _))⟩
      exact S_retc .bool rfl trivial rfl
    · obtain rfl := h1 he
      have hS := SameFiles_ok (st := st) (fl := fl) (st' := false) (fl' := false) [] [] (by decide) (by decide)
      rw [decide_eq_true rfl] at hS
      refine pa [.b true, .b true, .v (.bool true)] rfl ?_ ?_
      · (repeat' with_reducible apply AllP_cons) <;> try exact aC
        · show ((((e : Int)) != 0) = true)
          rw [chk_bne]; simpa using he
        · exact ⟨_, hS, .cons (.refl (.sl (fun h => by cases h) (fils_free []))) (.cons .nils (.nil _))⟩
      exact S_retc .bool rfl trivial rfl
def flatSV (y : List Fil × Nat) : AV := .tup [.sl true false 3 (fils (if y.2 = 0 then y.1 else [])), .int .i64 (y.2 : Nat)]
theorem flatS {f : FuncId} {args : List AV} {y : List Fil × Nat} (h : Calc cx f args (flatAV y)) : Calc cx f args (flatSV y) :=
  h.weak (.tup (by intro x hx; simp at hx; rcases hx with rfl | rfl; exact .sl (fun _ => rfl) (fils_free _); exact .int)) fun r w v hv => by
    unfold flatAV at hv
    unfold flatSV
    by_cases he : y.2 = 0
    · rw [if_pos he] at hv ⊢; exact hv
    · rw [if_neg he] at hv ⊢
      cases hv with
      | tup hn hall =>
        refine .tup hn fun i hi => ?_
        match i, hi with
        | 0, hi =>
          have h0 := hall 0 (by simp)
          have h0 : VRel r w _ .nils := h0
          show VRel r w _ (.sl true false 3 [])
          generalize Array.getD _ 0 undef = z at h0 ⊢
          cases h0
          exact .sl0 (fun h => by cases h)
        | 1, hi => exact hall 1 (by simp)
        | k + 2, hi => exact absurd hi (by simp)
end Go.Proofs.YtpehmhlgldbeoaaGreatDoor
end
section
set_option linter.unusedVariables false
set_option linter.unusedSimpArgs false
set_option maxRecDepth 20000
namespace Go.Proofs.YtpehmhlgldbeoaaGreatDoor
open Go Go.Ab Go.Shelf Go.RowKit Go.Lib Go.Sort
def lay_sortf_ren : Go.Shelf.Ren := ⟨fun | 6 => 49 | 15 => 77 | 14 => 76 | 28 => 116 | 29 => 117 | 20 => 108 | 21 => 109 | 22 => 110 | 23 => 111 | 24 => 112 | 25 => 113 | 26 => 114 | 27 => 115 | 46 => 143 | 47 => 144 | 48 => 145 | 49 => 146 | 50 => 147 | 57 => 170 | n => n, fun | 22 => 22 | 24 => 48 | 25 => 66 | 3 => 3 | 39 => 96 | 0 => 0 | 53 => 128 | 55 => 126 | 4 => 4 | 46 => 140 | 45 => 139 | 50 => 144 | 5 => 5 | 9 => 9 | 66 => 176 | 70 => 180 | 76 => 199 | 77 => 200 | n => n, fun | n => n⟩
theorem lay_sortf : Go.Proofs.SlLaysF0.n6 Tryz.prog lay_sortf_ren := {
  mixed := by kernel_rfl
  f6 := ⟨Tryz.f49.name, by decide, Tryz.func49.trans (congrArg some (by kernel_rfl))⟩
  f14 := ⟨Tryz.f76.name, by decide, Tryz.func76.trans (congrArg some (by kernel_rfl))⟩
  f15 := Tryz.func77.trans (congrArg some (by kernel_rfl))
  f20 := ⟨Tryz.f108.name, by decide, Tryz.func108.trans (congrArg some (by kernel_rfl))⟩
  f21 := ⟨Tryz.f109.name, by decide, Tryz.func109.trans (congrArg some (by kernel_rfl))⟩
  f22 := ⟨Tryz.f110.name, by decide, Tryz.func110.trans (congrArg some (by kernel_rfl))⟩
  f23 := ⟨Tryz.f111.name, by decide, Tryz.func111.trans (congrArg some (by kernel_rfl))⟩
  f24 := ⟨Tryz.f112.name, by decide, Tryz.func112.trans (congrArg some (by kernel_rfl))⟩
  f25 := ⟨Tryz.f113.name, by decide, Tryz.func113.trans (congrArg some (by kernel_rfl))⟩
  f26 := ⟨Tryz.f114.name, by decide, Tryz.func114.trans (congrArg some (by kernel_rfl))⟩
  f27 := ⟨Tryz.f115.name, by decide, Tryz.func115.trans (congrArg some (by kernel_rfl))⟩
  f28 := Tryz.func116.trans (congrArg some (by kernel_rfl))
  f29 := Tryz.func117.trans (congrArg some (by kernel_rfl))
  f46 := ⟨Tryz.f143.name, by decide, Tryz.func143.trans (congrArg some (by kernel_rfl))⟩
  f47 := Tryz.func144.trans (congrArg some (by kernel_rfl))
  f48 := Tryz.func145.trans (congrArg some (by kernel_rfl))
  f49 := ⟨Tryz.f146.name, by decide, Tryz.func146.trans (congrArg some (by kernel_rfl))⟩
  f50 := ⟨Tryz.f147.name, by decide, Tryz.func147.trans (congrArg some (by kernel_rfl))⟩
  f57 := ⟨Tryz.f170.name, by decide, Tryz.func170.trans (congrArg some (by kernel_rfl))⟩
  t0 := Tryz.underlying0
  a0 := Tryz.isAgg0
  z0 := Tryz.sizeOf0
  v0 := Tryz.zeroValue0
  t3 := Tryz.underlying3
  a3 := Tryz.isAgg3
  z3 := Tryz.sizeOf3
  v3 := Tryz.zeroValue3
  t4 := Tryz.underlying4
  a4 := Tryz.isAgg4
  z4 := Tryz.sizeOf4
  v4 := Tryz.zeroValue4
  t5 := Tryz.underlying5
  a5 := Tryz.isAgg5
  z5 := Tryz.sizeOf5
  v5 := Tryz.zeroValue5
  t9 := Tryz.underlying9
  a9 := Tryz.isAgg9
  z9 := Tryz.sizeOf9
  v9 := Tryz.zeroValue9
  t22 := Tryz.underlying22
  a22 := Tryz.isAgg22
  z22 := Tryz.sizeOf22
  v22 := Tryz.zeroValue22
  t25 := Tryz.underlying66
  a25 := Tryz.isAgg66
  z25 := Tryz.sizeOf66
  v25 := Tryz.zeroValue66
  t39 := Tryz.underlying96
  a39 := Tryz.isAgg96
  z39 := Tryz.sizeOf96
  v39 := Tryz.zeroValue96
  t45 := Tryz.underlying139
  a45 := Tryz.isAgg139
  z45 := Tryz.sizeOf139
  v45 := Tryz.zeroValue139
  t46 := Tryz.underlying140
  a46 := Tryz.isAgg140
  z46 := Tryz.sizeOf140
  v46 := Tryz.zeroValue140
  t50 := Tryz.underlying144
  a50 := Tryz.isAgg144
  z50 := Tryz.sizeOf144
  v50 := Tryz.zeroValue144
  t53 := Tryz.underlying128
  a53 := Tryz.isAgg128
  z53 := Tryz.sizeOf128
  v53 := Tryz.zeroValue128
  t55 := Tryz.underlying126
  a55 := Tryz.isAgg126
  z55 := Tryz.sizeOf126
  v55 := Tryz.zeroValue126
  t66 := Tryz.underlying176
  a66 := Tryz.isAgg176
  z66 := Tryz.sizeOf176
  v66 := Tryz.zeroValue176
  t70 := Tryz.underlying180
  a70 := Tryz.isAgg180
  z70 := Tryz.sizeOf180
  v70 := Tryz.zeroValue180
  t76 := Tryz.underlying199
  a76 := Tryz.isAgg199
  z76 := Tryz.sizeOf199
  v76 := Tryz.zeroValue199
  t77 := Tryz.underlying200
  a77 := Tryz.isAgg200
  z77 := Tryz.sizeOf200
  v77 := Tryz.zeroValue200 }
end Go.Proofs.YtpehmhlgldbeoaaGreatDoor
end
section
set_option linter.unusedVariables false
set_option linter.unusedSimpArgs false
set_option maxRecDepth 20000
set_option maxHeartbeats 4000000
namespace Go.Proofs.YtpehmhlgldbeoaaGreatDoor
open Go Go.Ab
theorem celsF_app (a b : List Fil) : celsF (a ++ b) = celsF a ++ celsF b := by
  unfold celsF fils; rw [List.map_append, List.flatMap_append]
theorem cels_at : ∀ {l : List Fil} {i : Nat} (h : i < l.length), ∃ r, (celsF l).drop (i * 3) = .str l[i].path :: .str l[i].text :: .bool l[i].run :: r
  | f :: l, 0, h => ⟨celsF l, rfl⟩
  | f :: l, i + 1, h => by
    obtain ⟨r, hr⟩ := cels_at (l := l) (i := i) (by simpa using h)
    refine ⟨r, ?_⟩
    have e : celsF (f :: l) = [.str f.path, .str f.text, .bool f.run] ++ celsF l := rfl
    have e2 : (i + 1) * 3 = ([.str f.path, .str f.text, .bool f.run] : List AV).length + i * 3 := by simp; omega
    rw [e, e2, List.drop_append, Nat.add_sub_cancel_left, hr, List.drop_eq_nil_of_le (by omega)]
    rfl
end Go.Proofs.YtpehmhlgldbeoaaGreatDoor
end
section
set_option linter.unusedVariables false
set_option linter.unusedSimpArgs false
set_option maxRecDepth 20000
set_option maxHeartbeats 4000000
namespace Go.Proofs.YtpehmhlgldbeoaaGreatDoor
open Go Go.Ab
def lessN (s : List UInt8) : List (List UInt8) → Nat
  | [] => 0
  | x :: r => if Op.bytesLess x s = true then lessN s r + 1 else 0
theorem lessN_le (s : List UInt8) : ∀ l : List (List UInt8), lessN s l ≤ l.length
  | [] => Nat.le_refl _
  | x :: r => by
    rw [lessN]
    split
    · have := lessN_le s r; rw [List.length_cons]; omega
    · exact Nat.zero_le _
theorem lessN_lt {s : List UInt8} : ∀ {l : List (List UInt8)} {i : Nat} (hi : i < l.length), i < lessN s l → Op.bytesLess l[i] s = true
  | x :: r, i, hi, h => by
    rw [lessN] at h
    split at h
    · rename_i hx
      cases i with
      | zero => exact hx
      | succ i => exact lessN_lt (l := r) (by simpa using hi) (by omega)
    · omega
theorem lessN_at {s : List UInt8} : ∀ {l : List (List UInt8)} (h : lessN s l < l.length), Op.bytesLess l[lessN s l] s = false
  | x :: r, h => by
    by_cases hx : Op.bytesLess x s = true
    · have e : lessN s (x :: r) = lessN s r + 1 := by rw [lessN, if_pos hx]
      have h' : lessN s r < r.length := by rw [e, List.length_cons] at h; omega
      have := lessN_at h'
      simp only [e, List.getElem_cons_succ]
      exact this
    · have e : lessN s (x :: r) = 0 := by rw [lessN, if_neg hx]
      simp only [e, List.getElem_cons_zero]
      simpa using hx
theorem txl (x : List (List UInt8)) : (texts x).length = x.length := List.length_map ..
end Go.Proofs.YtpehmhlgldbeoaaGreatDoor
end
section
set_option linter.unusedVariables false
set_option linter.unusedSimpArgs false
namespace Go.Ab
open Go
structure KeyLaw {α : Type} [DecidableEq α] (cx : Cx) (kt : TypeId) (key : α → AV) : Prop where
  check : ∀ (e : Bool) (r : Rl) (w : World) (v : Value) (a : α), VRel r w v (key a) → (Instr.checkKey e 10000 kt v).run cx.P w = .ok () w
  equal : ∀ (r : Rl) (w : World) (u v : Value) (a b : α), VRel r w u (key a) → VRel r w v (key b) → (Op.equal kt u v).run cx.P w = .ok (decide (a = b)) w
  bits : ∀ (r : Rl) (w : World) (u v : Value) (a : α), VRel r w u (key a) → VRel r w v (key a) → Instr.sameBits 10000 u v = true
  slow : ∃ d, cx.P.underlying kt = some d ∧ ∀ k e l i, Instr.findNow d k (e :: l) i = none
def fieldsFit (P : Program) : List Field → List AV → Bool
  | [], _ => true
  | f :: fs, xs => match aLoad P f.type (xs.drop f.offset) with
    | some y => keyFits P f.type y && fieldsFit P fs xs
    | none => false
theorem checkKey_one {P : Program} {w : World} {k : TypeId} {key : Value} {r : Rl} {a : AV} (e : Bool) (d : Nat) (h : keyFits P k a = true) (ha : VRel r w key a) : (Instr.checkKey e (d + 1) k key).run P w = .ok () w := by
  obtain ⟨q, hu, hd⟩ := keyFits_spec h
  unfold Instr.checkKey
  rcases hd with ⟨rfl, s, rfl⟩ | ⟨j, rfl, n, m, rfl⟩ | ⟨rfl, x, rfl⟩ <;> cases ha <;> simp [run_underlying hu]
theorem checkKey_struct {P : Program} {w : World} {k : TypeId} {v : Value} {r : Rl} {az : List AV} {fs : Array Field} (e : Bool) (hu : P.underlying k = some (.struct fs)) (hf : fieldsFit P fs.toList az = true) (ha : VRel r w v (.agg az)) : (Instr.checkKey e 10000 k v).run P w = .ok () w := by
  have hva : ∃ xs, v = .agg xs := by cases ha; exact ⟨_, rfl⟩
  obtain ⟨xs, rfl⟩ := hva
  show (Instr.checkKey e (9998 + 1 + 1) k (.agg xs)).run P w = _
  rw [Instr.checkKey]
  simp only [Sem.run_bind, run_underlying hu, Result.andThen_ok]
  rw [← Array.forIn_toList]
  generalize fs.toList = L at hf
  induction L with
  | nil => simp
  | cons f L ih =>
    rw [fieldsFit] at hf
    split at hf
    case h_2 => cases hf
    rename_i y hy
    rw [Bool.and_eq_true] at hf
    obtain ⟨z, p1, p2⟩ := part_run ha hy
    have p3 := checkKey_one e 9998 hf.1 p2
    by_cases hn : f.name = "_"
    · simp only [List.forIn_cons, Sem.run_bind, hn, ne_eq, not_true_eq_false, if_false, Result.andThen_ok, Sem.run_pure]
      exact ih hf.2
    · simp only [List.forIn_cons, Sem.run_bind, hn, ne_eq, not_false_eq_true, if_true, Result.andThen_ok, p1, p3, Sem.run_pure]
      exact ih hf.2
theorem equal_struct {P : Program} {w : World} {t : TypeId} {u v : Value} {r : Rl} {az bs : List AV} {fs : Array Field} {b : Bool} (ht : P.underlying t = some (.struct fs)) (hc : cmpOk P t = true) (hb : eqFs P fs.toList az bs = some b) (hx : VRel r w u (.agg az)) (hy : VRel r w v (.agg bs)) :
    (Op.equal t u v).run P w = .ok b w := by
  have hxa : ∃ xs, u = .agg xs := by cases hx; exact ⟨_, rfl⟩
  have hya : ∃ xs, v = .agg xs := by cases hy; exact ⟨_, rfl⟩
  obtain ⟨xs, rfl⟩ := hxa
  obtain ⟨ys, rfl⟩ := hya
  have hfo : P.fieldsOf t = fs := by simp [Program.fieldsOf, ht]
  unfold cmpOk at hc
  rw [ht] at hc
  simp only [Bool.and_eq_true, Bool.not_eq_true', List.all_eq_true, bne_iff_ne] at hc
  show (Op.equalIn (9998 + 1 + 1) t _ _).run P w = _
  rw [run_equalIn_struct w (9998 + 1) t xs ys (by rw [hfo]; exact ht) hc.1.1, hfo]
  exact eqFs_run 9998 hx hy fs.toList hb hc.2
def plainA : AV → Bool
  | .str _ => true
  | .int _ _ => true
  | .bool _ => true
  | _ => false
theorem bits_one {r : Rl} {w : World} {u v : Value} {a : AV} (d : Nat) (h : plainA a = true) (hu : VRel r w u a) (hv : VRel r w v a) : Instr.sameBits d u v = true := by
  cases a <;> first | cases h | skip
  · cases hu; cases hv; unfold Instr.sameBits; simp
  · cases hu; cases hv; unfold Instr.sameBits; simp
  · cases hu with
    | str h1 =>
      cases hv with
      | str h2 =>
        unfold Instr.sameBits
        exact (MapKept.bytes_beq _ _).2 (ByteArray.ext (Array.toList_inj.1 (h1.trans h2.symm)))
theorem bits_struct {r : Rl} {w : World} {u v : Value} {az : List AV} (h : az.all plainA = true) (hu : VRel r w u (.agg az)) (hv : VRel r w v (.agg az)) : Instr.sameBits 10000 u v = true := by
  cases hu with
  | agg hn h1 =>
    cases hv with
    | agg hm h2 =>
      rename_i xs ys
      unfold Instr.sameBits
      rw [Bool.and_eq_true]
      refine ⟨by simp [hn, hm], ?_⟩
      rw [List.all_eq_true]
      rintro ⟨x, y⟩ hxy
      obtain ⟨i, hi, e⟩ := List.getElem_of_mem hxy
      rw [List.length_zip, Array.length_toList, Array.length_toList] at hi
      rw [List.getElem_zip] at e
      have hia : i < az.length := by omega
      have k1 := h1 i hia
      have k2 := h2 i hia
      have e1 : xs.getD i undef = x := by
        rw [Array.getD_eq_getD_getElem?, Array.getElem?_eq_getElem (by omega)]
        exact (congrArg Prod.fst e)
      have e2 : ys.getD i undef = y := by
        rw [Array.getD_eq_getD_getElem?, Array.getElem?_eq_getElem (by omega)]
        exact (congrArg Prod.snd e)
      rw [e1] at k1; rw [e2] at k2
      exact bits_one _ (List.all_eq_true.1 h _ (List.getElem_mem hia)) k1 k2
theorem KeyLaw.struct {α : Type} [DecidableEq α] {cx : Cx} {kt : TypeId} {fs : Array Field} {parts : α → List AV} (hu : cx.P.underlying kt = some (.struct fs)) (hc : cmpOk cx.P kt = true) (hf : ∀ a, fieldsFit cx.P fs.toList (parts a) = true) (hp : ∀ a, (parts a).all plainA = true)
    (he : ∀ a b, eqFs cx.P fs.toList (parts a) (parts b) = some (decide (a = b))) : KeyLaw cx kt (fun a => .agg (parts a)) where
  check := fun e r w v a h => checkKey_struct e hu (hf a) h
  equal := fun r w u v a b h1 h2 => equal_struct hu hc (he a b) h1 h2
  bits := fun r w u v a h1 h2 => bits_struct (hp a) h1 h2
  slow := ⟨_, hu, fun k e l i => rfl⟩
section
variable {α : Type} [DecidableEq α]
def mapG (key : α → AV) (ks : List α) (val : α → AV) : List (AV × AV) := ks.map fun k => (key k, val k)
theorem KeyLaw.find {cx : Cx} {kt : TypeId} {key : α → AV} (L : KeyLaw cx kt key) {r : Rl} {w : World} {a : α} {k : Value} (hk : VRel r w k (key a)) : ∀ (es : List MapEntry) (ks : List α) (i : Nat), es.length = ks.length → (∀ j (h : j < ks.length), ∃ e, es[j]? = some e ∧ VRel r w e.key (key ks[j])) →
    (a ∉ ks ∧ (Instr.findAsking kt k es i).run cx.P w = .ok none w) ∨ (a ∈ ks ∧ ∃ e, es[ks.idxOf a]? = some e ∧ (Instr.findAsking kt k es i).run cx.P w = .ok (some (i + ks.idxOf a, e.val)) w)
  | [], [], i, _, _ => .inl ⟨by simp, by simp [Instr.findAsking]⟩
  | [], _ :: _, _, hl, _ => by simp at hl
  | _ :: _, [], _, hl, _ => by simp at hl
  | e :: es, x :: ks, i, hl, hr => by
    obtain ⟨e0, q1, q2⟩ := hr 0 (by simp)
    simp only [List.getElem?_cons_zero, Option.some.injEq, List.getElem_cons_zero] at q1 q2
    subst q1
    have heq := L.equal r w k e.key a x hk q2
    by_cases hax : a = x
    · subst hax
      refine .inr ⟨by simp, e, by simp, ?_⟩
      rw [decide_eq_true rfl] at heq
      rw [Instr.findAsking]
      simp only [Sem.run_bind, heq, Result.andThen_ok, if_true, Sem.run_pure, List.idxOf_cons_self, Nat.add_zero]
    · rw [decide_eq_false hax] at heq
      have hf : (Instr.findAsking kt k (e :: es) i).run cx.P w = (Instr.findAsking kt k es (i + 1)).run cx.P w := by
        conv => lhs; rw [Instr.findAsking]
        simp [heq]
      have hx : (x == a) = false := by simpa using Ne.symm hax
      rcases KeyLaw.find L hk es ks (i + 1) (by simpa using hl) (fun j hj => by
        obtain ⟨e', m1, m2⟩ := hr (j + 1) (by simp; omega)
        exact ⟨e', by simpa using m1, by simpa using m2⟩) with ⟨h1, h2⟩ | ⟨h1, e', h2, h3⟩
      · exact .inl ⟨by simp [hax, h1], by rw [hf]; exact h2⟩
      · refine .inr ⟨List.mem_cons_of_mem _ h1, e', ?_, ?_⟩
        · rw [List.idxOf_cons, hx]; simpa using h2
        · rw [hf, h3, List.idxOf_cons, hx]
          simp only [cond_false]
          rw [show i + 1 + ks.idxOf a = i + (ks.idxOf a + 1) by omega]
theorem KeyLaw.findKey {cx : Cx} {kt : TypeId} {key : α → AV} (L : KeyLaw cx kt key) {r : Rl} {w : World} {a : α} {k : Value} (hk : VRel r w k (key a)) {es : Array MapEntry} {clock : Nat} {ks : List α} {val : α → AV} {st : Option (List Nat × Nat)} (hm : MapIs r w es clock (mapG key ks val) st) :
    (a ∉ ks ∧ (Instr.findKey kt k es.toList).run cx.P w = .ok none w) ∨ (a ∈ ks ∧ ∃ e, es[ks.idxOf a]? = some e ∧ VRel r w e.val (val a) ∧ VRel r w e.key (key a) ∧ (Instr.findKey kt k es.toList).run cx.P w = .ok (some (ks.idxOf a, e.val)) w) := by
  have hlen : (mapG key ks val).length = ks.length := by simp [mapG]
  have hat : ∀ j (h : j < ks.length), ∃ e, es[j]? = some e ∧ VRel r w e.key (key ks[j]) ∧ VRel r w e.val (val ks[j]) := by
    intro j hj
    obtain ⟨e, h1, h2, h3⟩ := hm.2.1 j (by omega)
    refine ⟨e, h1, ?_, ?_⟩
    · simpa [mapG] using h2
    · simpa [mapG] using h3
  obtain ⟨d, hd, hs⟩ := L.slow
  have h := L.find hk es.toList ks 0 (by rw [Array.length_toList, hm.1, hlen]) (fun j hj => by
    obtain ⟨e, h1, h2, _⟩ := hat j hj
    exact ⟨e, by rw [Array.getElem?_toList]; exact h1, h2⟩)
  have hfk : (Instr.findKey kt k es.toList).run cx.P w = (Instr.findAsking kt k es.toList 0).run cx.P w := by
    unfold Instr.findKey
    cases hes : es.toList with
    | nil => simp [run_underlying hd, Instr.findNow, Instr.findAsking]
    | cons e l => simp [run_underlying hd, hs]
  rw [hfk]
  rcases h with h | ⟨h1, e, h2, h3⟩
  · exact .inl h
  · refine .inr ⟨h1, e, by rw [← Array.getElem?_toList]; exact h2, ?_, ?_, by rw [h3, Nat.zero_add]⟩
    · obtain ⟨e', m1, m2, m3⟩ := hat _ (List.idxOf_lt_length_of_mem h1)
      rw [Array.getElem?_toList, m1] at h2
      obtain rfl := Option.some.inj h2
      rw [List.getElem_idxOf] at m3; exact m3
    · obtain ⟨e', m1, m2, m3⟩ := hat _ (List.idxOf_lt_length_of_mem h1)
      rw [Array.getElem?_toList, m1] at h2
      obtain rfl := Option.some.inj h2
      rw [List.getElem_idxOf] at m2; exact m2
variable {cx : Cx} {n : Nat} {fr : Fr} {σ : Heap}
end
end Go.Ab
end
section
set_option linter.unusedVariables false
set_option linter.unusedSimpArgs false
set_option maxRecDepth 20000
namespace Go.Proofs.YtpehmhlgldbeoaaGreatDoor
open Go Go.Ab
theorem xor1_ok (x y : Int) : Calc cx 119 [.int .i64 x, .int .i64 y] (.int .i64 ((IntKind.i64.wrap (x + y)).tmod 2)) :=
  pure_intro (fun a w => Tryz.call119 a w) Tryz.func119 rfl Tryz.ntmps119 rfl .int fun B => by
    refine ab 1000 rfl ⟨by decide, trivial⟩ ?_
    refine S_ret ⟨_, _, rfl, trivial, _, rfl, .refl .int⟩
def bitsN (G : Nat → Nat → Nat) : Nat → Nat → Nat → Nat
  | 0, _, _ => 0
  | k + 1, a, b => G (a % 2) (b % 2) + 2 * bitsN G k (a / 2) (b / 2)
theorem bits_ok (G : Nat → Nat → Nat) (f : FuncId) (hG : ∀ x y, x < 2 → y < 2 → G x y < 2 ∧ Calc cx f [.int .i64 x, .int .i64 y] (.int .i64 (G x y))) (a b : Nat) (ha : a < 4294967296) (hb : b < 4294967296) :
    Calc cx 118 [.int .i64 a, .int .i64 b, .func (.func f) [] []] (.int .i64 (bitsN G 32 a b)) :=
  pure_intro (fun a w => Tryz.call118 a w) Tryz.func118 rfl Tryz.ntmps118 rfl .int fun B => by
    refine ab 1000 rfl trivial ?_
    refine S_while (α := Nat × Nat × Nat × Nat) (fun (i, a, b, n) => [(0, .int .i64 a), (1, .int .i64 b), (2, .func (.func f) [] []), (7, .int .i64 n), (8, .int .i64 ((2 ^ i : Nat) : Int)), (9, .int .i64 i)]) (fun _ => [])
      (fun (i, a', b', n) => i ≤ 32 ∧ a' < 4294967296 ∧ b' < 4294967296 ∧ n < 2 ^ i ∧ n + 2 ^ i * bitsN G (32 - i) a' b' = bitsN G 32 a b) (fun (i, _) => 32 - i) (0, a, b, 0)
      ⟨by decide, ha, hb, by decide, by simp⟩ (.cons rfl (.cons rfl (.cons rfl (.cons rfl (.cons rfl (.cons rfl (.nil _))))))) rfl ?_
    rintro ⟨i, a', b', n⟩ ⟨hi, ha', hb', hn, hN⟩
    have hG' := hG (a' % 2) (b' % 2) (Nat.mod_lt _ (by decide)) (Nat.mod_lt _ (by decide))
    have hp : 2 ^ i ≤ 2 ^ 32 := Nat.pow_le_pow_right (by decide) hi
    refine ab 1000 rfl trivial ?_
    refine S_dec rfl (fun h => ?_) (fun h => ?_)
    · have hi32 : i < 32 := by omega
      refine ab 1000 rfl ⟨by decide, by decide, trivial⟩ ?_
      refine S_pure rfl rfl rfl hG'.2 (.cons (.refl .int) (.cons (.refl .int) (.nil _))) ?_
      refine ab 1000 rfl ⟨by decide, by decide, trivial⟩ ?_
      have hg : G (a' % 2) (b' % 2) < 2 := hG'.1
      have hm : 2 ^ i * G (a' % 2) (b' % 2) ≤ 2 ^ i := by
        rcases Nat.lt_or_ge (G (a' % 2) (b' % 2)) 1 with h | h
        · rw [show G (a' % 2) (b' % 2) = 0 by omega]; simp
        · rw [show G (a' % 2) (b' % 2) = 1 by omega]; simp
      refine S_round (i + 1, a' / 2, b' / 2, n + 2 ^ i * G (a' % 2) (b' % 2)) ?_ ⟨by omega, by omega, by omega, ?_, ?_⟩ (.cons ?_ (.cons ?_ (.cons rfl (.cons ?_ (.cons ?_ (.cons ?_ (.nil _))))))) rfl
      · show 32 - (i + 1) < 32 - i; omega
      · show n + _ < 2 ^ (i + 1); rw [Nat.pow_succ]; omega
      · show n + 2 ^ i * G (a' % 2) (b' % 2) + 2 ^ (i + 1) * bitsN G (32 - (i + 1)) (a' / 2) (b' / 2) = _
        rw [← hN, show 32 - i = (32 - (i + 1)) + 1 by omega, bitsN, Nat.mul_add, Nat.pow_succ, Nat.mul_assoc (2 ^ i) 2]; omega
      · exact ai64 rfl (by omega)
      · exact ai64 rfl (by omega)
      · exact ai64 (congrArg (fun z : Int => (n : Int) + z) (w64 (k := 2 ^ i * G (a' % 2) (b' % 2)) rfl (by omega))) (by omega)
      · exact ai64 (by rw [Nat.pow_succ]; omega) (by rw [Nat.pow_succ]; omega)
      · exact ai64 rfl (by omega)
    · have hi32 : i = 32 := by omega
      subst hi32
      refine ab 1000 rfl trivial ?_
      refine S_ret ⟨_, _, rfl, trivial, _, rfl, ?_⟩
      rw [show bitsN G 32 a b = n by rw [← hN]; simp [bitsN]]
      exact .refl .int
theorem xor1_nat (x y : Nat) (hx : x < 2) (hy : y < 2) : (x + y) % 2 < 2 ∧ Calc cx 119 [.int .i64 x, .int .i64 y] (.int .i64 ((x + y) % 2 : Nat)) := by
  refine ⟨Nat.mod_lt _ (by decide), ?_⟩
  have h := xor1_ok x y
  rw [show (x : Int) + (y : Int) = ((x + y : Nat) : Int) from rfl, w64 (k := x + y) rfl (by omega)] at h
  exact h
def xor2 (a b : Nat) : Nat := bitsN (fun x y => (x + y) % 2) 32 a b
theorem bitsN_lt (G : Nat → Nat → Nat) (hG : ∀ x y, x < 2 → y < 2 → G x y < 2) : ∀ k a b, bitsN G k a b < 2 ^ k
  | 0, _, _ => by simp [bitsN]
  | k + 1, a, b => by
    have h := bitsN_lt G hG k (a / 2) (b / 2)
    have h1 := hG (a % 2) (b % 2) (Nat.mod_lt _ (by decide)) (Nat.mod_lt _ (by decide))
    rw [bitsN, Nat.pow_succ]; omega
theorem xor2_lt (a b : Nat) : xor2 a b < 4294967296 := bitsN_lt _ (fun x y _ _ => Nat.mod_lt _ (by decide)) 32 a b
theorem xor2_ok (a b : Nat) (ha : a < 4294967296) (hb : b < 4294967296) : Calc cx 118 [.int .i64 a, .int .i64 b, .func (.func 119) [] []] (.int .i64 (xor2 a b)) := by
  unfold xor2
  exact bits_ok _ _ xor1_nat a b ha hb
def xorL (l : List Nat) : Nat := l.foldl xor2 0
def ints (l : List Nat) : List AV := l.map fun (x : Nat) => .int .i64 x
theorem xor_ok {st fl : Bool} (l : List Nat) (hl : ∀ x ∈ l, x < 4294967296) (hn : l.length ≤ 4611686018427387904) : Calc cx 82 [.sl st fl 1 (ints l)] (.int .i64 (xorL l)) :=
  pure_intro (fun a w => Tryz.call82 a w) Tryz.func82 rfl Tryz.ntmps82 rfl .int fun B => by
    refine ab 1000 rfl trivial ?_
    refine S_while (α := Nat × Nat) (fun (i, n) => [(0, .sl st fl 1 (ints l)), (3, .int .i64 n), (4, .int .i64 i)]) (fun _ => []) (fun (i, n) => i ≤ l.length ∧ n < 4294967296 ∧ (l.drop i).foldl xor2 n = xorL l) (fun (i, _) => l.length - i) (0, 0)
      ⟨by simp, by decide, by simp [xorL]⟩ (.cons rfl (.cons rfl (.cons rfl (.nil _)))) rfl ?_
    rintro ⟨i, n⟩ ⟨hi, hn', hN⟩
    refine ab 1000 rfl trivial ?_
    refine S_dec rfl (fun h => ?_) (fun h => ?_)
    · have hil : i < l.length := by simp [ints] at h; omega
      refine ab 1000 rfl trivial ?_
      refine S_index (.int .i64 l[i]) rfl rfl rfl ⟨rfl, by omega, by simp [ints, List.getElem?_eq_getElem hil], trivial⟩ ?_
      refine ab 1000 rfl trivial ?_
      have hx := hl _ (List.getElem_mem hil)
      refine S_pure rfl rfl rfl (xor2_ok n l[i] hn' hx) (.cons (.refl .int) (.cons (.refl .int) (.cons (.refl (.func (by simp) (by simp))) (.nil _)))) ?_
      refine ab 1000 rfl trivial ?_
      refine S_round (i + 1, xor2 n l[i]) (by show l.length - (i + 1) < l.length - i; omega) ⟨hil, xor2_lt _ _, ?_⟩ (.cons rfl (.cons rfl (.cons (ai64 rfl (by omega)) (.nil _)))) rfl
      show (l.drop (i + 1)).foldl xor2 (xor2 n l[i]) = _
      rw [← hN, List.drop_eq_getElem_cons hil, List.foldl_cons]
    · have hil : i = l.length := by simp [ints] at h; omega
      subst hil
      refine ab 1000 rfl trivial ?_
      refine S_ret ⟨_, _, rfl, trivial, _, rfl, ?_⟩
      rw [← hN]; simp
      exact .refl .int
end Go.Proofs.YtpehmhlgldbeoaaGreatDoor
end
section
set_option linter.unusedVariables false
set_option linter.unusedSimpArgs false
set_option maxRecDepth 20000
namespace Go.Proofs.YtpehmhlgldbeoaaGreatDoor
open Go Go.Ab
theorem xor_half (a b : Nat) : a ^^^ b = (a % 2 + b % 2) % 2 + 2 * ((a / 2) ^^^ (b / 2)) := by
  have h1 : (a ^^^ b) / 2 = (a / 2) ^^^ (b / 2) := by
    have := Nat.shiftRight_xor_distrib (a := a) (b := b) (i := 1)
    simpa [Nat.shiftRight_eq_div_pow] using this
  have h2 : (a ^^^ b) % 2 = (a % 2 + b % 2) % 2 := by
    clear h1
    have h := @Nat.xor_mod_two_eq_one a b
    have hz := Nat.mod_two_eq_zero_or_one (a ^^^ b)
    generalize (a ^^^ b) % 2 = z at *
    rcases Nat.mod_two_eq_zero_or_one a with ha | ha <;> rcases Nat.mod_two_eq_zero_or_one b with hb | hb <;> rw [ha, hb] at h ⊢ <;> rcases hz with rfl | rfl <;> simp at h ⊢
  rw [← h1, ← h2]; omega
theorem bitsN_xor : ∀ k a b, bitsN (fun x y => (x + y) % 2) k a b = (a ^^^ b) % 2 ^ k
  | 0, a, b => by simp [bitsN, Nat.mod_one]
  | k + 1, a, b => by
    rw [bitsN, bitsN_xor k, xor_half a b, Nat.pow_succ, Nat.mul_comm (2 ^ k) 2, Nat.mod_mul]
    have h : (a % 2 + b % 2) % 2 < 2 := Nat.mod_lt _ (by decide)
    generalize (a % 2 + b % 2) % 2 = x at *
    generalize (a / 2) ^^^ (b / 2) = y at *
    have e1 : (x + 2 * y) % 2 = x := by omega
    have e2 : (x + 2 * y) / 2 = y := by omega
    rw [e1, e2]
theorem xor2_eq {a b : Nat} (ha : a < 4294967296) (hb : b < 4294967296) : xor2 a b = a ^^^ b := by
  unfold xor2
  rw [bitsN_xor]
  exact Nat.mod_eq_of_lt (Nat.xor_lt_two_pow (n := 32) ha hb)
theorem xorL_two {a b : Nat} (ha : a < 4294967296) (hb : b < 4294967296) : xorL [a, b] = a ^^^ b := by
  simp only [xorL, List.foldl_cons, List.foldl_nil]
  rw [xor2_eq (by decide) ha, Nat.zero_xor, xor2_eq ha hb]
theorem xorL_three {a b c : Nat} (ha : a < 4294967296) (hb : b < 4294967296) (hc : c < 4294967296) : xorL [a, b, c] = a ^^^ b ^^^ c := by
  simp only [xorL, List.foldl_cons, List.foldl_nil]
  rw [xor2_eq (by decide) ha, Nat.zero_xor, xor2_eq ha hb, xor2_eq (Nat.xor_lt_two_pow (n := 32) ha hb) hc]
end Go.Proofs.YtpehmhlgldbeoaaGreatDoor
end
section
set_option linter.unusedVariables false
set_option linter.unusedSimpArgs false
set_option maxRecDepth 20000
namespace Go.Proofs.YtpehmhlgldbeoaaGreatDoor
open Go Go.Ab
theorem Pow2_ok (m : Nat) (hm : m ≤ 62) : Calc cx 79 [.int .i64 m] (.int .i64 ((2 ^ m : Nat) : Int)) :=
  pure_intro (fun a w => Tryz.call79 a w) Tryz.func79 rfl Tryz.ntmps79 rfl .int fun B => by
    refine ab 1000 rfl trivial ?_
    refine S_while (α := Nat) (fun i => [(0, .int .i64 ((m - i : Nat) : Int)), (3, .int .i64 ((2 ^ i : Nat) : Int))]) (fun _ => []) (fun i => i ≤ m) (fun i => m - i) 0 (Nat.zero_le _) (.cons rfl (.cons rfl (.nil _))) rfl ?_
    intro i hi
    have hp : 2 ^ i ≤ 2 ^ 62 := Nat.pow_le_pow_right (by decide) (by omega)
    refine ab 1000 rfl trivial ?_
    refine S_dec rfl (fun h => ?_) (fun h => ?_)
    · have hil : i < m := by omega
      have hp2 : 2 ^ (i + 1) = 2 * 2 ^ i := by rw [Nat.pow_succ]; omega
      have hp3 : 2 ^ (i + 1) ≤ 2 ^ 62 := Nat.pow_le_pow_right (by decide) (by omega)
      refine ab 1000 rfl trivial ?_
      refine S_round (i + 1) (by show m - (i + 1) < m - i; omega) hil (.cons ?_ (.cons ?_ (.nil _))) rfl
      · exact ai64 (k := m - (i + 1)) (by omega) (by omega)
      · exact ai64 (k := 2 ^ (i + 1)) (by rw [hp2]; rfl) (by omega)
    · have him : i = m := by omega
      subst him
      refine ab 1000 rfl trivial ?_
      exact S_retc .int rfl trivial rfl
end Go.Proofs.YtpehmhlgldbeoaaGreatDoor
end
section
set_option linter.unusedVariables false
set_option linter.unusedSimpArgs false
set_option maxRecDepth 20000
namespace Go.Proofs.YtpehmhlgldbeoaaGreatDoor
open Go Go.Ab
theorem and_half (a b : Nat) : a &&& b = (a % 2) * (b % 2) + 2 * ((a / 2) &&& (b / 2)) := by
  have h1 : (a &&& b) / 2 = (a / 2) &&& (b / 2) := by
    have := Nat.shiftRight_and_distrib (a := a) (b := b) (i := 1)
    simpa [Nat.shiftRight_eq_div_pow] using this
  have h2 : (a &&& b) % 2 = (a % 2) * (b % 2) := by
    have h := @Nat.and_mod_two_eq_one a b
    have hz := Nat.mod_two_eq_zero_or_one (a &&& b)
    clear h1
    generalize (a &&& b) % 2 = z at *
    rcases Nat.mod_two_eq_zero_or_one a with ha | ha <;> rcases Nat.mod_two_eq_zero_or_one b with hb | hb <;> rw [ha, hb] at h ⊢ <;> rcases hz with rfl | rfl <;> simp at h ⊢
  rw [← h1, ← h2]; omega
theorem bitsN_and : ∀ k a b, bitsN (fun x y => x * y) k a b = (a &&& b) % 2 ^ k
  | 0, a, b => by simp [bitsN, Nat.mod_one]
  | k + 1, a, b => by
    rw [bitsN, bitsN_and k, and_half a b, Nat.pow_succ, Nat.mul_comm (2 ^ k) 2, Nat.mod_mul]
    have h : (a % 2) * (b % 2) < 2 := by
      rcases Nat.mod_two_eq_zero_or_one a with ha | ha <;> rcases Nat.mod_two_eq_zero_or_one b with hb | hb <;> rw [ha, hb] <;> decide
    generalize (a % 2) * (b % 2) = x at *
    generalize (a / 2) &&& (b / 2) = y at *
    have e1 : (x + 2 * y) % 2 = x := by omega
    have e2 : (x + 2 * y) / 2 = y := by omega
    rw [e1, e2]
theorem and1_nat (x y : Nat) (hx : x < 2) (hy : y < 2) : x * y < 2 ∧ Calc cx 120 [.int .i64 x, .int .i64 y] (.int .i64 (x * y : Nat)) := by
  have h2 : x * y < 2 := by
    have : x = 0 ∨ x = 1 := by omega
    rcases this with rfl | rfl <;> simp <;> omega
  refine ⟨h2, pure_intro (fun a w => Tryz.call120 a w) Tryz.func120 rfl Tryz.ntmps120 rfl .int fun B => ?_⟩
  refine ab 1000 rfl trivial ?_
  refine S_retc .int rfl trivial ?_
  exact ai64 (by simp) (by omega)
theorem And_ok (a b : Nat) (ha : a < M32) (hb : b < M32) : Calc cx 85 [.int .i64 a, .int .i64 b] (.int .i64 (a &&& b : Nat)) :=
  pure_intro (fun a w => Tryz.call85 a w) Tryz.func85 rfl Tryz.ntmps85 rfl .int fun B => by
    have hc := bits_ok (fun x y => x * y) 120 and1_nat a b ha hb
    rw [bitsN_and, Nat.mod_eq_of_lt (show a &&& b < 2 ^ 32 from Nat.lt_of_le_of_lt Nat.and_le_left ha)] at hc
    refine ab 1000 rfl trivial ?_
    refine S_pure rfl rfl rfl hc (.cons (.refl .int) (.cons (.refl .int) (.cons (.refl (.func (by simp) (by simp))) (.nil _)))) ?_
    refine ab 1000 rfl trivial ?_
    exact S_retc .int rfl trivial rfl
theorem Wrap_ok (n : Nat) (hn : n ≤ 4611686018427387904) : Calc cx 84 [.int .i64 n] (.int .i64 (n % M32 : Nat)) :=
  pure_intro (fun a w => Tryz.call84 a w) Tryz.func84 rfl Tryz.ntmps84 rfl .int fun B => by
    have e : (n : Int).tmod 4294967296 = ((n % M32 : Nat) : Int) := rfl
    refine ab 1000 rfl ⟨by decide, trivial⟩ ?_
    refine S_dec rfl (fun h => ?_) (fun h => ?_)
    · exfalso
      have h : (n : Int).tmod 4294967296 < 0 := h
      rw [e] at h; omega
    · refine ab 1000 rfl trivial ?_
      exact S_retc .int rfl trivial rfl
theorem rotr_sum {x n : Nat} (h1 : n ≤ 32) : x / 2 ^ n + x % 2 ^ n * 2 ^ (32 - n) = rotr x n ∨ M32 ≤ x := by
  rcases Nat.lt_or_ge x M32 with hx | hx
  · left
    have e : M32 = 2 ^ n * 2 ^ (32 - n) := by rw [← Nat.pow_add, show n + (32 - n) = 32 by omega]; rfl
    have e2 : x * 2 ^ (32 - n) % M32 = x % 2 ^ n * 2 ^ (32 - n) := by rw [e, Nat.mul_mod_mul_right]
    have h3 : x / 2 ^ n < 2 ^ (32 - n) := by
      rw [Nat.div_lt_iff_lt_mul (Nat.two_pow_pos n), Nat.mul_comm, ← e]; exact hx
    rw [rotr, e2, Nat.mul_comm (x % 2 ^ n), ← Nat.two_pow_add_eq_or_of_lt h3, Nat.add_comm]
  · exact .inr hx
theorem Right_ok (x n : Nat) (hx : x < M32) (h1 : 1 ≤ n) (h2 : n ≤ 31) : Calc cx 83 [.int .i64 x, .int .i64 n] (.int .i64 (rotr x n : Nat)) :=
  pure_intro (fun a w => Tryz.call83 a w) Tryz.func83 rfl Tryz.ntmps83 rfl .int fun B => by
    have hs := (rotr_sum (x := x) (n := n) (by omega)).resolve_right (by omega)
    have hlt := rotr_lt n hx
    have hw : IntKind.i64.wrap (32 - (n : Int)) = ((32 - n : Nat) : Int) := w64 (by omega) (by omega)
    have p1 : 0 < 2 ^ n := Nat.two_pow_pos n
    have p2 : 0 < 2 ^ (32 - n) := Nat.two_pow_pos _
    have hx' : x < 4294967296 := hx
    have q1 : x / 2 ^ n ≤ x := Nat.div_le_self _ _
    have hlt' : rotr x n < 4294967296 := hlt
    have d1 : IntKind.i64.wrap ((x : Int).tdiv ((2 ^ n : Nat) : Int)) = ((x / 2 ^ n : Nat) : Int) := w64 rfl (by omega)
    have d2 : (x : Int).tmod ((2 ^ n : Nat) : Int) = ((x % 2 ^ n : Nat) : Int) := rfl
    have d0 : x % 2 ^ n * 2 ^ (32 - n) < 4294967296 := Nat.lt_of_le_of_lt (Nat.le_add_left _ _) (hs ▸ hlt')
    have d3 : IntKind.i64.wrap (((x % 2 ^ n : Nat) : Int) * ((2 ^ (32 - n) : Nat) : Int)) = ((x % 2 ^ n * 2 ^ (32 - n) : Nat) : Int) := w64 (by simp) (by generalize x % 2 ^ n * 2 ^ (32 - n) = z at *; omega)
    refine ab 1000 rfl trivial ?_
    refine S_draw 13 [] [.int .i64 ((2 ^ n : Nat) : Int), .int .i64 ((2 ^ n : Nat) : Int), .int .i64 ((2 ^ (32 - n) : Nat) : Int)] rfl rfl rfl rfl ⟨rfl, rfl, ⟨_, Pow2_ok n (by omega), .cons (.refl .int) (.nil _)⟩, rfl, by omega, rfl, rfl, ⟨_, Pow2_ok n (by omega), .cons (.refl .int) (.nil _)⟩, rfl, by omega, rfl, rfl, ⟨_, Pow2_ok (32 - n) (by omega), .cons (by rw [← hw]; exact .refl .int) (.nil _)⟩, rfl, rfl, trivial⟩ ?_
    refine ab 1000 rfl trivial ?_
    refine S_retc .int rfl trivial ?_
    show AV.int .i64 (IntKind.i64.wrap (IntKind.i64.wrap ((x : Int).tdiv ((2 ^ n : Nat) : Int)) + IntKind.i64.wrap ((x : Int).tmod ((2 ^ n : Nat) : Int) * ((2 ^ (32 - n) : Nat) : Int)))) = _
    rw [d2, d1, d3]
    exact ai64 (by rw [← hs]; simp) (by omega)
theorem Constants_ok : Calc cx 80 [] (.sl true true 1 (ints kTab)) :=
  pure_intro (fun a w => Tryz.call80 a w) Tryz.func80 rfl Tryz.ntmps80 rfl (.sl (fun _ => rfl) (by intro x hx; obtain ⟨y, _, rfl⟩ := List.mem_map.1 hx; exact .int)) fun B => by
    refine ab 1000 rfl trivial ?_
    exact S_retc (.sl (fun _ => rfl) (by intro x hx; obtain ⟨y, _, rfl⟩ := List.mem_map.1 hx; exact .int)) rfl trivial rfl
def iB (v : Nat) (l : List Nat) : Nat × Option Box := (v, some (.cells (ints l) ⟨false, none⟩))
theorem Firsts_ok : CallOk cx 81 [] [] (fun o σ' => o = .ret (.ms 0 0 0 8 1 true) ∧ σ' = [iB 0 hTab]) :=
  callOk_intro (fun a w => Tryz.call81 a w) Tryz.func81 rfl Tryz.ntmps81 rfl fun B => by
    refine go (M := [1]) 1000 rfl trivial ?_
    exact S_ret ⟨_, _, rfl, trivial, rfl, rfl⟩
end Go.Proofs.YtpehmhlgldbeoaaGreatDoor
end
section
set_option linter.unusedVariables false
set_option linter.unusedSimpArgs false
set_option maxRecDepth 20000
namespace Go.Proofs.YtpehmhlgldbeoaaGreatDoor
open Go Go.Ab
theorem ints_len (l : List Nat) : (ints l).length = l.length := by simp [ints]
theorem ints_one (l : List Nat) : ∀ x ∈ ints l, x.one = true := by
  intro x hx; obtain ⟨y, _, rfl⟩ := List.mem_map.1 hx; rfl
theorem ints_any {st : Bool} (l : List Nat) : ∀ x ∈ ints l, Free st x := by
  intro x hx; obtain ⟨y, _, rfl⟩ := List.mem_map.1 hx; exact .int
theorem ints_get {l : List Nat} {i : Nat} (h : i < l.length) : (ints l)[i]? = some (.int .i64 (l.getD i 0 : Nat)) := by
  simp [ints, List.getD, h]
theorem ints_ld {l : List Nat} {i : Nat} (h : i < l.length) : ((ints l).drop i)[0]? = some (.int .i64 (l.getD i 0 : Nat)) := by
  simp [ints, List.getD, h]
theorem getD_mid (A : List Nat) (x : Nat) (B : List Nat) : (A ++ x :: B).getD A.length 0 = x := by simp [List.getD]
def WInv (p : List UInt8) (t : Nat) (w : List Nat) : Prop := w.length = t ∧ W32 w ∧ (t ≤ 16 → w = (words p).take t) ∧ (16 ≤ t → sched (64 - t) w = schedOf p)
theorem sum4 {Z a V b : Nat} (hZ : Z < M32) (ha : a < M32) (hV : V < M32) (hb : b < M32) :
    IntKind.i64.wrap (IntKind.i64.wrap (IntKind.i64.wrap ((Z : Int) + (a : Int)) + (V : Int)) + (b : Int)) = ((Z + a + V + b : Nat) : Int) ∧ Z + a + V + b ≤ 4611686018427387904 := by
  simp only [M32] at *
  have e1 : IntKind.i64.wrap ((Z : Int) + (a : Int)) = ((Z + a : Nat) : Int) := w64 (by omega) (by omega)
  have e2 : IntKind.i64.wrap (((Z + a : Nat) : Int) + (V : Int)) = ((Z + a + V : Nat) : Int) := w64 (by omega) (by omega)
  have e3 : IntKind.i64.wrap (((Z + a + V : Nat) : Int) + (b : Int)) = ((Z + a + V + b : Nat) : Int) := w64 (by omega) (by omega)
  rw [e1, e2, e3]
  exact ⟨rfl, by omega⟩
theorem sum5 {Z a V b d : Nat} (hZ : Z < M32) (ha : a < M32) (hV : V < M32) (hb : b < M32) (hd : d < M32) :
    IntKind.i64.wrap (IntKind.i64.wrap (IntKind.i64.wrap (IntKind.i64.wrap ((Z : Int) + (a : Int)) + (V : Int)) + (b : Int)) + (d : Int)) = ((Z + a + V + b + d : Nat) : Int) ∧ Z + a + V + b + d ≤ 4611686018427387904 := by
  obtain ⟨h1, _⟩ := sum4 hZ ha hV hb
  rw [h1]
  simp only [M32] at *
  exact ⟨w64 (by omega) (by omega), by omega⟩
theorem sum2 {Z a : Nat} (hZ : Z < M32) (ha : a < M32 + M32) : IntKind.i64.wrap ((Z : Int) + (a : Int)) = ((Z + a : Nat) : Int) ∧ Z + a ≤ 4611686018427387904 := by
  simp only [M32] at *
  exact ⟨w64 (by omega) (by omega), by omega⟩
theorem lt2 {a : Nat} (h : a < M32) : a < M32 + M32 := Nat.lt_of_lt_of_le h (Nat.le_add_left _ _)
theorem round_eq (v0 v1 v2 v3 v4 v5 v6 v7 kt wt : Nat) : round [v0, v1, v2, v3, v4, v5, v6, v7] (kt + wt) =
    [((v7 + Sig1 v4 + ((v4 &&& v5) ^^^ ((4294967295 - v4) &&& v6)) + kt + wt) % M32 + (Sig0 v0 + ((v0 &&& v1) ^^^ (v0 &&& v2) ^^^ (v1 &&& v2)))) % M32, v0, v1, v2,
      (v3 + (v7 + Sig1 v4 + ((v4 &&& v5) ^^^ ((4294967295 - v4) &&& v6)) + kt + wt) % M32) % M32, v4, v5, v6] := by
  simp only [round, List.getD, List.getElem?_cons_zero, List.getElem?_cons_succ, Option.getD_some]
  rw [Nat.add_mod_mod, ← Nat.add_assoc (v7 + Sig1 v4 + ((v4 &&& v5) ^^^ ((4294967295 - v4) &&& v6))) kt wt]
theorem div32 {X k : Nat} (hX : X < M32) : IntKind.i64.wrap ((X : Int).tdiv (k : Int)) = ((X / k : Nat) : Int) :=
  w64 rfl (by have := Nat.div_le_self X k; simp only [M32] at hX; omega)
set_option maxHeartbeats 8000000 in
theorem SumR_ok (s : List UInt8) (hs : s.length ≤ 70368744177664) : Calc cx 52 [.str s] (.str (sha s)) :=
  pure_intro (fun a w => Tryz.call52 a w) Tryz.func52 rfl Tryz.ntmps52 rfl .str fun B => by
    refine go (M := [30]) 1000 rfl ⟨?_, ?_, ?_, rfl, rfl, allOne_mem (cs := [.int .u8 128]) rfl, allOne_mem (cs := [.int .u8 128]) rfl, rfl, trivial⟩ ?_
    · show s.length + 1 ≤ 9223372036854775807; omega
    · show (s.length + 1) * 1 ≤ 140737488355328; omega
    · show 0 + s.length * 1 = (s.map byteAV).length; simp
    have hbl : ∀ k, ((s ++ [128] ++ List.replicate k (0 : UInt8))).length = s.length + 1 + k := fun k => by simp; omega
    have hpl : padLen s.length < 64 := Nat.mod_lt _ (by decide)
    refine S_while (α := Nat × Nat) (fun (u, k) => [(0, .str s), (3, .ms 0 u 0 (s.length + 1 + k) 1 false)]) (fun (u, k) => [bB u (s ++ [128] ++ List.replicate k 0) ⟨false, some 5⟩])
      (fun (u, k) => k ≤ padLen s.length) (fun (u, k) => padLen s.length - k) (1, 0)
      (Nat.zero_le _) (.cons rfl (.cons rfl (.nil _))) (by simp only [bB, List.replicate_zero, List.append_nil, List.map_append, List.map_cons, List.map_nil]; rfl) ?_
    rintro ⟨u, k⟩ hk
    refine ab 1000 rfl ⟨by decide, trivial⟩ ?_
    have hmod : (((s.length + 1 + k : Nat) : Int)).tmod 64 = (((s.length + 1 + k) % 64 : Nat) : Int) := rfl
    refine S_bne rfl (fun h56 => ?_) (fun h56 => ?_)
    · have h56 : (s.length + 1 + k) % 64 ≠ 56 := by
        have : ((((s.length + 1 + k : Nat) : Int)).tmod 64) ≠ 56 := h56
        rw [hmod] at this; omega
      have hkl : k < padLen s.length := by unfold padLen at *; omega
      refine ab 1000 rfl ⟨?_, ?_, ?_, rfl, rfl, allOne_mem (cs := [.int .u8 0]) rfl, allOne_mem (cs := [.int .u8 0]) rfl, rfl, trivial⟩ ?_
      · show s.length + 1 + k + 1 ≤ 9223372036854775807; omega
      · show (s.length + 1 + k + 1) * 1 ≤ 140737488355328; omega
      · show 0 + (s.length + 1 + k) * 1 = ((s ++ [128] ++ List.replicate k (0 : UInt8)).map byteAV).length
        rw [List.length_map, hbl]; omega
      refine S_round (u + 1, k + 1) (by show padLen s.length - (k + 1) < padLen s.length - k; omega) hkl (.cons rfl (.cons rfl (.nil _))) ?_
      show [(u + 1, some (Box.cells ((s ++ [128] ++ List.replicate k (0 : UInt8)).map byteAV ++ [.int .u8 0]) _))] = [bB (u + 1) (s ++ [128] ++ List.replicate (k + 1) 0) _]
      rw [List.replicate_succ', ← List.append_assoc]
      simp only [bB, List.map_append, List.map_cons, List.map_nil]
      rfl
    have h56 : (s.length + 1 + k) % 64 = 56 := by
      have : ((((s.length + 1 + k : Nat) : Int)).tmod 64) = 56 := h56
      rw [hmod] at this; omega
    have hkl : k = padLen s.length := by unfold padLen at *; omega
    subst hkl
    obtain ⟨base, hbase⟩ : ∃ base, base = s ++ [128] ++ List.replicate (padLen s.length) (0 : UInt8) := ⟨_, rfl⟩
    have hbl' : base.length = s.length + 1 + padLen s.length := by rw [hbase]; exact hbl _
    have hpd : padded s = base ++ be8 (8 * s.length) := by rw [hbase]; rfl
    have hw8 : IntKind.i64.wrap (8 * (s.length : Int)) = ((8 * s.length : Nat) : Int) := w64 (by omega) (by omega)
    refine ab 1000 rfl trivial ?_
    refine S_while (α := Nat × Nat) (fun (u, j) => [(3, .ms 0 u 0 (base.length + j) 1 false), (4, .int .i64 (8 * s.length : Nat)), (5, .int .i64 (7 - (j : Int)))]) (fun (u, j) => [bB u (base ++ (be8 (8 * s.length)).take j) ⟨false, some 5⟩])
      (fun (u, j) => j ≤ 8) (fun (u, j) => 8 - j) (u, 0)
      (Nat.zero_le _) (.cons (by rw [hbl']; rfl) (.cons (ai64 (by omega) (by omega)) (.cons rfl (.nil _)))) (by rw [hbase]; simp) ?_
    rintro ⟨u, j⟩ hj
    refine ab 1000 rfl trivial ?_
    refine S_dec rfl (fun hlt => ?_) (fun hlt => ?_)
    · have hj8 : j < 8 := by omega
      have hw3 : IntKind.i64.wrap (8 * (7 - (j : Int))) = ((8 * (7 - j) : Nat) : Int) := w64 (by omega) (by omega)
      refine ab 1000 rfl trivial ?_
      refine S_pure rfl rfl rfl (Pow2_ok (8 * (7 - j)) (by omega)) (.cons (by show Frz false _ (AV.int .i64 (IntKind.i64.wrap (8 * (7 - (j : Int))))) _; rw [hw3]; exact .refl .int) (.nil _)) ?_
      have hp0 : 0 < 2 ^ (8 * (7 - j)) := Nat.two_pow_pos _
      have e256 : (2 : Nat) ^ (8 * (7 - j)) = 256 ^ (7 - j) := by rw [show (256 : Nat) = 2 ^ 8 from rfl, ← Nat.pow_mul]
      have hval : AV.int .u8 (IntKind.u8.wrap ((IntKind.i64.wrap (((8 * s.length : Nat) : Int).tdiv ((2 ^ (8 * (7 - j)) : Nat) : Int))).tmod 256)) = byteAV (UInt8.ofNat (8 * s.length / 256 ^ (7 - j) % 256)) := by
        have hd : IntKind.i64.wrap (((8 * s.length : Nat) : Int).tdiv ((2 ^ (8 * (7 - j)) : Nat) : Int)) = ((8 * s.length / 256 ^ (7 - j) : Nat) : Int) := by
          rw [← e256]
          exact w64 rfl (by have := Nat.div_le_self (8 * s.length) (2 ^ (8 * (7 - j))); omega)
        rw [hd]
        show AV.int .u8 (IntKind.u8.wrap ((8 * s.length / 256 ^ (7 - j) % 256 : Nat) : Int)) = _
        rw [wrap_low rfl]
        exact byteAV_of (by simp [IntKind.bits]) (Nat.mod_lt _ (by decide))
      refine ab 1000 rfl ⟨?_, ?_, ?_, rfl, rfl, ?_, ?_, rfl, by decide, by omega, trivial⟩ ?_
      · show base.length + j + 1 ≤ 9223372036854775807; omega
      · show (base.length + j + 1) * 1 ≤ 140737488355328; omega
      · show 0 + (base.length + j) * 1 = ((base ++ (be8 (8 * s.length)).take j).map byteAV).length
        simp [be8]; omega
      · exact allOne_mem (cs := [.int .u8 _]) rfl
      · exact allOne_mem (cs := [.int .u8 _]) rfl
      refine S_round (u + 1, j + 1) (by show 8 - (j + 1) < 8 - j; omega) hj8 (.cons rfl (.cons rfl (.cons ?_ (.nil _)))) ?_
      · show AV.int .i64 (IntKind.i64.wrap (7 - (j : Int) - 1)) = .int .i64 (7 - ((j + 1 : Nat) : Int))
        exact ai64i (by omega) (by omega)
      · show [(u + 1, some (Box.cells ((base ++ (be8 (8 * s.length)).take j).map byteAV ++ [AV.int .u8 (IntKind.u8.wrap ((IntKind.i64.wrap (((8 * s.length : Nat) : Int).tdiv ((2 ^ (8 * (7 - j)) : Nat) : Int))).tmod 256))]) _))] = [bB (u + 1) (base ++ (be8 (8 * s.length)).take (j + 1)) _]
        rw [hval]
        have ht : (be8 (8 * s.length)).take (j + 1) = (be8 (8 * s.length)).take j ++ [UInt8.ofNat (8 * s.length / 256 ^ (7 - j) % 256)] := by
          rw [List.take_succ_eq_append_getElem (by simp [be8]; omega)]
          simp [be8]
        rw [ht]
        simp only [bB, List.map_append, List.map_cons, List.map_nil, List.append_assoc]
        rfl
    have hj8 : j = 8 := by omega
    subst hj8
    have htake : base ++ (be8 (8 * s.length)).take 8 = padded s := by rw [hpd, List.take_of_length_le (by simp [be8])]
    have hPl : (padded s).length = base.length + 8 := by rw [hpd, List.length_append]; simp [be8]
    have hPm := padded_mod s
    have hPb : (padded s).length ≤ 140737488355328 := by rw [padded_len]; omega
    refine S_heap [bB u (padded s) ⟨false, some 5⟩] (by rw [← htake]) ?_
    refine ab 1000 rfl trivial ?_
    refine S_pure rfl rfl rfl Constants_ok (.nil _) ?_
    refine ab 1000 rfl trivial ?_
    refine S_callf [] Firsts_ok rfl (.nil _) (Part.mk' (es := []) rfl rfl (.nil _)) rfl rfl ?_ (by rintro y σ1 ⟨h1, _⟩; cases h1)
    rintro y σ1 ⟨h1, rfl⟩
    cases h1
    refine ⟨.ms 1 0 0 8 1 true, [iB 0 hTab], .cons (.live (.cells (Rns.free (ints_any _)))) (.nil _), .ms rfl, ?_⟩
    refine S_heap [bB u (padded s) ⟨false, some 5⟩, iB 0 hTab] rfl ?_
    refine ab 1000 rfl trivial ?_
    refine S_dead ?_ ⟨_, _, .inl rfl⟩
    refine S_dead ?_ ⟨_, _, .inl rfl⟩
    refine S_dead ?_ ⟨_, _, .inl rfl⟩
    obtain ⟨P, hP⟩ : ∃ P, P = padded s := ⟨_, rfl⟩
    rw [← hP] at hPl hPm hPb ⊢
    have hHs : hashOf s = blocks (P.length / 64) hTab P := by rw [hP]; rfl
    refine S_while (α := Nat × List Nat × Nat × Nat × Nat) (fun (m, h, a, b, c) => [(3, .ms 0 u 0 P.length 1 false), (6, .sl true true 1 (ints kTab)), (7, .ms 1 0 0 8 1 true), (8, .int .i64 (64 * m : Nat))])
      (fun (m, h, a, b, c) => [bB u P ⟨false, some 5⟩, iB 0 h, (a, none), (b, none), (c, none)])
      (fun (m, h, a, b, c) => 64 * m ≤ P.length ∧ h.length = 8 ∧ W32 h ∧ blocks (P.length / 64 - m) h (P.drop (64 * m)) = hashOf s) (fun (m, h, a, b, c) => P.length - 64 * m) (0, hTab, 0, 0, 0)
      ⟨Nat.zero_le _, rfl, by show ∀ x ∈ hTab, x < M32; decide +kernel, by rw [hHs]; rfl⟩ (.cons (by rw [hPl]; rfl) (.cons rfl (.cons rfl (.cons rfl (.nil _))))) rfl ?_
    rintro ⟨m, h, a, b, c⟩ ⟨hm, hhl, hh32, hN⟩
    refine ab 1000 rfl trivial ?_
    refine S_dec rfl (fun hlt => ?_) (fun hlt => ?_)
    · have hm64 : 64 * m + 64 ≤ P.length := by omega
      obtain ⟨p, hp⟩ : ∃ p, p = P.drop (64 * m) := ⟨_, rfl⟩
      have hpl : 64 ≤ p.length := by rw [hp, List.length_drop]; omega
      have hpg : ∀ i, i < 64 → P.getD (64 * m + i) 0 = p.getD i 0 := by
        intro i hi
        rw [hp]
        simp [List.getD]
      refine ab 1000 rfl trivial ?_
      refine S_ghostF (t := 9) 1 ⟨false, none⟩ rfl rfl ⟨_, _, .inl rfl⟩ ?_
      refine S_while (α := Nat × List Nat × Nat) (fun (t, w, x) => [(3, .ms 0 u 0 P.length 1 false), (6, .sl true true 1 (ints kTab)), (7, .ms 1 0 0 8 1 true), (8, .int .i64 (64 * m : Nat)), (9, .ms 2 x 0 t 1 false), (10, .int .i64 (t : Nat))])
        (fun (t, w, x) => [bB u P ⟨false, some 5⟩, iB 0 h, iB x w, (b, none), (c, none)])
        (fun (t, w, x) => t ≤ 64 ∧ WInv p t w) (fun (t, w, x) => 64 - t) (0, [], a + 1)
        ⟨Nat.zero_le _, rfl, (by intro y hy; cases hy), fun _ => rfl, fun h => absurd h (by decide)⟩ (.cons rfl (.cons rfl (.cons rfl (.cons rfl (.cons rfl (.cons rfl (.nil _))))))) rfl ?_
      rintro ⟨t, w, x⟩ ⟨ht64, hwl, hw32, hw16, hws⟩
      have ht64 : t ≤ 64 := ht64
      refine ab 1000 rfl trivial ?_
      refine S_dec rfl (fun hlt => ?_) (fun hlt => ?_)
      · have ht : t < 64 := by omega
        refine ab 1000 rfl trivial ?_
        refine S_dec rfl (fun hlt => ?_) (fun hlt => ?_)
        · have ht16 : t < 16 := by omega
          have hw0 := hw16 (by omega)
          refine ab 1000 rfl trivial ?_
          refine S_while (α := Nat) (fun j => [(3, .ms 0 u 0 P.length 1 false), (6, .sl true true 1 (ints kTab)), (7, .ms 1 0 0 8 1 true), (8, .int .i64 (64 * m : Nat)), (9, .ms 2 x 0 t 1 false), (10, .int .i64 (t : Nat)), (11, .int .i64 (accW p (4 * t) j : Nat)), (12, .int .i64 (j : Nat))])
            (fun j => [bB u P ⟨false, some 5⟩, iB 0 h, iB x w, (b, none), (c, none)]) (fun j => j ≤ 4) (fun j => 4 - j) 0
            (Nat.zero_le _) (.cons rfl (.cons rfl (.cons rfl (.cons rfl (.cons rfl (.cons rfl (.cons rfl (.cons rfl (.nil _))))))))) rfl ?_
          intro j hj
          refine ab 1000 rfl trivial ?_
          refine S_dec rfl (fun hlt => ?_) (fun hlt => ?_)
          · have hj4 : j < 4 := by omega
            have hacc := accW_lt p (4 * t) j
            have hap : 256 ^ j ≤ 256 ^ 3 := Nat.pow_le_pow_right (by decide) (by omega)
            have hi1 : IntKind.i64.wrap (4 * (t : Int)) = ((4 * t : Nat) : Int) := w64 (by omega) (by omega)
            have hi2 : IntKind.i64.wrap (((64 * m : Nat) : Int) + ((4 * t : Nat) : Int)) = ((64 * m + 4 * t : Nat) : Int) := w64 (by omega) (by omega)
            have hi3 : IntKind.i64.wrap (((64 * m + 4 * t : Nat) : Int) + (j : Int)) = ((64 * m + (4 * t + j) : Nat) : Int) := w64 (by omega) (by omega)
            refine ab 1000 rfl trivial ?_
            refine S_index .top rfl rfl rfl ⟨rfl, by rw [hi1, hi2, hi3]; omega, by rw [hi1, hi2, hi3]; omega, trivial⟩ ?_
            refine S_load (byteAV (p.getD (4 * t + j) 0)) rfl rfl rfl ⟨rfl, ?_, trivial⟩ ?_
            · show ((P.map byteAV).drop (offN 0 (mulN (IntKind.i64.wrap (IntKind.i64.wrap (((64 * m : Nat) : Int) + IntKind.i64.wrap (4 * (t : Int))) + (j : Int))).toNat 1)))[0]? = _
              rw [hi1, hi2, hi3, offN_eq, mulN_eq, Int.toNat_natCast, Nat.mul_one, Nat.zero_add, bytes_ld (by omega), hpg _ (by omega)]
            refine ab 1000 rfl trivial ?_
            have hb8 := (p.getD (4 * t + j) 0).toNat_lt
            refine S_round (j + 1) (by show 4 - (j + 1) < 4 - j; omega) hj4 (.cons rfl (.cons rfl (.cons rfl (.cons rfl (.cons rfl (.cons rfl (.cons ?_ (.cons (ai64 rfl (by omega)) (.nil _))))))))) rfl
            show AV.int .i64 (IntKind.i64.wrap (IntKind.i64.wrap (256 * ((accW p (4 * t) j : Nat) : Int)) + IntKind.i64.wrap (((p.getD (4 * t + j) 0).toNat : Nat) : Int))) = .int .i64 (accW p (4 * t) (j + 1) : Nat)
            rw [w64 (x := 256 * ((accW p (4 * t) j : Nat) : Int)) (k := 256 * accW p (4 * t) j) (by omega) (by omega), w64 (k := (p.getD (4 * t + j) 0).toNat) rfl (by omega)]
            exact ai64 (by rw [accW]; omega) (by rw [accW]; omega)
          · have hj4 : j = 4 := by omega
            subst hj4
            have hacc := accW_lt p (4 * t) 4
            refine ab 1000 rfl ⟨?_, ?_, ?_, rfl, rfl, ?_, ?_, rfl, trivial⟩ ?_
            · show t + 1 ≤ 9223372036854775807; omega
            · show (t + 1) * 8 ≤ 140737488355328; omega
            · show 0 + t * 1 = (ints w).length; rw [ints_len]; omega
            · exact allOne_mem (cs := [.int .i64 _]) rfl
            · exact allOne_mem (cs := [.int .i64 _]) rfl
            have hnext : (words p).take (t + 1) = w ++ [accW p (4 * t) 4] := by
              rw [List.take_succ_eq_append_getElem (by rw [words_len]; exact ht16), words_get p ht16, ← hw0]
            refine S_round (t + 1, w ++ [accW p (4 * t) 4], x + 1) (by show 64 - (t + 1) < 64 - t; omega) ⟨by omega, by simp [hwl], hw32.app (.one hacc), fun _ => hnext.symm, fun h => ?_⟩ (.cons rfl (.cons rfl (.cons rfl (.cons rfl (.cons rfl (.cons (ai64 rfl (by omega)) (.nil _))))))) ?_
            · have h15 : t + 1 = 16 := by omega
              rw [← hnext, h15, List.take_of_length_le (by rw [words_len]; exact Nat.le_refl _)]; rfl
            · show [bB u P _, iB 0 h, (x + 1, some (Box.cells (ints w ++ [.int .i64 (accW p (4 * t) 4 : Nat)]) ⟨false, none⟩)), (b, none), (c, none)] = _
              simp [iB, ints]
        · have ht16 : 16 ≤ t := by omega
          have hi15 : IntKind.i64.wrap ((t : Int) - 15) = ((t - 15 : Nat) : Int) := w64 (by omega) (by omega)
          have hi2 : IntKind.i64.wrap ((t : Int) - 2) = ((t - 2 : Nat) : Int) := w64 (by omega) (by omega)
          have hi16 : IntKind.i64.wrap ((t : Int) - 16) = ((t - 16 : Nat) : Int) := w64 (by omega) (by omega)
          have hi7 : IntKind.i64.wrap ((t : Int) - 7) = ((t - 7 : Nat) : Int) := w64 (by omega) (by omega)
          have g15 : 0 ≤ IntKind.i64.wrap ((t : Int) - 15) ∧ IntKind.i64.wrap ((t : Int) - 15) < (t : Int) ∧ t - 15 < t := by rw [hi15]; omega
          have g2 : 0 ≤ IntKind.i64.wrap ((t : Int) - 2) ∧ IntKind.i64.wrap ((t : Int) - 2) < (t : Int) ∧ t - 2 < t := by rw [hi2]; omega
          have g16 : 0 ≤ IntKind.i64.wrap ((t : Int) - 16) ∧ IntKind.i64.wrap ((t : Int) - 16) < (t : Int) ∧ t - 16 < t := by rw [hi16]; omega
          have g7 : 0 ≤ IntKind.i64.wrap ((t : Int) - 7) ∧ IntKind.i64.wrap ((t : Int) - 7) < (t : Int) ∧ t - 7 < t := by rw [hi7]; omega
          have k1 : t + 1 ≤ 9223372036854775807 ∧ (t + 1) * 8 ≤ 140737488355328 ∧ 0 + t * 1 = (ints w).length := by rw [ints_len]; omega
          have k2 : 64 - (t + 1) < 64 - t ∧ t + 1 ≤ 64 ∧ ¬ t + 1 ≤ 16 ∧ (w ++ [wNext w]).length = t + 1 := by rw [List.length_append]; simp only [List.length_cons, List.length_nil]; omega
          have k3 : AV.int .i64 (IntKind.i64.wrap ((t : Int) + 1)) = .int .i64 ((t + 1 : Nat) : Int) := ai64 rfl (by omega)
          have k4 : 64 - t = (64 - (t + 1)) + 1 := by omega
          have ld : ∀ (i : Int) (k : Nat), i = (k : Int) → k < t → ((ints w).drop (offN 0 (mulN i.toNat 1)))[0]? = some (.int .i64 (w.getD k 0 : Nat)) := by
            intro i k hi hk
            rw [hi, offN_eq, mulN_eq, Int.toNat_natCast, Nat.mul_one, Nat.zero_add, ints_ld (by omega)]
          obtain ⟨X, hX⟩ : ∃ X, X = w.getD (t - 15) 0 := ⟨_, rfl⟩
          obtain ⟨Y, hY⟩ : ∃ Y, Y = w.getD (t - 2) 0 := ⟨_, rfl⟩
          obtain ⟨Z, hZ⟩ : ∃ Z, Z = w.getD (t - 16) 0 := ⟨_, rfl⟩
          obtain ⟨V, hV⟩ : ∃ V, V = w.getD (t - 7) 0 := ⟨_, rfl⟩
          have hX32 : X < M32 := by rw [hX]; exact hw32.getD _
          have hY32 : Y < M32 := by rw [hY]; exact hw32.getD _
          have hZ32 : Z < M32 := by rw [hZ]; exact hw32.getD _
          have hV32 : V < M32 := by rw [hV]; exact hw32.getD _
          refine ab 1000 rfl trivial ?_
          refine S_draw 12 [] [.top, .int .i64 (X : Nat), .top, .int .i64 (Y : Nat)] rfl rfl rfl rfl ⟨rfl, rfl, rfl, rfl, g15.1, g15.2.1, rfl, (by rw [hX]; exact ld _ _ hi15 g15.2.2), rfl, rfl, rfl, rfl, g2.1, g2.2.1, rfl, (by rw [hY]; exact ld _ _ hi2 g2.2.2), rfl, rfl, trivial⟩ ?_
          refine ab 1000 rfl trivial ?_
          refine S_pure rfl rfl rfl (Right_ok X 7 hX32 (by decide) (by decide)) (.cons (.refl .int) (.cons (.refl .int) (.nil _))) ?_
          refine ab 1000 rfl trivial ?_
          refine S_pure rfl rfl rfl (Right_ok X 18 hX32 (by decide) (by decide)) (.cons (.refl .int) (.cons (.refl .int) (.nil _))) ?_
          refine ab 1000 rfl ⟨by decide, trivial⟩ ?_
          have hx8 : IntKind.i64.wrap ((X : Int).tdiv 8) = ((X / 8 : Nat) : Int) := div32 (k := 8) hX32
          have hs0 : Calc cx 82 [.sl true true 1 (ints [rotr X 7, rotr X 18, X / 8])] (.int .i64 (sig0 X : Nat)) := by
            have := xor_ok (st := true) (fl := true) [rotr X 7, rotr X 18, X / 8] (by intro y hy; simp at hy; rcases hy with rfl | rfl | rfl; exact rotr_lt _ hX32; exact rotr_lt _ hX32; exact div_lt _ hX32) (by simp)
            rwa [xorL_three (rotr_lt _ hX32) (rotr_lt _ hX32) (div_lt _ hX32)] at this
          refine S_pure rfl rfl rfl hs0 (.cons ?_ (.nil _)) ?_
          · show Frz false _ (.sl true true 1 [.int .i64 (rotr X 7 : Nat), .int .i64 (rotr X 18 : Nat), .int .i64 (IntKind.i64.wrap ((X : Int).tdiv 8))]) _
            rw [hx8]; exact .refl (.sl (fun h => by cases h) (ints_any [rotr X 7, rotr X 18, X / 8]))
          refine ab 1000 rfl trivial ?_
          refine S_pure rfl rfl rfl (Right_ok Y 17 hY32 (by decide) (by decide)) (.cons (.refl .int) (.cons (.refl .int) (.nil _))) ?_
          refine ab 1000 rfl trivial ?_
          refine S_pure rfl rfl rfl (Right_ok Y 19 hY32 (by decide) (by decide)) (.cons (.refl .int) (.cons (.refl .int) (.nil _))) ?_
          refine ab 1000 rfl ⟨by decide, trivial⟩ ?_
          have hy10 : IntKind.i64.wrap ((Y : Int).tdiv 1024) = ((Y / 1024 : Nat) : Int) := div32 (k := 1024) hY32
          have hs1 : Calc cx 82 [.sl true true 1 (ints [rotr Y 17, rotr Y 19, Y / 1024])] (.int .i64 (sig1 Y : Nat)) := by
            have := xor_ok (st := true) (fl := true) [rotr Y 17, rotr Y 19, Y / 1024] (by intro y hy; simp at hy; rcases hy with rfl | rfl | rfl; exact rotr_lt _ hY32; exact rotr_lt _ hY32; exact div_lt _ hY32) (by simp)
            rwa [xorL_three (rotr_lt _ hY32) (rotr_lt _ hY32) (div_lt _ hY32)] at this
          refine S_pure rfl rfl rfl hs1 (.cons ?_ (.nil _)) ?_
          · show Frz false _ (.sl true true 1 [.int .i64 (rotr Y 17 : Nat), .int .i64 (rotr Y 19 : Nat), .int .i64 (IntKind.i64.wrap ((Y : Int).tdiv 1024))]) _
            rw [hy10]; exact .refl (.sl (fun h => by cases h) (ints_any [rotr Y 17, rotr Y 19, Y / 1024]))
          refine ab 1000 rfl trivial ?_
          obtain ⟨hsum, hsle⟩ := sum4 hZ32 (sig0_lt hX32) hV32 (sig1_lt hY32)
          have hnx : wNext w = (Z + sig0 X + V + sig1 Y) % M32 := by rw [wNext, hwl, hX, hY, hZ, hV]
          refine S_draw 18 [] [.top, .int .i64 (Z : Nat), .top, .int .i64 (V : Nat), .int .i64 (wNext w : Nat)] rfl rfl rfl rfl ⟨rfl, rfl, rfl, rfl, rfl, g16.1, g16.2.1, rfl, (by rw [hZ]; exact ld _ _ hi16 g16.2.2), rfl, rfl, rfl, rfl, rfl, rfl, g7.1, g7.2.1, rfl, (by rw [hV]; exact ld _ _ hi7 g7.2.2), rfl, rfl, rfl, ⟨_, (by rw [hnx]; exact Wrap_ok (Z + sig0 X + V + sig1 Y) hsle), .cons (by show Frz false _ (.int .i64 (IntKind.i64.wrap (IntKind.i64.wrap (IntKind.i64.wrap ((Z : Int) + ((sig0 X : Nat) : Int)) + (V : Int)) + ((sig1 Y : Nat) : Int)))) _; rw [hsum]; exact .refl .int) (.nil _)⟩, rfl, trivial⟩ ?_
          refine ab 1000 rfl ⟨k1.1, k1.2.1, k1.2.2, rfl, rfl, allOne_mem (cs := [.int .i64 _]) rfl, allOne_mem (cs := [.int .i64 _]) rfl, rfl, trivial⟩ ?_
          refine S_round (t + 1, w ++ [wNext w], x + 1) k2.1 ⟨k2.2.1, k2.2.2.2, hw32.app (.one (wNext_lt w)), fun h => absurd h k2.2.2.1, fun _ => ?_⟩ (.cons rfl (.cons rfl (.cons rfl (.cons rfl (.cons rfl (.cons k3 (.nil _))))))) ?_
          · have := hws ht16
            rw [k4, sched] at this
            exact this
          · show [bB u P _, iB 0 h, (x + 1, some (Box.cells (ints w ++ [.int .i64 (wNext w : Nat)]) ⟨false, none⟩)), (b, none), (c, none)] = _
            simp [iB, ints]
      · have ht : t = 64 := by omega
        subst ht
        have hW : w = schedOf p := hws (by decide)
        have hWl : w.length = 64 := hwl
        refine go (M := [137]) 1000 rfl ⟨by decide, ?_, .inl (by decide), ?_, rfl, rfl, fun y hy => ints_one h y (List.mem_of_mem_take hy), ?_, rfl, rfl, trivial⟩ ?_
        · show (0 + 8) * 8 ≤ 140737488355328; decide
        · exact Nat.zero_le _
        · show 0 + 8 * 1 ≤ (ints h).length; rw [ints_len]; omega
        refine S_drop (id := 3) rfl ?_ ⟨_, _, .inl rfl⟩
        refine S_heap [bB u P ⟨false, some 5⟩, iB 0 h, iB x w, (b + 1, none), iB (c + 1) h] ?_ ?_
        · show [_, _, _, (b + 1, none), (c + 1, some (Box.cells ((ints h).take 8) ⟨false, none⟩))] = _
          rw [List.take_of_length_le (by rw [ints_len]; omega)]; rfl
        refine S_freeze1 (t := 17) (id := 4) (len := 8) rfl rfl (by rw [ints_len]; exact hhl) (ints_one h) (ints_any h) ⟨_, _, .inl rfl⟩ ?_
        refine S_while (α := Nat × List Nat × Bool × Bool) (fun (t, v, st, fl) => [(3, .ms 0 u 0 P.length 1 false), (6, .sl true true 1 (ints kTab)), (7, .ms 1 0 0 8 1 true), (8, .int .i64 (64 * m : Nat)), (9, .ms 2 x 0 64 1 false), (17, .sl st fl 1 (ints v)), (18, .int .i64 (t : Nat))])
          (fun (t, v, st, fl) => [bB u P ⟨false, some 5⟩, iB 0 h, iB x w, (b + 1, none), (c + 1, none)])
          (fun (t, v, st, fl) => t ≤ 64 ∧ v.length = 8 ∧ W32 v ∧ rounds (64 - t) t w v = rounds 64 0 w h) (fun (t, v, st, fl) => 64 - t) (0, h, false, false)
          ⟨Nat.zero_le _, hhl, hh32, rfl⟩ (.cons rfl (.cons rfl (.cons rfl (.cons rfl (.cons rfl (.cons rfl (.cons rfl (.nil _)))))))) rfl ?_
        rintro ⟨t, v, st, fl⟩ ⟨ht64, hvl, hv32, hvN⟩
        have ht64 : t ≤ 64 := ht64
        have hvl : v.length = 8 := hvl
        refine ab 1000 rfl trivial ?_
        refine S_dec rfl (fun hlt => ?_) (fun hlt => ?_)
        · have ht : t < 64 := by omega
          obtain ⟨v0, v1, v2, v3, v4, v5, v6, v7, rfl⟩ : ∃ v0 v1 v2 v3 v4 v5 v6 v7, v = [v0, v1, v2, v3, v4, v5, v6, v7] := by
            match v, hvl with
            | [v0, v1, v2, v3, v4, v5, v6, v7], _ => exact ⟨_, _, _, _, _, _, _, _, rfl⟩
          have q0 : v0 < M32 := hv32 _ (by simp)
          have q1 : v1 < M32 := hv32 _ (by simp)
          have q2 : v2 < M32 := hv32 _ (by simp)
          have q3 : v3 < M32 := hv32 _ (by simp)
          have q4 : v4 < M32 := hv32 _ (by simp)
          have q5 : v5 < M32 := hv32 _ (by simp)
          have q6 : v6 < M32 := hv32 _ (by simp)
          have q7 : v7 < M32 := hv32 _ (by simp)
          have qn : 4294967295 - v4 < M32 := by simp only [M32]; omega
          obtain ⟨kt, hkt⟩ : ∃ kt, kt = kTab.getD t 0 := ⟨_, rfl⟩
          obtain ⟨wt, hwt⟩ : ∃ wt, wt = w.getD t 0 := ⟨_, rfl⟩
          have qk : kt < M32 := by rw [hkt]; exact kTab32.getD _
          have qw : wt < M32 := by rw [hwt]; exact hw32.getD _
          have hkg : (ints kTab)[(t : Int).toNat]? = some (.int .i64 (kt : Nat)) := by rw [Int.toNat_natCast, hkt]; exact ints_get (by show t < 64; exact ht)
          have hwg : ((ints w).drop (offN 0 (mulN (t : Int).toNat 1)))[0]? = some (.int .i64 (wt : Nat)) := by
            rw [offN_eq, mulN_eq, Int.toNat_natCast, Nat.mul_one, Nat.zero_add, hwt, ints_ld (by omega)]
          have hnw : IntKind.i64.wrap (4294967295 - (v4 : Int)) = ((4294967295 - v4 : Nat) : Int) := w64 (by simp only [M32] at q4; omega) (by omega)
          have t1 : 0 ≤ (t : Int) ∧ (t : Int) < 64 := by omega
          have t2 : 64 - (t + 1) < 64 - t ∧ t + 1 ≤ 64 := by omega
          have t3 : AV.int .i64 (IntKind.i64.wrap ((t : Int) + 1)) = .int .i64 ((t + 1 : Nat) : Int) := ai64 rfl (by omega)
          have t4 : 64 - t = (64 - (t + 1)) + 1 := by omega
          have xor2c : ∀ {a b : Nat}, a < M32 → b < M32 → Calc cx 82 [.sl true true 1 (ints [a, b])] (.int .i64 (a ^^^ b : Nat)) := fun {a b} ha hb => by
            have := xor_ok (st := true) (fl := true) [a, b] (by intro y hy; simp at hy; rcases hy with rfl | rfl; exact ha; exact hb) (by simp)
            rwa [xorL_two ha hb] at this
          have xor3c : ∀ {a b c : Nat}, a < M32 → b < M32 → c < M32 → Calc cx 82 [.sl true true 1 (ints [a, b, c])] (.int .i64 (a ^^^ b ^^^ c : Nat)) := fun {a b c} ha hb hc => by
            have := xor_ok (st := true) (fl := true) [a, b, c] (by intro y hy; simp at hy; rcases hy with rfl | rfl | rfl; exact ha; exact hb; exact hc) (by simp)
            rwa [xorL_three ha hb hc] at this
          refine ab 1000 rfl trivial ?_
          have z0 : (0 : Int) ≤ 0 := Int.le_refl _
          have z1 : (0 : Int) ≤ 1 := by decide
          have z2 : (0 : Int) ≤ 2 := by decide
          have z3 : (0 : Int) ≤ 3 := by decide
          have z4 : (0 : Int) ≤ 4 := by decide
          have z5 : (0 : Int) ≤ 5 := by decide
          have z6 : (0 : Int) ≤ 6 := by decide
          have z7 : (0 : Int) ≤ 7 := by decide
          have i2 : ∀ {σ : Heap} {a b : Nat}, Frzs σ [.int .i64 (a : Nat), .int .i64 (b : Nat)] [.int .i64 (a : Nat), .int .i64 (b : Nat)] := .cons (.refl .int) (.cons (.refl .int) (.nil _))
          have sl3 : ∀ {σ : Heap} {a b c : Nat}, Frzs σ [.sl true true 1 (ints [a, b, c])] [.sl true true 1 (ints [a, b, c])] := fun {σ a b c} => .cons (.refl (.sl (fun h => by cases h) (ints_any _))) (.nil _)
          have sl2 : ∀ {σ : Heap} {a b : Nat}, Frzs σ [.sl true true 1 (ints [a, b])] [.sl true true 1 (ints [a, b])] := fun {σ a b} => .cons (.refl (.sl (fun h => by cases h) (ints_any _))) (.nil _)
          refine S_draw 8 [] [.int .i64 (v0 : Nat), .int .i64 (v4 : Nat)] rfl rfl rfl rfl ⟨rfl, rfl, z0, rfl, rfl, rfl, rfl, z4, rfl, rfl, rfl, rfl, trivial⟩ ?_
          obtain ⟨ch, hch⟩ : ∃ ch, ch = (v4 &&& v5) ^^^ ((4294967295 - v4) &&& v6) := ⟨_, rfl⟩
          have qch : ch < M32 := by rw [hch]; exact xor_lt (and_lt q4) (and_lt qn)
          refine ab 1000 rfl trivial ?_
          refine S_draw 14 [] [.int .i64 (v5 : Nat), .int .i64 (v4 &&& v5 : Nat), .int .i64 (v6 : Nat), .int .i64 ((4294967295 - v4) &&& v6 : Nat), .int .i64 (ch : Nat)] rfl rfl rfl rfl
            ⟨rfl, rfl, rfl, z5, rfl, rfl, ⟨_, And_ok v4 v5 q4 q5, i2⟩, rfl, rfl, rfl, rfl, z6, rfl, rfl, ⟨_, And_ok (4294967295 - v4) v6 qn q6, .cons (by show Frz false _ (.int .i64 (IntKind.i64.wrap (4294967295 - (v4 : Int)))) _; rw [hnw]; exact .refl .int) (.cons (.refl .int) (.nil _))⟩, rfl, ⟨_, (by rw [hch]; exact xor2c (and_lt q4) (and_lt qn)), sl2⟩, rfl, trivial⟩ ?_
          refine ab 1000 rfl trivial ?_
          obtain ⟨hs5, hs5l⟩ := sum5 q7 (Sig1_lt q4) qch qk qw
          obtain ⟨U, hU⟩ : ∃ U, U = (v7 + Sig1 v4 + ch + kt + wt) % M32 := ⟨_, rfl⟩
          have qU : U < M32 := by rw [hU]; exact mod_lt _
          refine S_draw 26 [] [.int .i64 (v7 : Nat), .int .i64 (rotr v4 6 : Nat), .int .i64 (rotr v4 11 : Nat), .int .i64 (rotr v4 25 : Nat), .int .i64 (Sig1 v4 : Nat), .int .i64 (kt : Nat), .top, .int .i64 (wt : Nat), .int .i64 (U : Nat)] rfl rfl rfl rfl
            ⟨rfl, rfl, z7, rfl, rfl, rfl, ⟨_, Right_ok v4 6 q4 (by decide) (by decide), i2⟩, rfl, ⟨_, Right_ok v4 11 q4 (by decide) (by decide), i2⟩, rfl, ⟨_, Right_ok v4 25 q4 (by decide) (by decide), i2⟩, rfl, ⟨_, xor3c (rotr_lt 6 q4) (rotr_lt 11 q4) (rotr_lt 25 q4), sl3⟩, rfl, rfl, rfl, rfl, rfl, rfl, t1.1, hkg, rfl, rfl, rfl, rfl, rfl, t1.1, t1.2, rfl, hwg, rfl, ⟨_, (by rw [hU]; exact Wrap_ok _ hs5l), .cons (by show Frz false _ (.int .i64 (IntKind.i64.wrap (IntKind.i64.wrap (IntKind.i64.wrap (IntKind.i64.wrap ((v7 : Int) + ((Sig1 v4 : Nat) : Int)) + (ch : Int)) + (kt : Int)) + (wt : Int)))) _; rw [hs5]; exact .refl .int) (.nil _)⟩, rfl, trivial⟩ ?_
          refine ab 1000 rfl trivial ?_
          obtain ⟨mo, hmo⟩ : ∃ mo, mo = (v0 &&& v1) ^^^ (v0 &&& v2) ^^^ (v1 &&& v2) := ⟨_, rfl⟩
          have qmo : mo < M32 := by rw [hmo]; exact xor_lt (xor_lt (and_lt q0) (and_lt q0)) (and_lt q1)
          refine S_draw 20 [] [.int .i64 (v1 : Nat), .int .i64 (v0 &&& v1 : Nat), .int .i64 (v2 : Nat), .int .i64 (v0 &&& v2 : Nat), .int .i64 (v1 : Nat), .int .i64 (v2 : Nat), .int .i64 (v1 &&& v2 : Nat), .int .i64 (mo : Nat)] rfl rfl rfl rfl
            ⟨rfl, rfl, rfl, z1, rfl, rfl, ⟨_, And_ok v0 v1 q0 q1, i2⟩, rfl, rfl, rfl, z2, rfl, rfl, ⟨_, And_ok v0 v2 q0 q2, i2⟩, rfl, rfl, z1, rfl, rfl, rfl, rfl, z2, rfl, rfl, ⟨_, And_ok v1 v2 q1 q2, i2⟩, rfl, ⟨_, (by rw [hmo]; exact xor3c (and_lt q0) (and_lt q0) (and_lt q1)), sl3⟩, rfl, trivial⟩ ?_
          refine ab 1000 rfl trivial ?_
          refine S_pure rfl rfl rfl (Right_ok v0 2 q0 (by decide) (by decide)) i2 ?_
          refine ab 1000 rfl trivial ?_
          refine S_pure rfl rfl rfl (Right_ok v0 13 q0 (by decide) (by decide)) i2 ?_
          refine ab 1000 rfl trivial ?_
          refine S_pure rfl rfl rfl (Right_ok v0 22 q0 (by decide) (by decide)) i2 ?_
          refine ab 1000 rfl trivial ?_
          refine S_pure rfl rfl rfl (xor3c (rotr_lt 2 q0) (rotr_lt 13 q0) (rotr_lt 22 q0)) sl3 ?_
          have hsm := (sum2 (Z := Sig0 v0) (a := mo) (Sig0_lt q0) (lt2 qmo)).1
          have qsm : Sig0 v0 + mo < M32 + M32 := Nat.add_lt_add (Sig0_lt q0) qmo
          refine ab 1000 rfl trivial ?_
          refine S_weak (fr' := [(3, .ms 0 u 0 P.length 1 false), (6, .sl true true 1 (ints kTab)), (7, .ms 1 0 0 8 1 true), (8, .int .i64 (64 * m : Nat)), (9, .ms 2 x 0 64 1 false), (17, .sl st fl 1 (ints [v0, v1, v2, v3, v4, v5, v6, v7])), (18, .int .i64 (t : Nat)), (22, .int .i64 (U : Nat)), (24, .int .i64 (Sig0 v0 + mo : Nat))]) (.cons rfl (.cons rfl (.cons rfl (.cons rfl (.cons rfl (.cons rfl (.cons rfl (.cons rfl (.cons (congrArg (AV.int .i64) hsm) (.nil _)))))))))) ?_
          obtain ⟨na, hna⟩ : ∃ na, na = (U + (Sig0 v0 + mo)) % M32 := ⟨_, rfl⟩
          obtain ⟨ne, hne⟩ : ∃ ne, ne = (v3 + U) % M32 := ⟨_, rfl⟩
          obtain ⟨hs6, hs6l⟩ := sum2 qU qsm
          obtain ⟨hs7, hs7l⟩ := sum2 q3 (lt2 qU)
          refine S_draw 30 [] [.int .i64 (na : Nat), .int .i64 (v0 : Nat), .int .i64 (v1 : Nat), .int .i64 (v2 : Nat), .int .i64 (v3 : Nat), .int .i64 (ne : Nat), .int .i64 (v4 : Nat), .int .i64 (v5 : Nat), .int .i64 (v6 : Nat)] rfl rfl rfl rfl
            ⟨rfl, rfl, rfl, ⟨_, (by rw [hna]; exact Wrap_ok _ hs6l), .cons (by show Frz false _ (.int .i64 (IntKind.i64.wrap ((U : Int) + ((Sig0 v0 + mo : Nat) : Int)))) _; rw [hs6]; exact .refl .int) (.nil _)⟩, rfl, rfl, z0, rfl, rfl, rfl, rfl, z1, rfl, rfl, rfl, rfl, z2, rfl, rfl, rfl, rfl, z3, rfl, rfl, rfl, rfl, ⟨_, (by rw [hne]; exact Wrap_ok _ hs7l), .cons (by show Frz false _ (.int .i64 (IntKind.i64.wrap ((v3 : Int) + (U : Int)))) _; rw [hs7]; exact .refl .int) (.nil _)⟩, rfl, rfl, z4, rfl, rfl, rfl, rfl, z5, rfl, rfl, rfl, rfl, z6, rfl, rfl, rfl, rfl, trivial⟩ ?_
          refine ab 1000 rfl trivial ?_
          have hro : round [v0, v1, v2, v3, v4, v5, v6, v7] (kt + wt) = [na, v0, v1, v2, ne, v4, v5, v6] := by rw [round_eq, hna, hne, hU, hch, hmo]
          refine S_round (t + 1, [na, v0, v1, v2, ne, v4, v5, v6], true, true) t2.1 ⟨t2.2, rfl, by rw [← hro]; exact round_lt _ hv32, ?_⟩ (.cons rfl (.cons rfl (.cons rfl (.cons rfl (.cons rfl (.cons rfl (.cons t3 (.nil _)))))))) rfl
          rw [t4, rounds, ← hkt, ← hwt, hro] at hvN
          exact hvN
        · have ht : t = 64 := by omega
          subst ht
          have hvE : v = rounds 64 0 w h := hvN
          have hblk : block h p = addW h v := by rw [block, hvE, ← hW]
          have hal := addW_len h v
          refine ab 1000 rfl trivial ?_
          refine S_while (α := Nat) (fun i => [(3, .ms 0 u 0 P.length 1 false), (6, .sl true true 1 (ints kTab)), (7, .ms 1 0 0 8 1 true), (8, .int .i64 (64 * m : Nat)), (17, .sl st fl 1 (ints v)), (25, .int .i64 (i : Nat))])
            (fun i => [bB u P ⟨false, some 5⟩, iB 0 ((addW h v).take i ++ h.drop i), iB x w, (b + 1, none), (c + 1, none)])
            (fun i => i ≤ 8) (fun i => 8 - i) 0 (Nat.zero_le _) (.cons rfl (.cons rfl (.cons rfl (.cons rfl (.cons rfl (.cons rfl (.nil _))))))) (by simp) ?_
          intro i hi
          refine ab 1000 rfl trivial ?_
          refine S_dec rfl (fun hlt => ?_) (fun hlt => ?_)
          · have hi8 : i < 8 := by omega
            have c1 : 0 ≤ (i : Int) ∧ (i : Int) < 8 := by omega
            have c2 : 8 - (i + 1) < 8 - i := by omega
            have c3 : AV.int .i64 (IntKind.i64.wrap ((i : Int) + 1)) = .int .i64 ((i + 1 : Nat) : Int) := ai64 rfl (by omega)
            have htk : ((addW h v).take i).length = i := by rw [List.length_take, hal]; omega
            have hil : i < h.length := by omega
            have hiv : i < v.length := by omega
            have hdr : h.drop i = h.getD i 0 :: h.drop (i + 1) := by
              rw [List.drop_eq_getElem_cons hil]
              simp [List.getD, hil]
            have hld : ((ints ((addW h v).take i ++ h.drop i)).drop (offN 0 (mulN (i : Int).toNat 1)))[0]? = some (.int .i64 (h.getD i 0 : Nat)) := by
              have hgi : ((addW h v).take i ++ h.drop i).getD i 0 = h.getD i 0 := by
                rw [hdr]
                have h2 := getD_mid ((addW h v).take i) (h.getD i 0) (h.drop (i + 1))
                rwa [htk] at h2
              rw [offN_eq, mulN_eq, Int.toNat_natCast, Nat.mul_one, Nat.zero_add, ints_ld (by rw [List.length_append, htk, List.length_drop]; omega), hgi]
            have hvg : (ints v)[(i : Int).toNat]? = some (.int .i64 (v.getD i 0 : Nat)) := by rw [Int.toNat_natCast]; exact ints_get hiv
            obtain ⟨hh1, hhle⟩ := sum2 (hh32.getD i) (lt2 (hv32.getD i))
            have hst : offN 0 (mulN (i : Int).toNat 1) + 1 ≤ (ints ((addW h v).take i ++ h.drop i)).length := by
              rw [offN_eq, mulN_eq, Int.toNat_natCast, ints_len, List.length_append, htk, List.length_drop]; omega
            refine ab 1000 rfl trivial ?_
            refine S_draw 12 [] [.top, .int .i64 (h.getD i 0 : Nat), .int .i64 (v.getD i 0 : Nat), .int .i64 ((h.getD i 0 + v.getD i 0) % M32 : Nat)] rfl rfl rfl rfl
              ⟨rfl, rfl, rfl, rfl, rfl, c1.1, c1.2, rfl, hld, rfl, rfl, rfl, c1.1, hvg, rfl, rfl, ⟨_, Wrap_ok _ hhle, .cons (by show Frz false _ (.int .i64 (IntKind.i64.wrap (((h.getD i 0 : Nat) : Int) + ((v.getD i 0 : Nat) : Int)))) _; rw [hh1]; exact .refl .int) (.nil _)⟩, trivial⟩ ?_
            refine S_index .top rfl rfl rfl ⟨rfl, c1.1, c1.2, trivial⟩ ?_
            refine S_store rfl rfl rfl ⟨rfl, rfl, rfl, hst, trivial⟩ ?_
            refine ab 1000 rfl trivial ?_
            refine S_round (i + 1) c2 hi8 (.cons rfl (.cons rfl (.cons rfl (.cons rfl (.cons rfl (.cons c3 (.nil _))))))) ?_
            show [bB u P _, (0, some (Box.cells (setRange (ints ((addW h v).take i ++ h.drop i)) (offN 0 (mulN (i : Int).toNat 1)) [.int .i64 ((h.getD i 0 + v.getD i 0) % M32 : Nat)]) ⟨false, none⟩)), iB x w, (b + 1, none), (c + 1, none)] = _
            rw [offN_eq, mulN_eq, Int.toNat_natCast, Nat.mul_one, Nat.zero_add]
            have hta : (addW h v).take (i + 1) = (addW h v).take i ++ [(h.getD i 0 + v.getD i 0) % M32] := by
              rw [List.take_succ_eq_append_getElem (by rw [hal]; exact hi8)]
              simp [addW]
            have hsf := set_fill ((addW h v).take i) 0 ((h.getD i 0 + v.getD i 0) % M32) (h.getD i 0) (h.drop (i + 1))
            rw [htk] at hsf
            show [_, (0, some (Box.cells (List.set (ints ((addW h v).take i ++ h.drop i)) i (.int .i64 ((h.getD i 0 + v.getD i 0) % M32 : Nat))) _)), _, _, _] = _
            have hse : List.set (ints ((addW h v).take i ++ h.drop i)) i (.int .i64 ((h.getD i 0 + v.getD i 0) % M32 : Nat)) = ints ((addW h v).take (i + 1) ++ h.drop (i + 1)) := by
              rw [hta, hdr, List.append_assoc, List.singleton_append, ← hsf]
              simp only [ints, List.map_set]
            rw [hse]; rfl
          · have hi8 : i = 8 := by omega
            subst hi8
            have hfin : (addW h v).take 8 ++ h.drop 8 = block h p := by
              rw [List.take_of_length_le (by omega), List.drop_of_length_le (by omega), List.append_nil, hblk]
            rw [hfin]
            have d1 : P.length - 64 * (m + 1) < P.length - 64 * m ∧ 64 * (m + 1) ≤ P.length := by omega
            have d2 : AV.int .i64 (IntKind.i64.wrap (((64 * m : Nat) : Int) + 64)) = .int .i64 ((64 * (m + 1) : Nat) : Int) := ai64 (by omega) (by omega)
            have d3 : P.length / 64 - m = (P.length / 64 - (m + 1)) + 1 := by omega
            have d4 : 64 * m + 64 = 64 * (m + 1) := by omega
            refine S_drop (id := 2) rfl ?_ ⟨_, _, .inl rfl⟩
            refine ab 1000 rfl trivial ?_
            refine S_round (m + 1, block h p, x, b + 1, c + 1) d1.1 ⟨d1.2, block_len _ _, block_lt _ _, ?_⟩ (.cons rfl (.cons rfl (.cons rfl (.cons d2 (.nil _))))) rfl
            rw [← hN, d3, blocks, block_take, List.drop_drop, d4, hp]
    · have hm64 : 64 * m = P.length := by omega
      have hH : h = hashOf s := by
        rw [← hN, show P.length / 64 - m = 0 by omega]; rfl
      subst hH
      obtain ⟨HL, hHL⟩ : ∃ HL, HL = hashOf s := ⟨_, rfl⟩
      have hsh : sha s = HL.flatMap hexW := by rw [hHL]; rfl
      have hHl : HL.length = 8 := by rw [hHL]; exact hashOf_len s
      have hH32 : W32 HL := by rw [hHL]; exact hashOf_lt s
      rw [hsh]
      rw [← hHL] at *
      have hxl : ∀ n, (hexW n).length = 8 := fun n => by simp [hexW]
      have hfl : ∀ l : List Nat, (l.flatMap hexW).length = 8 * l.length := by
        intro l
        induction l with
        | nil => rfl
        | cons a r ih => rw [List.flatMap_cons, List.length_append, hxl, ih, List.length_cons]; omega
      refine ab 1000 rfl trivial ?_
      refine S_while (α := Nat) (fun i => [(7, .ms 1 0 0 8 1 true), (26, .str ((HL.take i).flatMap hexW)), (27, .int .i64 (i : Nat))]) (fun i => [bB u P ⟨false, some 5⟩, iB 0 HL, (a, none), (b, none), (c, none)])
        (fun i => i ≤ 8) (fun i => 8 - i) 0 (Nat.zero_le _) (.cons rfl (.cons rfl (.cons rfl (.nil _)))) rfl ?_
      intro i hi
      refine ab 1000 rfl trivial ?_
      refine S_dec rfl (fun hlt => ?_) (fun hlt => ?_)
      · have hi8 : i < 8 := by omega
        obtain ⟨nn, hnn⟩ : ∃ nn, nn = HL.getD i 0 := ⟨_, rfl⟩
        have qn : nn < M32 := by rw [hnn]; exact hH32.getD i
        have htl : ((HL.take i).flatMap hexW).length = 8 * i := by rw [hfl, List.length_take]; omega
        refine ab 1000 rfl trivial ?_
        refine S_while (α := Nat) (fun j => [(7, .ms 1 0 0 8 1 true), (26, .str ((HL.take i).flatMap hexW ++ (hexW nn).take j)), (27, .int .i64 (i : Nat)), (28, .int .i64 (7 - (j : Int)))]) (fun j => [bB u P ⟨false, some 5⟩, iB 0 HL, (a, none), (b, none), (c, none)])
          (fun j => j ≤ 8) (fun j => 8 - j) 0 (Nat.zero_le _) (.cons rfl (.cons (by simp; rfl) (.cons rfl (.cons rfl (.nil _))))) rfl ?_
        intro j hj
        refine ab 1000 rfl trivial ?_
        refine S_dec rfl (fun hlt => ?_) (fun hlt => ?_)
        · have hj8 : j < 8 := by omega
          have c1 : 0 ≤ (i : Int) ∧ (i : Int) < 8 := by omega
          have c2 : 8 - (j + 1) < 8 - j := by omega
          have hw4 : IntKind.i64.wrap (4 * (7 - (j : Int))) = ((4 * (7 - j) : Nat) : Int) := w64 (by omega) (by omega)
          have c3 : AV.int .i64 (IntKind.i64.wrap (7 - (j : Int) - 1)) = .int .i64 (7 - ((j + 1 : Nat) : Int)) := ai64i (by omega) (by omega)
          have c4 : 4 * (7 - j) ≤ 62 := by omega
          have hp0 : ((2 ^ (4 * (7 - j)) : Nat) : Int) ≠ 0 := by have := Nat.two_pow_pos (4 * (7 - j)); omega
          have hld : ((ints HL).drop (offN 0 (mulN (i : Int).toNat 1)))[0]? = some (.int .i64 (nn : Nat)) := by
            rw [offN_eq, mulN_eq, Int.toNat_natCast, Nat.mul_one, Nat.zero_add, hnn, ints_ld (by omega)]
          have e16 : (2 : Nat) ^ (4 * (7 - j)) = 16 ^ (7 - j) := by rw [show (16 : Nat) = 2 ^ 4 from rfl, ← Nat.pow_mul]
          have hdv : IntKind.i64.wrap ((nn : Int).tdiv ((2 ^ (4 * (7 - j)) : Nat) : Int)) = ((nn / 16 ^ (7 - j) : Nat) : Int) := by
            rw [← e16]; exact div32 qn
          have hm16 : (((nn / 16 ^ (7 - j) : Nat) : Int)).tmod 16 = ((nn / 16 ^ (7 - j) % 16 : Nat) : Int) := rfl
          have hlen : (((((HL.take i).flatMap hexW ++ (hexW nn).take j).length + 1 : Nat)) : Int) ≤ 9223372036854775807 := by
            rw [List.length_append, htl, List.length_take, hxl]; omega
          have hnx : (hexW nn).take (j + 1) = (hexW nn).take j ++ [hexC (nn / 16 ^ (7 - j) % 16)] := by
            rw [List.take_succ_eq_append_getElem (by rw [hxl]; exact hj8)]
            simp [hexW]
          refine ab 1000 rfl trivial ?_
          refine S_draw 13 [] [.top, .int .i64 (nn : Nat), .int .i64 ((2 ^ (4 * (7 - j)) : Nat) : Int), .str [hexC (nn / 16 ^ (7 - j) % 16)]] rfl rfl rfl rfl
            ⟨rfl, rfl, rfl, rfl, c1.1, c1.2, rfl, hld, rfl, rfl, ⟨_, Pow2_ok (4 * (7 - j)) c4, .cons (by show Frz false _ (.int .i64 (IntKind.i64.wrap (4 * (7 - (j : Int))))) _; rw [hw4]; exact .refl .int) (.nil _)⟩, rfl, hp0, rfl, by decide, ⟨_, HexDigit_ok (nn / 16 ^ (7 - j) % 16) (Nat.mod_lt _ (by decide)), .cons (by show Frz false _ (.int .i64 ((IntKind.i64.wrap ((nn : Int).tdiv ((2 ^ (4 * (7 - j)) : Nat) : Int))).tmod 16)) _; rw [hdv, hm16]; exact .refl .int) (.nil _)⟩, rfl, hlen, rfl, trivial⟩ ?_
          refine ab 1000 rfl trivial ?_
          exact S_round (j + 1) c2 hj8 (.cons rfl (.cons (by rw [hnx, ← List.append_assoc]; rfl) (.cons rfl (.cons c3 (.nil _))))) rfl
        · have hj8 : j = 8 := by omega
          subst hj8
          have hti : HL.take (i + 1) = HL.take i ++ [nn] := by
            rw [List.take_succ_eq_append_getElem (by omega), hnn]
            simp [List.getD, show i < HL.length by omega]
          have c3 : AV.int .i64 (IntKind.i64.wrap ((i : Int) + 1)) = .int .i64 ((i + 1 : Nat) : Int) := ai64 rfl (by omega)
          refine ab 1000 rfl trivial ?_
          refine S_round (i + 1) (by show 8 - (i + 1) < 8 - i; omega) hi8 (.cons rfl (.cons ?_ (.cons c3 (.nil _)))) rfl
          show AV.str ((HL.take i).flatMap hexW ++ (hexW nn).take 8) = .str ((HL.take (i + 1)).flatMap hexW)
          rw [hti, List.flatMap_append, List.take_of_length_le (l := hexW nn) (by rw [hxl]; exact Nat.le_refl _)]
          simp
      · have hi8 : i = 8 := by omega
        subst hi8
        refine ab 1000 rfl trivial ?_
        refine S_retc .str rfl trivial ?_
        show AV.str ((HL.take 8).flatMap hexW) = _
        rw [List.take_of_length_le (by omega)]
end Go.Proofs.YtpehmhlgldbeoaaGreatDoor
end
section
set_option linter.unusedVariables false
set_option linter.unusedSimpArgs false
namespace Go.Ab
open Go
section
variable {cx : Cx} {n : Nat} {B : Bs} {k : List AI} {Q : Post} {fr : Fr} {σ : Heap}
inductive Wv : AV → AV → Prop
  | refl {a} : Wv a a
  | nils {st fl sz} : Wv .nils (.sl st fl sz [])
  | sl {st fl st' fl' sz xs} (h1 : st' = true → st = true) (h2 : fl' = true → fl = true) : Wv (.sl st fl sz xs) (.sl st' fl' sz xs)
theorem Wv.rel {r : Rl} {w : World} {v : Value} {a a' : AV} (h : Wv a a') (hv : VRel r w v a) : VRel r w v a' := by
  cases h with
  | refl => exact hv
  | nils => cases hv; exact .sl0 (fun _ => rfl)
  | sl h1 h2 =>
    cases hv with
    | sl0 hf => exact .sl0 (fun h => hf (h2 h))
    | sl hn hc0 hf hI hS hsz f hc hv => exact .sl hn hc0 (fun h => hf (h2 h)) hI (fun h => hS (h1 h)) hsz f hc hv
theorem Wv.one {a a' : AV} (h : Wv a a') (ho : a.one = true) : a'.one = true := by
  cases h with
  | refl => exact ho
  | nils => rfl
  | sl _ _ => rfl
inductive Wvs : List AV → List AV → Prop
  | nil : Wvs [] []
  | cons {a b az bs} (h : Wv a b) (hs : Wvs az bs) : Wvs (a :: az) (b :: bs)
theorem Wvs.len {az bs : List AV} (h : Wvs az bs) : az.length = bs.length := by
  induction h with
  | nil => rfl
  | cons _ _ ih => simp [ih]
theorem Wvs.get {az bs : List AV} (h : Wvs az bs) : ∀ (i : Nat) (h1 : i < az.length) (h2 : i < bs.length), Wv az[i] bs[i] := by
  induction h with
  | nil => intro i h1; simp at h1
  | cons h hs ih =>
    intro i h1 h2
    cases i with
    | zero => exact h
    | succ i => exact ih i (by simpa using h1) (by simpa using h2)
end
end Go.Ab
end
section
set_option linter.unusedVariables false
set_option linter.unusedSimpArgs false
set_option maxRecDepth 20000
set_option maxHeartbeats 4000000
namespace Go.Proofs.YtpehmhlgldbeoaaGreatDoor
open Go Go.Ab
theorem fsR {σ : Heap} {st fl : Bool} (l : List Fil) : Frz false σ (.sl st fl 3 (fils l)) (.sl st fl 3 (fils l)) := .refl (.sl (fun h => by cases h) (fils_free l))
theorem txR {σ : Heap} {st fl : Bool} (l : List (List UInt8)) : Frz false σ (.sl st fl 1 (texts l)) (.sl st fl 1 (texts l)) := .refl (.sl (fun h => by cases h) (texts_any l))
end Go.Proofs.YtpehmhlgldbeoaaGreatDoor
end
section
set_option linter.unusedVariables false
set_option linter.unusedSimpArgs false
set_option maxRecDepth 20000
set_option maxHeartbeats 4000000
namespace Go.Proofs.YtpehmhlgldbeoaaGreatDoor
open Go Go.Ab
def lessF (p : List UInt8) (l : List Fil) : Nat := lessN p (l.map Fil.path)
def addF (l : List Fil) (f : Fil) : List Fil := l.take (lessF f.path l) ++ f :: l.drop (lessF f.path l)
theorem lessF_le (p : List UInt8) (l : List Fil) : lessF p l ≤ l.length := by
  have := lessN_le p (l.map Fil.path)
  rwa [List.length_map] at this
theorem lessF_lt {p : List UInt8} {l : List Fil} {i : Nat} (hi : i < l.length) (h : i < lessF p l) : Op.bytesLess l[i].path p = true := by
  have := lessN_lt (s := p) (l := l.map Fil.path) (i := i) (by simpa using hi) h
  rwa [List.getElem_map] at this
theorem lessF_at {p : List UInt8} {l : List Fil} (h : lessF p l < l.length) : Op.bytesLess l[lessF p l].path p = false := by
  have := lessN_at (s := p) (l := l.map Fil.path) (by rw [List.length_map]; exact h)
  rwa [List.getElem_map] at this
theorem flat_fils (x : List Fil) : flatA 3 (fils x) = celsF x := by
  induction x with
  | nil => rfl
  | cons f x ih =>
    show [AV.str f.path, .str f.text, .bool f.run] ++ flatA 3 (fils x) = [AV.str f.path, .str f.text, .bool f.run] ++ celsF x
    rw [ih]
theorem flat_one (x : List Fil) : ∀ y ∈ flatA 3 (fils x), y.one = true := by rw [flat_fils]; exact cels_one x
end Go.Proofs.YtpehmhlgldbeoaaGreatDoor
end
section
set_option linter.unusedVariables false
set_option linter.unusedSimpArgs false
set_option maxRecDepth 20000
set_option maxHeartbeats 4000000
namespace Go.Proofs.YtpehmhlgldbeoaaGreatDoor
open Go Go.Ab Go.Shelf Go.RowKit Go.Lib Go.Sort
theorem isNaN_c (x : ByteArray) (W : World) : Calls Tryz.prog 78 #[.string x] W fun e w' => e = .returned (.bool false) ∧ w' = W := by
  go_enter Tryz.func78, Tryz.ntmps78
  go_wp2
  go_ret
  exact ⟨rfl, rfl⟩
def cmpT (a b : List UInt8) : Int := if a < b then -1 else if b < a then 1 else 0
theorem bt (x : ByteArray) : x.toList = x.data.toList := by
  exact ByteArray.toList_eq x
theorem gtr_run (P : Program) (w : World) (t : TypeId) (x y : ByteArray) : (binOp .gtr t (.string x) (.string y)).run P w = .ok (.bool (Op.bytesLess y.toList x.toList)) w := by
  simp only [binOp, Op.stringOp, Sem.run_pure, Result.ok.injEq, Value.bool.injEq, and_true]
  rw [bt, bt, bl_eq, bl_eq]
  congr 1
  rw [Bool.eq_iff_iff]
  simp only [Bool.not_eq_true', Bool.or_eq_false_iff, decide_eq_false_iff_not, beq_eq_false_iff_ne, decide_eq_true_eq]
  constructor
  · rintro ⟨h1, h2⟩
    rcases Std.lt_trichotomy x.data.toList y.data.toList with h | h | h
    · exact absurd h h1
    · exact absurd h h2
    · exact h
  · intro h
    exact ⟨List.lt_asymm h, fun e => by rw [e] at h; exact absurd h (List.lt_irrefl _)⟩
theorem compare_c (x y : ByteArray) (W : World) : Calls Tryz.prog 51 #[.string x, .string y] W fun e w' => e = .returned (.int .i64 (cmpT x.data.toList y.data.toList)) ∧ w' = W := by
  go_enter Tryz.func51, Tryz.ntmps51
  go_wp2_with (go_at_call 78; refine (isNaN_c _ _).mono ?_; rintro e w' ⟨rfl, rfl⟩)
  · go_ret
    have h1 : x.data.toList < y.data.toList := by
      have := ‹Op.bytesLess x.toList y.toList = true›
      rw [bl_eq] at this
      simpa [bt] using this
    unfold cmpT
    rw [if_pos h1]
    exact ⟨rfl, rfl⟩
  · rw [gtr_run]
    simp only [Result.andThen_ok]
    go_wp2
    · go_ret
      have h0 : ¬ x.data.toList < y.data.toList := by
        have := ‹Op.bytesLess x.toList y.toList = false›
        rw [bl_eq] at this
        simpa [bt] using this
      have h1 : y.data.toList < x.data.toList := by
        have := ‹Op.bytesLess y.toList x.toList = true›
        rw [bl_eq] at this
        simpa [bt] using this
      unfold cmpT
      rw [if_neg h0, if_pos h1]
      exact ⟨rfl, rfl⟩
    · go_ret
      have h0 : ¬ x.data.toList < y.data.toList := by
        have := ‹Op.bytesLess x.toList y.toList = false›
        rw [bl_eq] at this
        simpa [bt] using this
      have h1 : ¬ y.data.toList < x.data.toList := by
        have := ‹Op.bytesLess y.toList x.toList = false›
        rw [bl_eq] at this
        simpa [bt] using this
      unfold cmpT
      rw [if_neg h0, if_neg h1]
      exact ⟨rfl, rfl⟩
instance : Inhabited Fil := ⟨⟨[], [], false⟩⟩
def encF (f : Fil) : List Value := [.string ⟨f.path.toArray⟩, .string ⟨f.text.toArray⟩, .bool f.run]
def cmpF (f g : Fil) : Int := cmpT f.path g.path
theorem clos_c (f g : Fil) (W : World) : Calls Tryz.prog 50 #[.agg (encF f).toArray, .agg (encF g).toArray] W fun e w' => e = .returned (.int .i64 (cmpF f g)) ∧ ∃ q os', w' = grow (W.drewN q) os' := by
  have hcon := fun W' => compare_c ⟨f.path.toArray⟩ ⟨g.path.toArray⟩ W'
  unfold cmpF
  generalize hr : cmpT f.path g.path = r
  have hcon : ∀ W', Calls Tryz.prog 51 #[.string ⟨f.path.toArray⟩, .string ⟨g.path.toArray⟩] W' fun e w' => e = .returned (.int .i64 r) ∧ w' = W' := by
    intro W'
    have := hcon W'
    simp only [List.toList_toArray, hr] at this
    exact this
  unfold encF
  go_enter Tryz.func50, Tryz.ntmps50
  go_wp2_with (go_at_call 51; refine (hcon _).mono ?_; rintro e w' ⟨rfl, rfl⟩)
  go_ret
  exact ⟨rfl, 0, _, by rw [alloc_eq_grow, alloc_eq_grow, grow_grow]; rfl⟩
theorem cmpLays (blk off size : Nat) (w : World) : CmpLays Tryz.prog 50 #[] encF 3 cmpF blk off size w :=
  fun _ _ _ _ f g => clos_c f g _
theorem ltF (f g : Fil) : ltOf cmpF f g = decide (f.path < g.path) := by
  unfold ltOf cmpF cmpT
  by_cases h1 : f.path < g.path
  · simp [h1]
  · by_cases h2 : g.path < f.path <;> simp [h1, h2]
theorem swoF : SWO (ltOf cmpF) where
  irrefl x := by rw [ltF]; simp
  trans x y z h1 h2 := by
    rw [ltF] at *
    simp only [decide_eq_true_eq] at *
    exact List.lt_trans h1 h2
  ntrans x y z h1 h2 := by
    rw [ltF] at *
    simp only [decide_eq_false_iff_not] at *
    exact fun h => by
      rcases Std.lt_trichotomy y.path z.path with h3 | h3 | h3
      · exact h2 h3
      · rw [h3] at h1; exact h1 h
      · exact h1 (List.lt_trans h h3)
theorem sort_c (blk off cap : Nat) (d : Array Fil) (w : World) (hH : HoldsK encF 3 w blk off d) (hblk : blk < w.heap.size) (hsz : d.size < 4611686018427387904) :
    Calls Tryz.prog 49 #[.slice (some ⟨blk, off, none⟩) d.size cap, .func (.func 50) #[] #[]] w fun e w' =>
      e = .returned (.tuple #[]) ∧ ∃ d' n os, PermIn 0 d.size d d' ∧ SortedIn (ltOf cmpF) 0 d.size d' ∧ w' = sortWorldK encF 3 w blk off n d' os :=
  AnyQ.slices_SortFunc lay_sortf 3 Tryz.isAgg48 Tryz.sizeOf48 encF (fun _ => rfl) (fun x v hv => by simp [encF] at hv; rcases hv with rfl | rfl | rfl <;> rfl) cmpF swoF 50 #[] blk off cap d w (fun a w => Tryz.call50 a w) (cmpLays blk off d.size w) hH hblk hsz
end Go.Proofs.YtpehmhlgldbeoaaGreatDoor
end
section
set_option linter.unusedVariables false
set_option linter.unusedSimpArgs false
set_option maxRecDepth 20000
set_option maxHeartbeats 4000000
namespace Go.Proofs.YtpehmhlgldbeoaaGreatDoor
open Go Go.Ab Go.Shelf Go.RowKit Go.Lib Go.Sort
def sortFl (o : List Fil) : List Fil := o.mergeSort fun f g => decide (f.path ≤ g.path)
theorem sortFl_perm (o : List Fil) : (sortFl o).Perm o := List.mergeSort_perm _ _
theorem sortFl_pw (o : List Fil) : (sortFl o).Pairwise fun f g => f.path ≤ g.path := by
  have := List.pairwise_mergeSort (le := fun f g : Fil => decide (f.path ≤ g.path)) (fun a b c h1 h2 => leT_trans _ _ _ h1 h2) (fun a b => leT_total _ _) o
  exact this.imp fun h => by simpa using h
theorem sortFl_uniq {o x : List Fil} (hnd : (o.map Fil.path).Nodup) (hp : x.Perm o) (hs : x.Pairwise fun f g => f.path ≤ g.path) : x = sortFl o := by
  have h1 : x.map Fil.path = (sortFl o).map Fil.path := perm_sorted ((hp.trans (sortFl_perm o).symm).map _) (List.pairwise_map.2 hs) (List.pairwise_map.2 (sortFl_pw o))
  have hinj : ∀ f ∈ o, ∀ g ∈ o, f.path = g.path → f = g := by
    intro f hf g hg h
    obtain ⟨i, hi, rfl⟩ := List.getElem_of_mem hf
    obtain ⟨j, hj, rfl⟩ := List.getElem_of_mem hg
    have : i = j := (List.getElem_inj (h₀ := by simpa using hi) (h₁ := by simpa using hj) hnd).1 (by simpa using h)
    subst this; rfl
  have hl : x.length = (sortFl o).length := by have := congrArg List.length h1; simpa using this
  refine List.ext_getElem hl fun i h2 h3 => ?_
  refine hinj _ (hp.mem_iff.1 (List.getElem_mem h2)) _ ((sortFl_perm o).mem_iff.1 (List.getElem_mem h3)) ?_
  have e : (x.map Fil.path)[i]? = ((sortFl o).map Fil.path)[i]? := by rw [h1]
  rw [List.getElem?_map, List.getElem?_map, List.getElem?_eq_getElem h2, List.getElem?_eq_getElem h3] at e
  exact Option.some.inj e
def celK (f : Fil) (k : Nat) : AV := match k with | 0 => .str f.path | 1 => .str f.text | _ => .bool f.run
theorem cel_get {l : List Fil} {i : Nat} (h : i < l.length * 3) : (celsF l)[i]? = some (celK (l[i / 3]'(by omega)) (i % 3)) := by
  have hq : i / 3 < l.length := by omega
  obtain ⟨r, hr⟩ := cels_at hq
  have e : i = i / 3 * 3 + i % 3 := by omega
  have h3 : i % 3 < 3 := Nat.mod_lt _ (by decide)
  conv => lhs; rw [e]
  rw [← List.getElem?_drop, hr]
  generalize i % 3 = k at h3
  match k, h3 with
  | 0, _ => rfl
  | 1, _ => rfl
  | 2, _ => rfl
theorem flat_get {l : List Fil} {i : Nat} (h : i < l.length * 3) : (flatK encF 3 l.toArray)[i]! = (encF (l[i / 3]'(by omega)))[i % 3]! := by
  rw [get_flatK encF 3 l.toArray i (by simpa using h)]
  have hq : i / 3 < l.toArray.size := by simp; omega
  rw [getElem!_pos l.toArray (i / 3) hq]
  simp
theorem enc_rel (r : Rl) (w : World) (f : Fil) (k : Nat) (h : k < 3) : VRel r w (encF f)[k]! (celK f k) := by
  match k, h with
  | 0, _ => exact .str (by simp)
  | 1, _ => exact .str (by simp)
  | 2, _ => exact .bool
theorem enc_eq {r : Rl} {w : World} {f : Fil} {k : Nat} {v : Value} (h : k < 3) (hv : VRel r w v (celK f k)) : v = (encF f)[k]! := by
  match k, h with
  | 0, _ =>
    have hv : VRel r w v (.str f.path) := hv
    cases hv with
    | str hs => show Value.string _ = .string _; rw [← hs]
  | 1, _ =>
    have hv : VRel r w v (.str f.text) := hv
    cases hv with
    | str hs => show Value.string _ = .string _; rw [← hs]
  | 2, _ =>
    have hv : VRel r w v (.bool f.run) := hv
    cases hv; rfl
theorem Sort_ok (o : List Fil) (hne : 0 < o.length) (hlen : o.length ≤ 1000000) (hnd : (o.map Fil.path).Nodup) {σ : Heap} {id ver : Nat} (hσ : σ[id]? = some (ver, some (.cells (celsF o) ⟨false, none⟩))) :
    CallOk cx 49 [.ms id ver 0 o.length 3 false, .func (.func 50) [] []] σ (fun e s => e = .ret (.tup []) ∧ s = σ.set id (ver, some (.cells (celsF (sortFl o)) ⟨false, none⟩))) := by
  refine ⟨fun a w => Tryz.call49 a w, fun r w vs hi hv => ?_⟩
  obtain ⟨hs, hv⟩ := hv
  have g0 := hv 0 (by simp)
  have g1 := hv 1 (by simp)
  have hvs : vs = #[vs.getD 0 undef, vs.getD 1 undef] := by
    have hs : vs.size = 2 := hs
    refine Array.ext (by simp [hs]) fun j h1 h2 => ?_
    match j, h1 with
    | 0, h1 => simp [Array.getD, h1]
    | 1, h1 => simp [Array.getD, h1]
    | j + 2, h1 => omega
  rw [hvs]
  generalize vs.getD 0 undef = a at g0
  generalize vs.getD 1 undef = b at g1
  have g0 : VRel r w a (.ms id ver 0 o.length 3 false) := g0
  have g1 : VRel r w b (.func (.func 50) [] []) := g1
  cases g1 with
  | func f1 hfx f2 hbx0 =>
  rename_i first captured
  have hf1 : first = #[] := Array.eq_empty_of_size_eq_zero f1
  have hf2 : captured = #[] := Array.eq_empty_of_size_eq_zero f2
  subst hf1; subst hf2
  generalize hn : o.length = n at g0
  cases g0 with
  | ms0 => omega
  | ms hρ hcap hle hff =>
  rename_i blk off cap
  rcases hi.box id ver _ hσ with ⟨blk', off', hρ', hbx⟩ | ⟨_, ro, h⟩
  case inr =>
    have h := Box.cells.inj h
    have := cels_len o
    rw [h.1] at this; simp at this; omega
  rw [hρ] at hρ'
  obtain ⟨rfl, rfl⟩ : blk = blk' ∧ off = off' := by cases hρ'; exact ⟨rfl, rfl⟩
  obtain ⟨c, t, lo, hi0, q1, q2, q3, q4, q5⟩ := hbx
  have hcl := cels_len o
  have hbs : blk < w.heap.size := (hi.lt _ _ _ _ hρ).2
  have hcell : ∀ j, j < o.length * 3 → c[off + j]? = some (flatK encF 3 o.toArray)[j]! := by
    intro j hj
    obtain ⟨v, k1, k2⟩ := q2 j (by omega)
    have hg := cel_get hj
    rw [List.getElem?_eq_getElem (by omega)] at hg
    rw [Option.some.inj hg] at k2
    rw [k1, flat_get hj, enc_eq (Nat.mod_lt _ (by decide)) k2]
  have hH : HoldsK encF 3 w blk off o.toArray := by
    intro j hj
    have hj : j < o.length * 3 := by simpa using hj
    refine ⟨by simp only [World.cell?, q1]; exact hcell j hj, ?_⟩
    have hjc : off + j < c.size := by
      rcases Nat.lt_or_ge (off + j) c.size with h | h
      · exact h
      · have := hcell j hj
        rw [Array.getElem?_eq_none h] at this; cases this
    simp only [World.frozen?, q1]
    cases hz : (decide (lo ≤ off + j) && decide (off + j < hi0)) with
    | false => rfl
    | true =>
      simp only [Bool.and_eq_true, decide_eq_true_eq] at hz
      have := (q4 _ hz.1 hz.2 hjc).1
      cases this
  have hc := sort_c blk off cap o.toArray w hH hbs (by simp; omega)
  rw [show o.toArray.size = n by simpa using hn] at hc
  refine hc.mono ?_
  rintro e w' ⟨rfl, d', m, os, hp, hsd, rfl⟩
  obtain ⟨hd1, _, hd3⟩ := hp
  have hd1 : d'.size = n := by rw [hd1]; simpa using hn
  have hperm : d'.toList.Perm o := by
    have e1 : d'.extract 0 n = d' := by rw [← hd1]; simp
    have e2 : o.toArray.extract 0 n = o.toArray := by rw [← hn]; simp
    rw [e1, e2] at hd3
    simpa using hd3
  have hpw : d'.toList.Pairwise fun f g => f.path ≤ g.path := by
    rw [List.pairwise_iff_getElem]
    intro i j h1 h2 hij
    rw [Array.length_toList] at h1 h2
    have h3 := hsd i j (Nat.zero_le _) hij (by omega)
    rw [ltF, getElem!_pos d' i h1, getElem!_pos d' j h2] at h3
    simp only [decide_eq_false_iff_not] at h3
    simpa using h3
  have hsl := sortFl_uniq hnd hperm hpw
  have hd' : d' = (sortFl o).toArray := by rw [← hsl]
  have hln : (sortFl o).length = n := by rw [(sortFl_perm o).length_eq]; exact hn
  have hF : (flatK encF 3 d').size = n * 3 := by rw [size_flatK, hd1]
  have hheap : ∀ k, k < w.heap.size → (sortWorldK encF 3 w blk off m d' os).heap[k]? = if blk = k then some (Obj.cells (putCells _root_.id off (flatK encF 3 d') c) t (lo, hi0)) else w.heap[k]? := by
    intro k hk
    show ((w.heap.modify blk (onCells (putCells _root_.id off (flatK encF 3 d')))) ++ os)[k]? = _
    rw [Array.getElem?_append_left (by simpa using hk), Array.getElem?_modify]
    by_cases e : blk = k
    · subst e
      rw [if_pos rfl, if_pos rfl, q1]; rfl
    · rw [if_neg e, if_neg e]
  have hupd := hi.update (σ' := σ.set id (ver, some (.cells (celsF (sortFl o)) ⟨false, none⟩))) (id := id) (ver := ver) (b := blk) (o := off) (x := .cells (celsF (sortFl o)) ⟨false, none⟩) (w' := sortWorldK encF 3 w blk off m d' os)
    (by
      have : id < σ.length := by
        rcases Nat.lt_or_ge id σ.length with h | h
        · exact h
        · rw [List.getElem?_eq_none h] at hσ; cases hσ
      simp [this]) (fun j hj => by rw [List.getElem?_set, if_neg (Ne.symm hj)]) (fun c2 y hy => by rw [hσ] at hy; cases hy; exact .inr ⟨rfl, hρ⟩) (.inr ⟨ver, _, off, hσ, hρ⟩)
    (fun k hk hkb => by rw [hheap k hk, if_neg (Ne.symm hkb)]) (by
      show w.heap.size ≤ ((w.heap.modify blk (onCells (putCells _root_.id off (flatK encF 3 d')))) ++ os).size
      simp) (fun c2 t2 f2 hc2 => by
        rw [q1] at hc2; cases hc2
        exact ⟨_, _, by rw [hheap blk hbs, if_pos rfl], by simp [putCells]⟩) rfl rfl rfl
    (fun g => by
      refine ⟨_, t, lo, hi0, by rw [hheap blk hbs, if_pos rfl], fun i hil => ?_, cels_one _, fun i h1 h2 h3 => ?_, fun T h => by cases h⟩
      · have hil' : i < (sortFl o).length * 3 := by rw [cels_len] at hil; exact hil
        have hg := cel_get hil'
        rw [List.getElem?_eq_getElem hil] at hg
        rw [Option.some.inj hg]
        refine ⟨(flatK encF 3 (sortFl o).toArray)[i]!, ?_, by rw [flat_get hil']; exact enc_rel _ _ _ _ (Nat.mod_lt _ (by decide))⟩
        have hci : off + i < c.size := by
          have := hcell i (by omega)
          rcases Nat.lt_or_ge (off + i) c.size with h | h
          · exact h
          · rw [Array.getElem?_eq_none h] at this; cases this
        rw [hd']
        unfold putCells
        rw [Array.getElem?_mapIdx, Array.getElem?_eq_getElem hci]
        show some (if off ≤ off + i ∧ off + i < off + (flatK encF 3 (sortFl o).toArray).size then _root_.id ((flatK encF 3 (sortFl o).toArray)[off + i - off]!) else _) = _
        rw [if_pos ⟨by omega, by rw [size_flatK]; simp; omega⟩, Nat.add_sub_cancel_left]; rfl
      · have h3 : i < c.size := by simpa [putCells] using h3
        have := (q4 i h1 h2 h3).1
        cases this)
  exact ⟨.ret (.tup []), _, _, ⟨rfl, rfl⟩, .tup rfl (fun i h => absurd h (by simp)), hupd.1, hupd.2⟩
end Go.Proofs.YtpehmhlgldbeoaaGreatDoor
end
section
set_option linter.unusedVariables false
set_option linter.unusedSimpArgs false
set_option maxRecDepth 20000
set_option maxHeartbeats 4000000
namespace Go.Proofs.YtpehmhlgldbeoaaGreatDoor
open Go Go.Ab
theorem Len0_ok : Calc cx 117 [.int .u64 0] (.int .i64 0) :=
  pure_intro (fun a w => Tryz.call117 a w) Tryz.func117 rfl Tryz.ntmps117 rfl .int fun B => by
    refine pa [.b false, .b false, .b false] rfl ?_ ?_
    · (repeat' with_reducible apply AllP_cons) <;> try exact aC
      all_goals decide +kernel
    refine S_retc .int rfl trivial ?_
    rfl
theorem LenU0_ok : Calc cx 77 [.int .u64 0] (.int .i64 0) :=
  pure_intro (fun a w => Tryz.call77 a w) Tryz.func77 rfl Tryz.ntmps77 rfl .int fun B => by
    refine pa [.b false, .v (.int .i64 0)] rfl ?_ ?_
    · (repeat' with_reducible apply AllP_cons) <;> try exact aC
      · exact ⟨_, Len0_ok, .cons (.refl .int) (.nil _)⟩
    exact S_retc .int rfl trivial rfl
theorem Ins0_ok (σ : Heap) (v : Nat) : CallOk cx 108 [.ms 2 v 0 0 3 false, .int .i64 0, .int .i64 0, .func (.func 50) [] []] σ (fun o s => o = .ret (.tup []) ∧ s = σ) :=
  callOk_intro (fun a w => Tryz.call108 a w) Tryz.func108 rfl Tryz.ntmps108 rfl fun B => by
    refine pas [] rfl ?_ ?_
    · (repeat' with_reducible apply AllP_cons) <;> try exact aC
    refine S_while (α := Unit) (fun _ => [(2, .int .i64 0), (8, .int .i64 1)]) (fun _ => σ) (fun _ => True) (fun _ => 0) () trivial (.cons rfl (.cons rfl (.nil _))) rfl ?_
    rintro ⟨⟩ _
    refine pas [.b false] rfl ?_ ?_
    · (repeat' with_reducible apply AllP_cons) <;> try exact aC
    exact S_nil ⟨_, _, rfl, trivial, rfl, rfl⟩
theorem Pdq0_ok (σ : Heap) (v : Nat) : CallOk cx 76 [.ms 2 v 0 0 3 false, .int .i64 0, .int .i64 0, .int .i64 0, .func (.func 50) [] []] σ (fun o s => o = .ret (.tup []) ∧ s = σ) :=
  callOk_intro (fun a w => Tryz.call76 a w) Tryz.func76 rfl Tryz.ntmps76 rfl fun B => by
    refine pas [] rfl ?_ ?_
    · (repeat' with_reducible apply AllP_cons) <;> try exact aC
    refine S_while (α := Unit) (fun _ => [(0, .ms 2 v 0 0 3 false), (1, .int .i64 0), (2, .int .i64 0), (4, .func (.func 50) [] [])]) (fun _ => σ) (fun _ => True) (fun _ => 0) () trivial (.cons rfl (.cons rfl (.cons rfl (.cons rfl (.nil _))))) rfl ?_
    rintro ⟨⟩ _
    refine pa [.b true, .k (.tup [])] rfl ?_ ?_
    · (repeat' with_reducible apply AllP_cons) <;> try exact aC
      · exact Ins0_ok σ v
    exact S_ret ⟨_, _, rfl, trivial, rfl, rfl⟩
theorem Sort0_ok (ks : List (List UInt8)) (tx : List UInt8 → List UInt8) (g : Nat) : CallOk cx 49 [.ms 2 (g + 0) 0 0 3 false, .func (.func 50) [] []] (hpF ks tx g []) (fun o s => o = .ret (.tup []) ∧ s = hpF ks tx g []) :=
  callOk_intro (fun a w => Tryz.call49 a w) Tryz.func49 rfl Tryz.ntmps49 rfl fun B => by
    refine pa [.v (.int .i64 0), .k (.tup [])] rfl ?_ ?_
    · (repeat' with_reducible apply AllP_cons) <;> try exact aC
      · exact ⟨_, LenU0_ok, .cons (.refl .int) (.nil _)⟩
      · exact Pdq0_ok _ _
    exact S_nil ⟨_, _, rfl, trivial, rfl, rfl⟩
def headP (x : List UInt8) : Prop := x = [] ∨ ∃ y, x = 47 :: y
theorem fst_head {n x : List UInt8} (hn : n.count 47 = 0) (hx : headP x) : fstT (n ++ x) = n := by
  rcases hx with rfl | ⟨y, rfl⟩
  · rw [List.append_nil]
    rcases fst_ok n with ⟨_, h, _⟩ | ⟨h, _⟩
    · exact h
    · omega
  · exact (fst_of hn).1
theorem flatN_form {sub : List UInt8 → List UInt8 → List Fil → List Fil × Nat} {get : List UInt8 → Option (List UInt8)} {path : List UInt8}
    (hs : ∀ d p o, ∃ X, (sub d p o).1 = o ++ X ∧ (X.map Fil.path).Nodup ∧ ∀ f ∈ X, ∃ x, f.path = p ++ x) :
    ∀ (nds : List NodeV) (out : List Fil), (nds.map NodeV.name).Nodup → (∀ n ∈ nds, n.name.count 47 = 0) → ∃ X, (flatN sub get path nds out).1 = out ++ X ∧ (X.map Fil.path).Nodup ∧ ∀ f ∈ X, ∃ n ∈ nds, ∃ x, headP x ∧ f.path = path ++ (n.name ++ x)
  | [], out, _, _ => ⟨[], by simp [flatN], .nil, fun f hf => by cases hf⟩
  | nd :: r, out, hn, hc => by
    have none : ∃ X, (out : List Fil) = out ++ X ∧ (X.map Fil.path).Nodup ∧ ∀ f ∈ X, ∃ n ∈ nd :: r, ∃ x, headP x ∧ f.path = path ++ (n.name ++ x) := ⟨[], by simp, .nil, fun f hf => by cases hf⟩
    rw [List.map_cons, List.nodup_cons] at hn
    have glue : ∀ (Y : List Fil), (Y.map Fil.path).Nodup → (∀ f ∈ Y, ∃ x, headP x ∧ f.path = path ++ (nd.name ++ x)) → ∃ X, (flatN sub get path r (out ++ Y)).1 = out ++ X ∧ (X.map Fil.path).Nodup ∧ ∀ f ∈ X, ∃ n ∈ nd :: r, ∃ x, headP x ∧ f.path = path ++ (n.name ++ x) := by
      intro Y hY1 hY2
      obtain ⟨X, h1, h2, h3⟩ := flatN_form hs r (out ++ Y) hn.2 (fun n hn => hc n (List.mem_cons_of_mem _ hn))
      refine ⟨Y ++ X, by rw [h1, List.append_assoc], ?_, fun f hf => ?_⟩
      · rw [List.map_append, List.nodup_append]
        refine ⟨hY1, h2, fun a ha b hb hab => ?_⟩
        obtain ⟨f, hf, rfl⟩ := List.mem_map.1 ha
        obtain ⟨g, hg, rfl⟩ := List.mem_map.1 hb
        obtain ⟨x, hx, e1⟩ := hY2 f hf
        obtain ⟨n, hn', y, hy, e2⟩ := h3 g hg
        rw [e1, e2] at hab
        have h4 := List.append_cancel_left hab
        have h5 := congrArg fstT h4
        rw [fst_head (hc nd (List.mem_cons_self ..)) hx, fst_head (hc n (List.mem_cons_of_mem _ hn')) hy] at h5
        exact hn.1 (by rw [h5]; exact List.mem_map.2 ⟨n, hn', rfl⟩)
      · rcases List.mem_append.1 hf with hf | hf
        · exact ⟨nd, List.mem_cons_self .., hY2 f hf⟩
        · obtain ⟨n, hn', y, hy, e⟩ := h3 f hf
          exact ⟨n, List.mem_cons_of_mem _ hn', y, hy, e⟩
    rw [flatN]
    split
    · exact none
    split
    · obtain ⟨Y, h1, h2, h3⟩ := hs nd.dig (path ++ nd.name ++ [47]) out
      have h3' : ∀ f ∈ Y, ∃ x, headP x ∧ f.path = path ++ (nd.name ++ x) := fun f hf => by
        obtain ⟨x, e⟩ := h3 f hf
        exact ⟨47 :: x, .inr ⟨x, rfl⟩, by rw [e]; simp⟩
      split
      · rw [h1]; exact glue Y h2 h3'
      · exact ⟨Y, h1, h2, fun f hf => by obtain ⟨x, hx, e⟩ := h3' f hf; exact ⟨nd, List.mem_cons_self .., x, hx, e⟩⟩
    split
    · exact none
    · split
      · exact none
      · exact glue [_] (by simp) (fun f hf => by simp at hf; subst hf; exact ⟨[], .inl rfl, by simp⟩)
theorem rise_nodup {l : List (List UInt8)} (h : riseB l = true) : l.Nodup := by
  unfold riseB at h
  rw [List.all_eq_true] at h
  have key : ∀ (d i : Nat) (hi : i + d + 1 < l.length), Op.bytesLess (l[i]'(by omega)) (l[i + d + 1]'hi) = true := by
    have one : ∀ (j : Nat) (hj : j + 1 < l.length), Op.bytesLess (l[j]'(by omega)) (l[j + 1]'hj) = true := by
      intro j hj
      have := h (j + 1) (List.mem_range.2 hj)
      unfold riseP at this
      rw [show ((j + 1 == 0) : Bool) = false by simp, Bool.false_or, Nat.add_sub_cancel] at this
      have e1 : l.getD (j + 1) [] = l[j + 1] := by simp [List.getD, hj]
      have e2 : l.getD j [] = l[j]'(by omega) := by simp [List.getD, show j < l.length by omega]
      rw [e1, e2] at this
      exact leS_bl (by simpa using this)
    intro d
    induction d with
    | zero => intro i hi; exact one i hi
    | succ d ih => intro i hi; exact bl_trans (ih i (by omega)) (one (i + d + 1) hi)
  rw [List.Nodup, List.pairwise_iff_getElem]
  intro i j hi hj hij e
  have := key (j - i - 1) i (by omega)
  simp only [show i + (j - i - 1) + 1 = j by omega] at this
  rw [e, bl_irr] at this; cases this
theorem name_no {s : List UInt8} (h : isName s = true) : s.count 47 = 0 := by
  unfold isName at h
  rw [Bool.and_eq_true] at h
  rw [List.count_eq_zero]
  intro hm
  have := List.all_eq_true.1 h.1 47 hm
  revert this; decide
theorem chk_names {l : List NodeV} (h : chkN l = 0) : (l.map NodeV.name).Nodup ∧ ∀ n ∈ l, n.name.count 47 = 0 := by
  unfold chkN at h
  split at h
  · cases h
  split at h
  · rename_i h0
    split at h
    · rename_i hr
      refine ⟨rise_nodup hr, fun n hn => ?_⟩
      have key : nodeE n = 0 := by
        obtain ⟨i, hi, rfl⟩ := List.getElem_of_mem hn
        have hz : ∀ j, j ≤ l.length → (l.take j).foldl chkF 0 = 0 := by
          intro j hj
          by_cases hne : (l.take j).foldl chkF 0 = 0
          · exact hne
          · exfalso
            have e : chkLoop l = (l.drop j).foldl chkF ((l.take j).foldl chkF 0) := by
              unfold chkLoop
              conv => lhs; rw [← List.take_append_drop j l]
              rw [List.foldl_append]
            rw [chk_stay _ hne] at e
            exact hne (e ▸ h0)
        have h1 := chk_step hi
        rw [hz (i + 1) (by omega), hz i (by omega), chkF, if_pos rfl] at h1
        exact h1.symm
      unfold nodeE at key
      split at key
      · rename_i hn2
        rw [Bool.and_eq_true] at hn2
        exact name_no hn2.1
      · cases key
    · cases h
  · rename_i h0; exact absurd h h0
theorem flatD_form (get : List UInt8 → Option (List UInt8)) : ∀ (n : Nat) (d path : List UInt8) (out : List Fil), ∃ X, (flatD get n d path out).1 = out ++ X ∧ (X.map Fil.path).Nodup ∧ ∀ f ∈ X, ∃ x, f.path = path ++ x
  | 0, d, path, out => ⟨[], by simp [flatD], .nil, fun f hf => by cases hf⟩
  | n + 1, d, path, out => by
    have none : ∃ X, (out : List Fil) = out ++ X ∧ (X.map Fil.path).Nodup ∧ ∀ f ∈ X, ∃ x, f.path = path ++ x := ⟨[], by simp, .nil, fun f hf => by cases hf⟩
    rw [flatD]
    split
    · exact none
    · rename_i s _
      split
      · exact none
      · rename_i h0
        have h0 : (readNd s).2 = 0 := Classical.not_not.1 h0
        split
        · exact none
        · obtain ⟨c1, c2⟩ := chk_names (readNd_fit h0)
          obtain ⟨X, h1, h2, h3⟩ := flatN_form (get := get) (path := path) (flatD_form get n) (readNd s).1 out c1 c2
          exact ⟨X, h1, h2, fun f hf => by obtain ⟨n, _, x, _, e⟩ := h3 f hf; exact ⟨_, e⟩⟩
theorem Flat_ok {st fl : Bool} (root : List UInt8) (blobs : List (List UInt8)) (hr : root.length ≤ 9223372036854775807) (hbl : blobs.length ≤ 1000000000000) :
    Calc cx 18 [.str root, .sl st fl 1 (texts blobs)] (flatAV (flatT sortFl root blobs)) := by
  refine Flat_gen sortFl root blobs hr hbl (fun out => (sortFl_perm out).length_eq) (fun h0 => ?_)
  obtain ⟨X, h1, h2, _⟩ := flatD_form (getM (ksB blobs) (txB blobs)) 102 root [] []
  have h1 : (flatY root blobs).1 = X := h1
  have hlen : (flatY root blobs).1.length ≤ 60 := (flatD_len (getM (ksB blobs) (txB blobs)) 102 root [] [] (by decide)).1
  rw [← h1] at h2
  generalize (flatY root blobs).1 = o at *
  by_cases ho : o = []
  · subst ho
    have : sortFl [] = [] := by unfold sortFl; simp
    rw [this]
    exact Sort0_ok _ _ _
  · have hS := Sort_ok o (List.length_pos_iff.2 ho) (by omega) h2 (σ := hpF (ksB blobs) (txB blobs) 0 o) (id := 2) (ver := 0 + o.length) rfl
    refine hS.mono fun out s ⟨h3, h4⟩ => ⟨h3, ?_⟩
    rw [h4]
    unfold hpF hpT
    rw [(sortFl_perm o).length_eq]; rfl
end Go.Proofs.YtpehmhlgldbeoaaGreatDoor
end
section
set_option linter.unusedVariables false
set_option linter.unusedSimpArgs false
set_option maxRecDepth 20000
namespace Go.Proofs.YtpehmhlgldbeoaaGreatDoor
open Go Go.Ab
theorem HasText_ok {st fl : Bool} (l : List (List UInt8)) (s : List UInt8) (hl : l.length ≤ 9223372036854775806) : Calc cx 55 [.sl st fl 1 (texts l), .str s] (.bool (l.contains s)) :=
  pure_intro (fun a w => Tryz.call55 a w) Tryz.func55 rfl Tryz.ntmps55 rfl .bool fun B => by
    have htl := texts_len l
    refine ab 1000 rfl trivial ?_
    refine S_while (α := Nat) (fun i => [(0, .sl st fl 1 (texts l)), (1, .str s), (5, .int .i64 (i : Nat))]) (fun _ => []) (fun i => i ≤ l.length ∧ s ∉ l.take i) (fun i => l.length - i) 0
      ⟨Nat.zero_le _, by simp⟩ (.cons rfl (.cons rfl (.cons rfl (.nil _)))) rfl ?_
    rintro i ⟨hi, hN⟩
    have hi : i ≤ l.length := hi
    refine ab 1000 rfl trivial ?_
    refine S_dec rfl (fun hlt => ?_) (fun hlt => ?_)
    · have hil : i < l.length := by have : (i : Int) < ((texts l).length : Nat) := hlt; omega
      refine ab 1000 rfl trivial ?_
      refine S_index (.str l[i]) rfl rfl rfl ⟨rfl, by omega, by rw [Int.toNat_natCast]; exact texts_get hil, trivial⟩ ?_
      refine ab 1000 rfl trivial ?_
      refine S_cond rfl (fun h => ?_) (fun h => ?_)
      · have h : l[i] = s := by simpa using (show (l[i] == s) = true from h)
        refine ab 1000 rfl trivial ?_
        refine S_retc .bool rfl trivial ?_
        rw [List.contains_iff_mem.2 (by rw [← h]; exact List.getElem_mem hil)]; rfl
      · have h : l[i] ≠ s := by simpa using (show (l[i] == s) = false from h)
        refine ab 1000 rfl trivial ?_
        refine S_round (i + 1) (by show l.length - (i + 1) < l.length - i; omega) ⟨hil, fun hm => ?_⟩ (.cons rfl (.cons rfl (.cons (ai64 rfl (by omega)) (.nil _)))) rfl
        rw [List.take_succ_eq_append_getElem hil] at hm
        rcases List.mem_append.1 hm with hm | hm
        · exact hN hm
        · simp at hm; exact h hm.symm
    · have hil : i = l.length := by have : ¬ (i : Int) < ((texts l).length : Nat) := hlt; omega
      rw [hil, List.take_length] at hN
      refine ab 1000 rfl trivial ?_
      refine S_retc .bool rfl trivial ?_
      have : l.contains s = false := by
        cases h : l.contains s with
        | false => rfl
        | true => exact absurd (List.contains_iff_mem.1 h) hN
      rw [this]; rfl
end Go.Proofs.YtpehmhlgldbeoaaGreatDoor
end
section
set_option linter.unusedVariables false
set_option linter.unusedSimpArgs false
set_option maxRecDepth 20000
namespace Go.Proofs.YtpehmhlgldbeoaaGreatDoor
open Go Go.Ab
def clashF : List (List UInt8) → List (List UInt8) → Bool
  | _, [] => false
  | T, x :: r => if T.contains x then clashF T r else if (T.map sha).contains (sha x) then true else clashF (T ++ [x]) r
def Apart (T : List (List UInt8)) : Prop := ∀ a ∈ T, ∀ b ∈ T, sha a = sha b → a = b
theorem clashF_apart : ∀ (r T : List (List UInt8)), clashF T r = false → Apart T → Apart (T ++ r)
  | [], T, h, hT => by rw [List.append_nil]; exact hT
  | x :: r, T, h, hT => by
    rw [clashF] at h
    split at h
    · rename_i hx
      have hx : x ∈ T := List.contains_iff_mem.1 hx
      have := clashF_apart r T h hT
      intro a ha b hb
      refine this a ?_ b ?_
      · simp only [List.mem_append, List.mem_cons] at ha ⊢
        rcases ha with ha | rfl | ha
        · exact .inl ha
        · exact .inl hx
        · exact .inr ha
      · simp only [List.mem_append, List.mem_cons] at hb ⊢
        rcases hb with hb | rfl | hb
        · exact .inl hb
        · exact .inl hx
        · exact .inr hb
    · split at h
      · cases h
      rename_i hx hd
      have hd : ∀ a ∈ T, sha a ≠ sha x := fun a ha e => hd (List.contains_iff_mem.2 (List.mem_map.2 ⟨a, ha, e⟩))
      have := clashF_apart r (T ++ [x]) h (by
        intro a ha b hb e
        simp only [List.mem_append, List.mem_singleton] at ha hb
        rcases ha with ha | rfl <;> rcases hb with hb | rfl
        · exact hT a ha b hb e
        · exact absurd e (hd a ha)
        · exact absurd e.symm (hd b hb)
        · rfl)
      rwa [List.append_assoc] at this
def listsAV (LS : List (List (List UInt8))) : List AV := LS.map fun q => .sl true false 1 (texts q)
theorem Clash_ok {st fl : Bool} (LS : List (List (List UInt8))) (h1 : LS.length ≤ 1000) (h2 : ∀ q ∈ LS, q.length ≤ 2000000) (h3 : ∀ q ∈ LS, ∀ s ∈ q, s.length ≤ 2000000) :
    Calc cx 22 [.sl st fl 1 (listsAV LS)] (.bool (clashF [] LS.flatten)) :=
  pure_intro (fun a w => Tryz.call22 a w) Tryz.func22 rfl Tryz.ntmps22 rfl .bool fun B => by
    have hll : (listsAV LS).length = LS.length := by simp [listsAV]
    refine ab 1000 rfl trivial ?_
    refine S_ghostF (t := 3) 1 ⟨false, none⟩ rfl rfl ⟨_, _, .inl rfl⟩ ?_
    refine S_ghostF (t := 4) 1 ⟨false, none⟩ rfl rfl ⟨_, _, .inl rfl⟩ ?_
    have gL : ∀ {j : Nat} (h : j < LS.length), (listsAV LS)[(j : Int).toNat]? = some (.sl true false 1 (texts LS[j])) := fun h => by
      rw [Int.toNat_natCast]; simp [listsAV, h]
    refine S_while (α := Nat × List (List UInt8) × Nat) (fun (i, T, u) => [(0, .sl st fl 1 (listsAV LS)), (3, .ms 0 u 0 T.length 1 false), (4, .ms 1 u 0 T.length 1 false), (5, .int .i64 (i : Nat))])
      (fun (i, T, u) => [(u, some (.cells (texts T) ⟨false, none⟩)), (u, some (.cells (texts (T.map sha)) ⟨false, none⟩))]) (fun (i, T, u) => i ≤ LS.length ∧ T.length ≤ 2000000 * i ∧ clashF T (LS.drop i).flatten = clashF [] LS.flatten) (fun (i, T, u) => LS.length - i) (0, [], 0)
      ⟨Nat.zero_le _, Nat.zero_le _, rfl⟩ (.cons rfl (.cons rfl (.cons rfl (.cons rfl (.nil _))))) rfl ?_
    rintro ⟨i, T, u⟩ ⟨g1, g2, g3⟩
    have g1 : i ≤ LS.length := g1
    have g2 : T.length ≤ 2000000 * i := g2
    refine ab 1000 rfl trivial ?_
    refine S_dec rfl (fun hlt => ?_) (fun hlt => ?_)
    · have hil : i < LS.length := by have : (i : Int) < (((listsAV LS).length : Nat) : Int) := hlt; omega
      obtain ⟨q, hq⟩ : ∃ q, q = LS[i] := ⟨_, rfl⟩
      have hqm : q ∈ LS := by rw [hq]; exact List.getElem_mem hil
      have gq := gL hil
      rw [← hq] at gq
      have hql := h2 q hqm
      have hqs := h3 q hqm
      have hqt := texts_len q
      have c0 : (0 : Int) ≤ (i : Int) := by omega
      have g3 : clashF T (q ++ (LS.drop (i + 1)).flatten) = clashF [] LS.flatten := by
        rw [← g3, List.drop_eq_getElem_cons hil, List.flatten_cons, hq]
      refine ab 1000 rfl trivial ?_
      refine S_while (α := Nat × List (List UInt8) × Nat) (fun (k, T, u) => [(0, .sl st fl 1 (listsAV LS)), (3, .ms 0 u 0 T.length 1 false), (4, .ms 1 u 0 T.length 1 false), (5, .int .i64 (i : Nat)), (6, .int .i64 (k : Nat))])
        (fun (k, T, u) => [(u, some (.cells (texts T) ⟨false, none⟩)), (u, some (.cells (texts (T.map sha)) ⟨false, none⟩))]) (fun (k, T, u) => k ≤ q.length ∧ T.length ≤ 2000000 * i + k ∧ clashF T (q.drop k ++ (LS.drop (i + 1)).flatten) = clashF [] LS.flatten) (fun (k, T, u) => q.length - k) (0, T, u)
        ⟨Nat.zero_le _, by omega, g3⟩ (.cons rfl (.cons rfl (.cons rfl (.cons rfl (.cons rfl (.nil _)))))) rfl ?_
      rintro ⟨k, T, u⟩ ⟨f1, f2, f3⟩
      have f1 : k ≤ q.length := f1
      have f2 : T.length ≤ 2000000 * i + k := f2
      have f3 : clashF T (q.drop k ++ (LS.drop (i + 1)).flatten) = clashF [] LS.flatten := f3
      have hTl := texts_len T
      have hDl := texts_len (T.map sha)
      rw [List.length_map] at hDl
      refine ab 1000 rfl trivial ?_
      refine S_index (.sl true false 1 (texts q)) rfl rfl rfl ⟨rfl, c0, gq, trivial⟩ ?_
      refine ab 1000 rfl trivial ?_
      refine S_dec rfl (fun hlt => ?_) (fun hlt => ?_)
      · have hkq : k < q.length := by have : (k : Int) < (((texts q).length : Nat) : Int) := hlt; omega
        have c1 : (0 : Int) ≤ (k : Int) := by omega
        obtain ⟨x, hx⟩ : ∃ x, x = q[k] := ⟨_, rfl⟩
        have hxs : x.length ≤ 2000000 := by rw [hx]; exact hqs _ (List.getElem_mem hkq)
        have gk : (texts q)[(k : Int).toNat]? = some (.str x) := by rw [Int.toNat_natCast, hx]; exact texts_get hkq
        rw [List.drop_eq_getElem_cons hkq, ← hx, List.cons_append, clashF] at f3
        refine ab 1000 rfl trivial ?_
        refine S_index (.sl true false 1 (texts q)) rfl rfl rfl ⟨rfl, c0, gq, trivial⟩ ?_
        refine ab 1000 rfl trivial ?_
        refine S_index (.str x) rfl rfl rfl ⟨rfl, c1, gk, trivial⟩ ?_
        refine ab 1000 rfl trivial ?_
        refine S_pure rfl rfl rfl (HasText_ok (st := false) (fl := false) T x (by omega)) (.cons (.ms1 rfl (texts_one _) (by rw [texts_len]) (texts_any _)) (.cons (.refl .str) (.nil _))) ?_
        refine ab 1000 rfl trivial ?_
        refine S_cond rfl (fun hb => ?_) (fun hb => ?_)
        · have hb : T.contains x = true := hb
          rw [if_pos hb] at f3
          refine ab 1000 rfl trivial ?_
          exact S_round (k + 1, T, u) (by show q.length - (k + 1) < q.length - k; omega) ⟨hkq, by omega, f3⟩ (.cons rfl (.cons rfl (.cons rfl (.cons rfl (.cons (ai64 rfl (by omega)) (.nil _)))))) rfl
        · have hb : T.contains x = false := hb
          rw [if_neg (by rw [hb]; decide)] at f3
          refine ab 1000 rfl trivial ?_
          refine S_index (.sl true false 1 (texts q)) rfl rfl rfl ⟨rfl, c0, gq, trivial⟩ ?_
          refine ab 1000 rfl trivial ?_
          refine S_index (.str x) rfl rfl rfl ⟨rfl, c1, gk, trivial⟩ ?_
          refine ab 1000 rfl trivial ?_
          refine S_pure rfl rfl rfl (SumR_ok x (by omega)) (.cons (.refl .str) (.nil _)) ?_
          refine ab 1000 rfl trivial ?_
          refine S_pure rfl rfl rfl (HasText_ok (st := false) (fl := false) (T.map sha) (sha x) (by rw [List.length_map]; omega)) (.cons (.ms1 rfl (texts_one _) hDl (texts_any _)) (.cons (.refl .str) (.nil _))) ?_
          refine ab 1000 rfl trivial ?_
          refine S_cond rfl (fun hd => ?_) (fun hd => ?_)
          · have hd : (T.map sha).contains (sha x) = true := hd
            rw [if_pos hd] at f3
            refine ab 1000 rfl trivial ?_
            refine S_retc .bool rfl trivial ?_
            rw [← f3]; rfl
          · have hd : (T.map sha).contains (sha x) = false := hd
            rw [if_neg (by rw [hd]; decide)] at f3
            refine ab 1000 rfl trivial ?_
            refine S_index (.sl true false 1 (texts q)) rfl rfl rfl ⟨rfl, c0, gq, trivial⟩ ?_
            refine ab 1000 rfl trivial ?_
            refine S_index (.str x) rfl rfl rfl ⟨rfl, c1, gk, trivial⟩ ?_
            refine ab 1000 rfl ⟨?_, ?_, ?_, rfl, rfl, allOne_mem (cs := [.str _]) rfl, allOne_mem (cs := [.str _]) rfl, rfl, ?_, ?_, ?_, rfl, rfl, allOne_mem (cs := [.str _]) rfl, allOne_mem (cs := [.str _]) rfl, rfl, trivial⟩ ?_
            · show T.length + 1 ≤ 9223372036854775807; omega
            · show (T.length + 1) * 16 ≤ 140737488355328; omega
            · show 0 + T.length * 1 = (texts (T.map sha)).length; omega
            · show T.length + 1 ≤ 9223372036854775807; omega
            · show (T.length + 1) * 16 ≤ 140737488355328; omega
            · show 0 + T.length * 1 = (texts T).length; omega
            refine S_round (k + 1, T ++ [x], u + 1) (by show q.length - (k + 1) < q.length - k; omega) ⟨hkq, by rw [List.length_append]; simp only [List.length_cons, List.length_nil]; omega, f3⟩
              (.cons rfl (.cons (by simp; rfl) (.cons (by simp; rfl) (.cons rfl (.cons (ai64 rfl (by omega)) (.nil _)))))) ?_
            show [(u + 1, some (Box.cells (texts T ++ [.str x]) ⟨false, none⟩)), (u + 1, some (Box.cells (texts (T.map sha) ++ [.str (sha x)]) ⟨false, none⟩))] = _
            simp [texts]
      · have hkq : k = q.length := by have : ¬ (k : Int) < (((texts q).length : Nat) : Int) := hlt; omega
        rw [hkq, List.drop_length, List.nil_append] at f3
        refine ab 1000 rfl trivial ?_
        exact S_round (i + 1, T, u) (by show LS.length - (i + 1) < LS.length - i; omega) ⟨hil, by omega, f3⟩ (.cons rfl (.cons rfl (.cons rfl (.cons (ai64 rfl (by omega)) (.nil _))))) rfl
    · have hil : i = LS.length := by have : ¬ (i : Int) < (((listsAV LS).length : Nat) : Int) := hlt; omega
      have g3 : clashF T (LS.drop i).flatten = clashF [] LS.flatten := g3
      rw [hil, List.drop_length] at g3
      refine ab 1000 rfl trivial ?_
      refine S_retc .bool rfl trivial ?_
      rw [← g3]; rfl
end Go.Proofs.YtpehmhlgldbeoaaGreatDoor
end
section
set_option linter.unusedVariables false
set_option linter.unusedSimpArgs false
set_option maxRecDepth 20000
set_option maxHeartbeats 4000000
namespace Go.Proofs.YtpehmhlgldbeoaaGreatDoor
open Go Go.Ab
theorem addF_len (o : List Fil) (f : Fil) : (addF o f).length = o.length + 1 := by
  have := lessF_le f.path o
  unfold addF
  rw [List.length_append, List.length_cons, List.length_take, List.length_drop]; omega
end Go.Proofs.YtpehmhlgldbeoaaGreatDoor
end
section
set_option linter.unusedVariables false
set_option linter.unusedSimpArgs false
set_option maxRecDepth 20000
namespace Go.Proofs.YtpehmhlgldbeoaaGreatDoor
open Go Go.Ab
theorem IsNumber_ok (n : Int) : Calc cx 148 [.int .i64 n] (.bool (decide (0 ≤ n) && decide (n ≤ 9007199254740991))) :=
  pure_intro (fun a w => Tryz.call148 a w) Tryz.func148 rfl Tryz.ntmps148 rfl .bool fun B => by
    refine ab 1000 rfl trivial ?_
    refine S_guard rfl rfl rfl rfl (fun h => ?_) (fun h => ?_)
    · refine ab 1000 rfl trivial ?_
      refine S_retc .bool rfl trivial ?_
      rw [show decide (0 ≤ n) = true from h]; rfl
    · refine ab 1000 rfl trivial ?_
      refine S_retc .bool rfl trivial ?_
      rw [show decide (0 ≤ n) = false from h]; rfl
end Go.Proofs.YtpehmhlgldbeoaaGreatDoor
end
section
set_option linter.unusedVariables false
set_option linter.unusedSimpArgs false
set_option maxRecDepth 20000
namespace Go.Proofs.YtpehmhlgldbeoaaGreatDoor
open Go Go.Ab
theorem UnpackNumber_ok (s : List UInt8) (hs : s.length ≤ 9223372036854775806) : Calc cx 121 [.str s] (numAV (readN s 0 0)) :=
  pure_intro (fun a w => Tryz.call121 a w) Tryz.func121 rfl Tryz.ntmps121 rfl (numAV_free _) fun B => by
    refine ab 1000 rfl trivial ?_
    refine S_while (α := Nat × Nat) (fun (i, n) => [(0, .str s), (5, .int .i64 n), (6, .int .i64 i)]) (fun _ => [])
      (fun (i, n) => i ≤ s.length ∧ i ≤ 8 ∧ n < 128 ^ i ∧ readN (s.drop i) i n = readN s 0 0) (fun (i, _) => s.length - i) (0, 0)
      ⟨by simp, by decide, by decide, rfl⟩ (.cons rfl (.cons rfl (.cons rfl (.nil _)))) rfl ?_
    rintro ⟨i, n⟩ ⟨hi, hi8, hn, hN⟩
    refine ab 1000 rfl trivial ?_
    refine S_dec rfl (fun h => ?_) (fun h => ?_)
    · have hil : i < s.length := by omega
      rw [List.drop_eq_getElem_cons hil] at hN
      refine ab 1000 rfl trivial ?_
      refine S_beq rfl (fun hb => ?_) (fun hb => ?_)
      · have h8 : i = 8 := by omega
        refine ab 1000 rfl trivial ?_
        refine S_retc (numAV_free _) rfl trivial ?_
        rw [show readN s 0 0 = (0, 0, 3) by rw [← hN]; simp [readN, h8]]; rfl
      · have h8 : i ≠ 8 := by omega
        have hi7 : i ≤ 7 := by omega
        refine ab 1000 rfl ⟨by decide, h, by omega, trivial⟩ ?_
        have hgd : s.getD i 0 = s[i] := by simp [List.getD, hil]
        have hc := s[i].toNat_lt
        obtain ⟨c, hcd⟩ : ∃ c, c = s[i].toNat := ⟨_, rfl⟩
        rw [← hcd] at hc
        have hwc : IntKind.i64.wrap (((s.getD i 0).toNat : Nat) : Int) = (c : Int) := by rw [hgd, ← hcd]; exact w64 rfl (by omega)
        have hpow : 128 ^ i ≤ 128 ^ 7 := Nat.pow_le_pow_right (by decide) hi7
        have hmul : c % 128 * 128 ^ i ≤ 127 * 128 ^ 7 := Nat.mul_le_mul (by omega) hpow
        have hp2 : 2 ^ (7 * i) = 128 ^ i := by rw [show (128 : Nat) = 2 ^ 7 from rfl, ← Nat.pow_mul]
        refine S_pure rfl rfl rfl (Pow2_ok (7 * i) (by omega)) (.cons ?_ (.nil _)) ?_
        · show Frz false [] (.int .i64 (IntKind.i64.wrap (7 * (i : Int)))) _
          rw [w64 (x := 7 * (i : Int)) (k := 7 * i) rfl (by omega)]; exact .refl .int
        rw [hp2]
        refine ab 1000 rfl trivial ?_
        have hn5 : IntKind.i64.wrap ((n : Int) + IntKind.i64.wrap ((IntKind.i64.wrap (((s.getD i 0).toNat : Nat) : Int)).tmod 128 * ((128 ^ i : Nat) : Int))) = ((n + c % 128 * 128 ^ i : Nat) : Int) := by
          rw [hwc, w64 (x := (c : Int).tmod 128 * ((128 ^ i : Nat) : Int)) (k := c % 128 * 128 ^ i) rfl (by omega), w64 (x := (n : Int) + ((c % 128 * 128 ^ i : Nat) : Int)) (k := n + c % 128 * 128 ^ i) rfl (by omega)]
        have hN' : readN s 0 0 = if 127 < c then readN (s.drop (i + 1)) (i + 1) (n + c % 128 * 128 ^ i) else if c = 0 ∧ 0 < i then (0, 0, 1) else if 9007199254740991 < n + c % 128 * 128 ^ i then (0, 0, 3) else (n + c % 128 * 128 ^ i, i + 1, 0) := by
          rw [← hN]; simp only [readN, if_neg h8, ← hcd]
        have hn' : n + c % 128 * 128 ^ i < 128 ^ (i + 1) := by
          have : c % 128 * 128 ^ i ≤ 127 * 128 ^ i := Nat.mul_le_mul (by omega) (Nat.le_refl _)
          rw [Nat.pow_succ]; omega
        generalize hgn : n + c % 128 * 128 ^ i = n' at *
        refine S_weak (fr' := [(0, .str s), (5, .int .i64 n'), (6, .int .i64 i), (7, .int .i64 c), (29, .bool (decide ((c : Int) ≥ 128)))])
          (.cons rfl (.cons (congrArg _ hn5) (.cons rfl (.cons (congrArg _ hwc) (.cons (congrArg (fun z : Int => AV.bool (decide (z ≥ 128))) hwc) (.nil _)))))) ?_
        refine S_dec rfl (fun h27 => ?_) (fun h27 => ?_)
        · refine ab 1000 rfl trivial ?_
          refine S_round (i + 1, n') (by show s.length - (i + 1) < s.length - i; omega) ⟨hil, by omega, hn', ?_⟩ (.cons rfl (.cons rfl (.cons (ai64 rfl (by omega)) (.nil _)))) rfl
          rw [hN', if_pos (by omega)]
        · rw [if_neg (by omega)] at hN'
          have hfin : ∀ (fr : Fr), (numAV (n', i + 1, 0)) = AV.tup [.int .i64 n', .int .i64 (IntKind.i64.wrap ((i : Int) + 1)), .int .i64 0] := by
            intro _; rw [w64 (x := (i : Int) + 1) (k := i + 1) rfl (by omega)]; rfl
          refine ab 1000 rfl trivial ?_
          refine S_guard rfl rfl rfl rfl (fun hg => ?_) (fun hg => ?_)
          · have hc0 : c = 0 := by simpa using hg
            refine ab 1000 rfl trivial ?_
            refine S_dec rfl (fun hi0 => ?_) (fun hi0 => ?_)
            · refine ab 1000 rfl trivial ?_
              refine S_retc (numAV_free _) rfl trivial ?_
              rw [hN', if_pos ⟨hc0, by omega⟩]; rfl
            · rw [if_neg (by omega)] at hN'
              refine ab 1000 rfl trivial ?_
              refine S_pure rfl rfl rfl (IsNumber_ok n') (.cons (.refl .int) (.nil _)) ?_
              refine ab 1000 rfl trivial ?_
              refine S_cond rfl (fun hbig => ?_) (fun hbig => ?_)
              · refine ab 1000 rfl trivial ?_
                refine S_retc (numAV_free _) rfl trivial ?_
                rw [hN', if_pos (by simp at hbig; omega)]; rfl
              · refine ab 1000 rfl trivial ?_
                refine S_retc (numAV_free _) rfl trivial ?_
                rw [hN', if_neg (by simp at hbig; omega), hfin []]; rfl
          · have hc0 : c ≠ 0 := by simpa using hg
            rw [if_neg (by omega)] at hN'
            refine ab 1000 rfl trivial ?_
            refine S_cond rfl (fun hh => by cases hh) (fun _ => ?_)
            refine ab 1000 rfl trivial ?_
            refine S_pure rfl rfl rfl (IsNumber_ok n') (.cons (.refl .int) (.nil _)) ?_
            refine ab 1000 rfl trivial ?_
            refine S_cond rfl (fun hbig => ?_) (fun hbig => ?_)
            · refine ab 1000 rfl trivial ?_
              refine S_retc (numAV_free _) rfl trivial ?_
              rw [hN', if_pos (by simp at hbig; omega)]; rfl
            · refine ab 1000 rfl trivial ?_
              refine S_retc (numAV_free _) rfl trivial ?_
              rw [hN', if_neg (by simp at hbig; omega), hfin []]; rfl
    · have hil : i = s.length := by omega
      refine ab 1000 rfl trivial ?_
      refine S_retc (numAV_free _) rfl trivial ?_
      rw [show readN s 0 0 = (0, 0, 1) by rw [← hN, hil]; simp [readN]]; rfl
end Go.Proofs.YtpehmhlgldbeoaaGreatDoor
end
section
set_option linter.unusedVariables false
set_option linter.unusedSimpArgs false
set_option maxRecDepth 20000
set_option maxHeartbeats 4000000
namespace Go.Proofs.YtpehmhlgldbeoaaGreatDoor
open Go Go.Ab
def celsN (l : List NodeV) : List AV := (nodes l).flatMap AV.cells
theorem celsN_len (l : List NodeV) : (celsN l).length = l.length * 3 := by unfold celsN; rw [nodes_cells]; omega
theorem celsN_add (l : List NodeV) (n : NodeV) : celsN (l ++ [n]) = celsN l ++ [.str n.name, .int .i64 n.kind, .str n.dig] := by
  unfold celsN nodes; rw [List.map_append, List.flatMap_append]; rfl
def finN (k : Nat) (field : List (List UInt8)) (kind : Nat) (r : List UInt8) : Option (NodeV × List UInt8) := match k with
  | 0 => rNode r
  | 1 => match rNum r with
    | none => none
    | some (k, r2) => match rText r2 with
      | none => none
      | some (d, r3) => some (⟨field.getD 0 [], k, d⟩, r3)
  | 2 => match rText r with
    | none => none
    | some (d, r3) => some (⟨field.getD 0 [], kind, d⟩, r3)
  | _ => some (⟨field.getD 0 [], kind, field.getD 1 []⟩, r)
theorem fin_text {k kind : Nat} {field : List (List UInt8)} {r : List UInt8} (hk : k = 0 ∧ field = [] ∧ kind = 0 ∨ k = 2 ∧ ∃ a, field = [a]) : finN k field kind r = match rText r with
    | none => none
    | some (t, r') => finN (k + 1) (field ++ [t]) kind r' := by
  rcases hk with ⟨rfl, rfl, rfl⟩ | ⟨rfl, a, rfl⟩
  · unfold finN rNode
    cases rText r with
    | none => rfl
    | some x => rfl
  · unfold finN
    cases rText r with
    | none => rfl
    | some x => rfl
theorem fin_num {kind : Nat} {field : List (List UInt8)} {r : List UInt8} (hk : ∃ a, field = [a]) : finN 1 field kind r = match rNum r with
    | none => none
    | some (n, r') => finN 2 field n r' := by
  obtain ⟨a, rfl⟩ := hk
  unfold finN
  cases rNum r with
  | none => rfl
  | some x => rfl
theorem fin_none {k kind : Nat} {field : List (List UInt8)} {r : List UInt8} (hk : k = 0 ∧ field = [] ∧ kind = 0 ∨ k = 1 ∧ (∃ a, field = [a]) ∨ k = 2 ∧ (∃ a, field = [a])) (h : rNum r = none) : finN k field kind r = none := by
  have ht : rText r = none := by unfold rText; rw [h]
  rcases hk with hk | ⟨rfl, hk⟩ | hk
  · rw [fin_text (.inl hk), ht]
  · rw [fin_num hk, h]
  · rw [fin_text (.inr hk), ht]
theorem rep_step {m i : Nat} {r : List UInt8} (hi : i < m) : rNodeRep (m - i) r = match rNode r with
    | none => none
    | some (t, r') => match rNodeRep (m - (i + 1)) r' with
      | none => none
      | some (ts, r'') => some (t :: ts, r'') := by
  rw [show m - i = (m - (i + 1)) + 1 by omega, rNodeRep]; rfl
def unpAV (s : List UInt8) : AV := match unpN s with
  | none => .tup [.sl true false 3 (nodes []), .bool false]
  | some (ts, q) => .tup [.sl true false 3 (nodes ts), .bool (decide (q = []) && decide (chkN ts = 0))]
theorem unpAV_free (s : List UInt8) : Free true (unpAV s) := by
  unfold unpAV
  split <;> exact .tup (by intro y hy; simp at hy; rcases hy with rfl | rfl; exact .sl (fun _ => rfl) (nodes_any _); exact .bool)
theorem UnpackNodes_ok (s : List UInt8) (hs : s.length ≤ 1000000000) : Calc cx 88 [.str s] (unpAV s) :=
  pure_intro (fun a w => Tryz.call88 a w) Tryz.func88 rfl Tryz.ntmps88 rfl (unpAV_free s) fun B => by
    have hnone : Frz true ([] : Heap) (.tup [.nils, .bool false]) (.tup [.sl true false 3 (nodes []), .bool false]) := Fzs.tup (.cons .nils (.cons (.refl .bool) .nil))
    have hU := UnpackNumber_ok s (by omega)
    have hN : rNum s = if (readN s 0 0).2.2 = 0 then some ((readN s 0 0).1, s.drop (readN s 0 0).2.1) else none := rfl
    have hbd := readN_bds s 0 0 (by decide)
    rcases hr : readN s 0 0 with ⟨many, at0, e⟩
    rw [hr] at hU hN hbd
    have hN : rNum s = if e = 0 then some (many, s.drop at0) else none := hN
    obtain ⟨hb1, hb2, hb3⟩ := hbd
    have hb1 : many ≤ 9007199254740991 := hb1
    have hb2 : at0 ≤ 0 + s.length := hb2
    by_cases he : e = 0
    case neg =>
      have hun : unpAV s = .tup [.sl true false 3 (nodes []), .bool false] := by unfold unpAV unpN; rw [hN, if_neg he]
      rw [hun]
      refine pa [.v (numAV (many, at0, e)), .b true, .b true] rfl ?_ ?_
      · (repeat' with_reducible apply AllP_cons) <;> try exact aC
        · exact ⟨_, hU, .cons (.refl .str) (.nil _)⟩
        · show (((e : Int)) != 0) = true
          rw [chk_bne]; simpa using he
      refine S_ret ⟨_, _, rfl, trivial, AV.tup [.nils, .bool false], rfl, ?_⟩
      exact Fzs.tup (.cons .nils (.cons (.refl .bool) .nil))
    subst he
    rw [if_pos rfl] at hN
    by_cases hm : 60 < many
    · have hun : unpAV s = .tup [.sl true false 3 (nodes []), .bool false] := by
        have hu0 : unpN s = none := by unfold unpN; rw [hN]; exact if_pos hm
        unfold unpAV; rw [hu0]
      have e1 : decide ((many : Int) > 60) = true := decide_eq_true (by omega)
      rw [hun]
      refine pa [.v (numAV (many, at0, 0)), .b false, .b true] rfl ?_ ?_
      · (repeat' with_reducible apply AllP_cons) <;> try exact aC
        · exact ⟨_, hU, .cons (.refl .str) (.nil _)⟩
      refine S_ret ⟨_, _, rfl, trivial, _, rfl, ?_⟩
      exact Fzs.tup (.cons .nils (.cons (.refl .bool) .nil))
    have e1 : decide ((many : Int) > 60) = false := decide_eq_false (by omega)
    have hun : unpN s = rNodeRep many (s.drop at0) := by
      unfold unpN; rw [hN]; show (if 60 < many then none else _) = _; rw [if_neg hm]
    refine pa [.v (numAV (many, at0, 0)), .b false, .b false] rfl ?_ ?_
    · (repeat' with_reducible apply AllP_cons) <;> try exact aC
      · exact ⟨_, hU, .cons (.refl .str) (.nil _)⟩
    refine S_ghostF (t := 7) 3 ⟨false, none⟩ rfl rfl ⟨_, _, .inl rfl⟩ ?_
    refine S_dead ?_ ⟨_, _, .inl rfl⟩
    have hs63 : (s.length : Int) ≤ 9223372036854775807 := by omega
    refine S_while (α := Nat × Nat × List NodeV × Nat) (fun z => [(0, .str s), (4, .int .i64 (many : Nat)), (5, .int .i64 (z.2.1 : Nat)), (7, .ms 0 z.1 0 z.1 3 false), (8, .int .i64 (z.1 : Nat))]) (fun z => [(z.1, some (.cells (celsN z.2.2.1) ⟨false, none⟩)), (z.2.2.2, none)])
      (fun z => z.1 ≤ many ∧ z.2.2.1.length = z.1 ∧ z.2.1 ≤ s.length ∧ (rNodeRep many (s.drop at0) = match rNodeRep (many - z.1) (s.drop z.2.1) with | none => none | some (ts, q) => some (z.2.2.1 ++ ts, q)) ∧ ∀ n ∈ z.2.2.1, n.name.length ≤ s.length ∧ n.dig.length ≤ s.length) (fun z => many - z.1) (0, at0, [], 0)
      ⟨Nat.zero_le _, rfl, by show at0 ≤ s.length; omega, by
        show rNodeRep many (s.drop at0) = match rNodeRep (many - 0) (s.drop at0) with | none => none | some (ts, q) => some ([] ++ ts, q)
        rw [Nat.sub_zero]
        cases rNodeRep many (s.drop at0) with
        | none => rfl
        | some x => rfl, fun n h => by cases h⟩ (.cons rfl (.cons rfl (.cons rfl (.cons rfl (.cons rfl (.nil _)))))) rfl ?_
    rintro ⟨i, at1, out, w⟩ ⟨hi, hol, hat, hrep, hbo⟩
    have hi : i ≤ many := hi
    have hol : out.length = i := hol
    have hat : at1 ≤ s.length := hat
    have hbo : ∀ n ∈ out, n.name.length ≤ s.length ∧ n.dig.length ≤ s.length := hbo
    have hrep : rNodeRep many (s.drop at0) = match rNodeRep (many - i) (s.drop at1) with | none => none | some (ts, q) => some (out ++ ts, q) := hrep
    by_cases hlt : i < many
    case neg =>
      have hie : i = many := by omega
      subst hie
      rw [Nat.sub_self, rNodeRep] at hrep
      have hrep : rNodeRep i (s.drop at0) = some (out ++ [], s.drop at1) := hrep
      rw [List.append_nil] at hrep
      have e2 : decide ((i : Int) < (i : Int)) = false := decide_eq_false (by omega)
      have hu : unpAV s = .tup [.sl true false 3 (nodes out), .bool (decide (s.drop at1 = []) && decide (chkN out = 0))] := by unfold unpAV; rw [hun, hrep]
      rw [hu]
      have hC := CheckNodes_ok (st := false) (fl := false) out ⟨by omega, fun n hn => by have := (hbo n hn).1; omega, fun n hn => by have := (hbo n hn).2; omega⟩
      have hcl := celsN_len out
      have hF : ∀ τ, Frz false ((i, some (.cells (celsN out) ⟨false, none⟩)) :: τ) (.ms 0 i 0 i 3 false) (.sl false false 3 (nodes out)) := fun τ => .ms rfl (by omega) (by rw [List.drop_zero]; exact List.take_of_length_le (by omega)) (nodes_sz _) (by rw [nodes_len]; exact hol) (nodes_any _)
      have hT : ∀ τ (b : Bool), Frz true ((i, some (.cells (celsN out) ⟨false, none⟩)) :: τ) (.tup [.ms 0 i 0 i 3 false, .bool b]) (.tup [.sl true false 3 (nodes out), .bool b]) := fun τ b => Fzs.tup (.cons (.ms rfl (by omega) (by rw [List.drop_zero]; exact List.take_of_length_le (by omega)) (nodes_sz _) (by rw [nodes_len]; exact hol) (nodes_any _)) (.cons (.refl .bool) .nil))
      by_cases hend : at1 = s.length
      · have e3 : ((at1 : Int) == (s.length : Int)) = true := by rw [hend]; exact beq_self_eq_true _
        have hd : decide (s.drop at1 = []) = true := decide_eq_true (by rw [hend, List.drop_length])
        rw [hd, Bool.true_and]
        refine pa [.b false, .b true, .v (.int .i64 (chkN out : Nat))] rfl ?_ ?_
        · (repeat' with_reducible apply AllP_cons) <;> try exact aC
          · exact ⟨_, hC, .cons (hF _) (.nil _)⟩
        refine S_ret ⟨_, _, rfl, trivial, _, rfl, ?_⟩
        have hz : ((((chkN out : Nat) : Int)) == 0) = decide (chkN out = 0) := by
          by_cases h : chkN out = 0
          · rw [h]; rfl
          · rw [decide_eq_false h]; simpa using h
        show Frz true _ (.tup [.ms 0 i 0 i 3 false, .bool (((chkN out : Nat) : Int) == 0)]) _
        rw [hz]
        exact hT _ _
      · have e3 : ((at1 : Int) == (s.length : Int)) = false := by simpa using fun h => hend (by omega)
        have hd : decide (s.drop at1 = []) = false := decide_eq_false (fun h => by rw [List.drop_eq_nil_iff] at h; omega)
        rw [hd, Bool.false_and]
        refine pB [.b false, .b false] rfl ?_
        refine S_ret ⟨_, _, rfl, trivial, _, rfl, ?_⟩
        exact hT _ _
    have e2 : decide ((i : Int) < (many : Int)) = true := decide_eq_true (by omega)
    refine pB [.b true] rfl ?_
    refine S_ghostF (t := 9) 1 ⟨false, none⟩ rfl rfl ⟨_, _, .inl rfl⟩ ?_
    refine S_while (α := Nat × Nat × List (List UInt8) × Nat) (fun z => [(0, .str s), (4, .int .i64 (many : Nat)), (5, .int .i64 (z.2.1 : Nat)), (7, .ms 0 i 0 i 3 false), (8, .int .i64 (i : Nat)), (9, .ms 1 (w + 1 + z.2.2.1.length) 0 z.2.2.1.length 1 false), (10, .int .i64 (z.2.2.2 : Nat)), (11, .int .i64 (z.1 : Nat))])
      (fun z => [(i, some (.cells (celsN out) ⟨false, none⟩)), (w + 1 + z.2.2.1.length, some (.cells (texts z.2.2.1) ⟨false, none⟩))])
      (fun z => z.2.1 ≤ s.length ∧ rNode (s.drop at1) = finN z.1 z.2.2.1 z.2.2.2 (s.drop z.2.1) ∧ z.2.2.2 ≤ 9007199254740991 ∧ (∀ t ∈ z.2.2.1, t.length ≤ s.length) ∧ (z.1 = 0 ∧ z.2.2.1 = [] ∧ z.2.2.2 = 0 ∨ z.1 = 1 ∧ (∃ a, z.2.2.1 = [a]) ∨ z.1 = 2 ∧ (∃ a, z.2.2.1 = [a]) ∨ z.1 = 3 ∧ ∃ a d, z.2.2.1 = [a, d])) (fun z => 3 - z.1) (0, at1, [], 0)
      ⟨hat, rfl, Nat.zero_le _, fun t h => (by cases h), .inl ⟨rfl, rfl, rfl⟩⟩ (.cons rfl (.cons rfl (.cons rfl (.cons rfl (.cons rfl (.cons rfl (.cons rfl (.cons rfl (.nil _))))))))) rfl ?_
    rintro ⟨k, at2, field, kind⟩ ⟨hat2, hfin, hkd, hft, hsh⟩
    have hat2 : at2 ≤ s.length := hat2
    have hfin : rNode (s.drop at1) = finN k field kind (s.drop at2) := hfin
    have hkd : kind ≤ 9007199254740991 := hkd
    have hft : ∀ t ∈ field, t.length ≤ s.length := hft
    have hsh : k = 0 ∧ field = [] ∧ kind = 0 ∨ k = 1 ∧ (∃ a, field = [a]) ∨ k = 2 ∧ (∃ a, field = [a]) ∨ k = 3 ∧ ∃ a d, field = [a, d] := hsh
    have dead : rNode (s.drop at1) = none → unpAV s = .tup [.sl true false 3 (nodes []), .bool false] := fun h => by
      rw [rep_step hlt, h] at hrep
      have hu0 : unpN s = none := by rw [hun, hrep]
      unfold unpAV; rw [hu0]
    by_cases hk3 : k = 3
    · subst hk3
      obtain ⟨a, d, rfl⟩ : ∃ a d, field = [a, d] := by
        rcases hsh with ⟨h, _⟩ | ⟨h, _⟩ | ⟨h, _⟩ | ⟨_, h⟩
        · cases h
        · cases h
        · cases h
        · exact h
      have hfin : rNode (s.drop at1) = some (⟨a, kind, d⟩, s.drop at2) := hfin
      rw [rep_step hlt, hfin] at hrep
      refine pa [.b false, .d 10 11 [] (fun σ => σ.set 0 (i + 1, some (.cells (celsN (out ++ [⟨a, kind, d⟩])) ⟨false, none⟩))) [.top, .str a, .top, .str d, .ms 0 (i + 1) 0 (i + 1) 3 false], .s] rfl ?_ ?_
      · (repeat' with_reducible apply AllP_cons) <;> try exact aC
        · show 0 + i * 3 = (celsN out).length
          rw [celsN_len, hol]; omega
        · show (i + 1) * 40 ≤ 140737488355328
          omega
        · show ([(i + 1, some (.cells (celsN out ++ [.str a, .int .i64 (kind : Nat), .str d]) ⟨false, none⟩)), (w + 1 + 2, some (.cells (texts [a, d]) ⟨false, none⟩))] : Heap) = _
          rw [celsN_add]; rfl
      refine S_drop (id := 1) rfl ?_ ⟨.skip, _, .inr ⟨_, _, _, rfl⟩⟩
      refine pB [] rfl ?_
      refine S_round (i + 1, at2, out ++ [⟨a, kind, d⟩], w + 1 + 2) (by show many - (i + 1) < many - i; omega) ⟨hlt, by show (out ++ [_]).length = i + 1; rw [List.length_append, hol]; rfl, hat2, ?_, ?_⟩ (.cons rfl (.cons rfl (.cons rfl (.cons rfl (.cons (nX (by omega)) (.nil _)))))) rfl
      · show rNodeRep many (s.drop at0) = match rNodeRep (many - (i + 1)) (s.drop at2) with | none => none | some (ts, q) => some ((out ++ [⟨a, kind, d⟩]) ++ ts, q)
        rw [hrep]
        show (match (match rNodeRep (many - (i + 1)) (s.drop at2) with | none => none | some (ts, r'') => some ((⟨a, kind, d⟩ : NodeV) :: ts, r'')) with | none => none | some (ts, q) => some (out ++ ts, q)) = _
        cases rNodeRep (many - (i + 1)) (s.drop at2) with
        | none => rfl
        | some x => obtain ⟨ts, q⟩ := x; show some (out ++ ((⟨a, kind, d⟩ : NodeV) :: ts), q) = some ((out ++ [⟨a, kind, d⟩]) ++ ts, q); rw [List.append_assoc]; rfl
      · intro n hn
        rcases List.mem_append.1 hn with hn | hn
        · exact hbo n hn
        · simp at hn; subst hn
          exact ⟨hft a (by simp), hft d (by simp)⟩
    have hsh3 : k = 0 ∧ field = [] ∧ kind = 0 ∨ k = 1 ∧ (∃ a, field = [a]) ∨ k = 2 ∧ (∃ a, field = [a]) := by
      rcases hsh with h | h | h | h
      · exact .inl h
      · exact .inr (.inl h)
      · exact .inr (.inr h)
      · exact absurd h.1 hk3
    have hk3 : k < 3 := by omega
    have hfl : field.length ≤ 1 := by
      rcases hsh3 with ⟨_, rfl, _⟩ | ⟨_, a, rfl⟩ | ⟨_, a, rfl⟩ <;> simp
    have e3 : decide ((k : Int) < 3) = true := decide_eq_true (by omega)
    have hcut : cutL (some (at2 : Int)) none s = s.drop at2 := by simp [cutL]
    have hU2 := UnpackNumber_ok (s.drop at2) (by rw [List.length_drop]; omega)
    have hN2 : rNum (s.drop at2) = if (readN (s.drop at2) 0 0).2.2 = 0 then some ((readN (s.drop at2) 0 0).1, (s.drop at2).drop (readN (s.drop at2) 0 0).2.1) else none := rfl
    have hbd2 := readN_bds (s.drop at2) 0 0 (by decide)
    rcases hr2 : readN (s.drop at2) 0 0 with ⟨n, more, e⟩
    rw [hr2] at hU2 hN2 hbd2
    have hN2 : rNum (s.drop at2) = if e = 0 then some (n, (s.drop at2).drop more) else none := hN2
    obtain ⟨hc1, hc2, _⟩ := hbd2
    have hc1 : n ≤ 9007199254740991 := hc1
    have hc2 : more ≤ 0 + (s.drop at2).length := hc2
    rw [List.length_drop] at hc2
    rw [← hcut] at hU2
    by_cases he : e = 0
    case neg =>
      rw [dead (by rw [hfin]; exact fin_none hsh3 (by rw [hN2, if_neg he]))]
      refine pa [.b true, .v (numAV (n, more, e)), .b true] rfl ?_ ?_
      · (repeat' with_reducible apply AllP_cons) <;> try exact aC
        · exact ⟨_, hU2, .cons (.refl .str) (.nil _)⟩
        · show (((e : Int)) != 0) = true
          rw [chk_bne]; simpa using he
      refine S_ret ⟨_, _, rfl, trivial, AV.tup [.nils, .bool false], rfl, ?_⟩
      exact Fzs.tup (.cons .nils (.cons (.refl .bool) .nil))
    subst he
    rw [if_pos rfl, List.drop_drop] at hN2
    have hat3 : at2 + more ≤ s.length := by omega
    refine pa [.b true, .v (numAV (n, more, 0)), .b false] rfl ?_ ?_
    · (repeat' with_reducible apply AllP_cons) <;> try exact aC
      · exact ⟨_, hU2, .cons (.refl .str) (.nil _)⟩
    obtain ⟨at3, ha3⟩ : ∃ x, x = at2 + more := ⟨_, rfl⟩
    rw [← ha3] at hN2 hat3
    refine S_weak (fr' := [(0, .str s), (4, .int .i64 (many : Nat)), (5, .int .i64 (at3 : Nat)), (7, .ms 0 i 0 i 3 false), (8, .int .i64 (i : Nat)), (9, .ms 1 (w + 1 + field.length) 0 field.length 1 false), (10, .int .i64 (kind : Nat)), (11, .int .i64 (k : Nat)), (12, .int .i64 (n : Nat)), (50, .bool ((k : Int) == 1))])
      (.cons rfl (.cons rfl (.cons (by show AV.int .i64 (IntKind.i64.wrap ((at2 : Int) + (more : Int))) = .int .i64 (at3 : Nat); rw [ha3]; exact ai64 rfl (by omega)) (.cons rfl (.cons rfl (.cons rfl (.cons rfl (.cons rfl (.cons rfl (.cons rfl (.nil _))))))))))) ?_
    by_cases hk1 : k = 1
    · subst hk1
      have hfa : ∃ a, field = [a] := by
        rcases hsh3 with ⟨h, _⟩ | ⟨_, h⟩ | ⟨h, _⟩
        · cases h
        · exact h
        · cases h
      rw [fin_num hfa, hN2] at hfin
      refine pB [.b true] rfl ?_
      exact S_round (2, at3, field, n) (by show 3 - 2 < 3 - 1; omega) ⟨hat3, hfin, hc1, hft, .inr (.inr (.inl ⟨rfl, hfa⟩))⟩ (.cons rfl (.cons rfl (.cons rfl (.cons rfl (.cons rfl (.cons rfl (.cons rfl (.cons rfl (.nil _))))))))) rfl
    have hsh2 : k = 0 ∧ field = [] ∧ kind = 0 ∨ k = 2 ∧ (∃ a, field = [a]) := by
      rcases hsh3 with h | h | h
      · exact .inl h
      · exact absurd h.1 hk1
      · exact .inr h
    have e4 : ((k : Int) == 1) = false := by simpa using fun h => hk1 (by omega)
    have hsub : IntKind.i64.wrap ((s.length : Int) - (at3 : Int)) = ((s.length - at3 : Nat) : Int) := by
      rw [show (s.length : Int) - (at3 : Int) = ((s.length - at3 : Nat) : Int) by omega]; exact wrap_i64n (by omega)
    have hrt : rText (s.drop at2) = rTake n (s.drop at3) := by unfold rText; rw [hN2]
    by_cases hbig : s.length - at3 < n
    · have e5 : decide ((n : Int) > IntKind.i64.wrap ((s.length : Int) - (at3 : Int))) = true := by rw [hsub]; exact decide_eq_true (by omega)
      rw [dead (by rw [hfin, fin_text hsh2, hrt, rTake, if_pos (by rw [List.length_drop]; exact hbig)])]
      refine pB [.b false, .b true] rfl ?_
      refine S_ret ⟨_, _, rfl, trivial, AV.tup [.nils, .bool false], rfl, ?_⟩
      exact Fzs.tup (.cons .nils (.cons (.refl .bool) .nil))
    · have e5 : decide ((n : Int) > IntKind.i64.wrap ((s.length : Int) - (at3 : Int))) = false := by rw [hsub]; exact decide_eq_false (by omega)
      have hw3 : IntKind.i64.wrap ((at3 : Int) + (n : Int)) = ((at3 + n : Nat) : Int) := w64 (by omega) (by omega)
      rw [fin_text hsh2, hrt, rTake, if_neg (by rw [List.length_drop]; exact hbig), List.drop_drop] at hfin
      have hfin : rNode (s.drop at1) = finN (k + 1) (field ++ [(s.drop at3).take n]) kind (s.drop (at3 + n)) := hfin
      have hcut2 : cutL (some (at3 : Int)) (some (IntKind.i64.wrap ((at3 : Int) + (n : Int)))) s = (s.drop at3).take n := by
        rw [hw3]; simp [cutL, List.drop_take]; omega
      refine pa [.b false, .b false] rfl ?_ ?_
      · (repeat' with_reducible apply AllP_cons) <;> try exact aC
        · show 0 + field.length * 1 = (texts field).length
          rw [txl]; omega
        · show (field.length + 1) * 16 ≤ 140737488355328
          omega
      refine S_round (k + 1, at3 + n, field ++ [(s.drop at3).take n], kind) (by show 3 - (k + 1) < 3 - k; omega) ⟨by show at3 + n ≤ s.length; omega, hfin, hkd, ?_, ?_⟩ (.cons rfl (.cons rfl (.cons (by show AV.int .i64 (IntKind.i64.wrap ((at3 : Int) + (n : Int))) = .int .i64 ((at3 + n : Nat) : Int); exact ai64 rfl (by omega)) (.cons rfl (.cons rfl (.cons (by show AV.ms 1 (w + 1 + field.length + 1) 0 (field.length + 1) 1 false = AV.ms 1 (w + 1 + (field ++ [_]).length) 0 (field ++ [_]).length 1 false; rw [List.length_append]; rfl) (.cons rfl (.cons (nX (by omega)) (.nil _))))))))) ?_
      · intro t ht
        rcases List.mem_append.1 ht with ht | ht
        · exact hft t ht
        · simp at ht; subst ht
          rw [List.length_take, List.length_drop]; omega
      · rcases hsh2 with ⟨rfl, rfl, rfl⟩ | ⟨rfl, a, rfl⟩
        · exact .inr (.inl ⟨rfl, _, rfl⟩)
        · exact .inr (.inr (.inr ⟨rfl, _, _, rfl⟩))
      · show ([(i, some (.cells (celsN out) ⟨false, none⟩)), (w + 1 + field.length + 1, some (.cells (texts field ++ [.str (cutL (some (at3 : Int)) (some (IntKind.i64.wrap ((at3 : Int) + (n : Int)))) s)]) ⟨false, none⟩))] : Heap) = [(i, some (.cells (celsN out) ⟨false, none⟩)), (w + 1 + (field ++ [(s.drop at3).take n]).length, some (.cells (texts (field ++ [(s.drop at3).take n])) ⟨false, none⟩))]
        rw [hcut2, List.length_append]
        have : texts (field ++ [(s.drop at3).take n]) = texts field ++ [.str ((s.drop at3).take n)] := by simp [texts]
        rw [this]; rfl
end Go.Proofs.YtpehmhlgldbeoaaGreatDoor
end
section
set_option linter.unusedVariables false
set_option linter.unusedSimpArgs false
set_option maxRecDepth 20000
set_option maxHeartbeats 4000000
namespace Go.Proofs.YtpehmhlgldbeoaaGreatDoor
open Go Go.Ab
theorem AddFileC_in {st fl : Bool} (l : List Fil) (f : Fil) (hl : l.length ≤ 1000000000) (hlt : lessF f.path l < l.length) :
    Calc cx 69 [.sl st fl 3 (fils l), filA f] (.sl true false 3 (fils (addF l f))) :=
  pure_intro (fun a w => Tryz.call69 a w) Tryz.func69 rfl Tryz.ntmps69 rfl (.sl (fun _ => rfl) (fils_free _)) fun B => by
    have htl := fils_len l
    have hle := lessF_le f.path l
    refine pB [] rfl ?_
    refine S_while (α := Nat) (fun i => [(0, .sl st fl 3 (fils l)), (3, .ptr 0 0 0), (5, .int .i64 (i : Nat))]) (fun _ => [(0, some (.cells [.str f.path, .str f.text, .bool f.run] ⟨false, some 48⟩))]) (fun i => i ≤ lessF f.path l) (fun i => l.length - i) 0
      (Nat.zero_le _) (.cons rfl (.cons rfl (.cons rfl (.nil _)))) rfl ?_
    intro i hi
    have hi : i ≤ lessF f.path l := hi
    have hil : i < l.length := by omega
    have e1 : decide ((i : Int) < (((fils l).length : Nat) : Int)) = true := decide_eq_true (by omega)
    have g1 : (fils l)[(i : Int).toNat]? = some (filA l[i]) := fils_get hil
    have hT : cutL (some (i : Int)) none (fils l) = fils (l.drop i) := by simp [cutL, fils]
    have hD : cutL none (some (i : Int)) (fils l) = fils (l.take i) := by simp [cutL, fils]
    by_cases hk : i < lessF f.path l
    · have e2 := lessF_lt hil hk
      refine pB [.b true, .v (filA l[i]), .b true] rfl ?_
      exact S_round (i + 1) (by show l.length - (i + 1) < l.length - i; omega) hk (.cons rfl (.cons rfl (.cons (nX (by omega)) (.nil _)))) rfl
    · have hie : i = lessF f.path l := by omega
      have e2 : Op.bytesLess l[i].path f.path = false := by subst hie; exact lessF_at hlt
      refine pa [.b true, .v (filA l[i]), .b false, .d 9 10 [] (fun _ => [(0, some (.cells [.str f.path, .str f.text, .bool f.run] ⟨false, some 48⟩)), (0, some (.cells (celsF (f :: l.drop i)) ⟨false, none⟩))]) [.ms 1 0 0 ((l.drop i).length + 1) 3 false]] rfl ?_ ?_
      · (repeat' with_reducible apply AllP_cons) <;> try exact aC
        · rw [hT]; exact flat_one _
        · rw [hT]; exact flat_one _
        · rw [hT, fils_len, List.length_drop]; left; omega
        · show (1 + (cutL (some (i : Int)) none (fils l)).length) * 40 ≤ 140737488355328
          rw [hT, fils_len, List.length_drop]; omega
        · show 1 + (cutL (some (i : Int)) none (fils l)).length ≤ 9223372036854775807
          rw [hT, fils_len, List.length_drop]; omega
        · show AV.ms 1 0 0 (1 + (cutL (some (i : Int)) none (fils l)).length) 3 false = _
          rw [hT, fils_len, Nat.add_comm 1]
        · rw [hT]
          show [(0, some (Box.cells [AV.str f.path, AV.str f.text, AV.bool f.run] ⟨false, some 48⟩)), (0, some (Box.cells ([AV.str f.path, AV.str f.text, AV.bool f.run] ++ flatA 3 (fils (l.drop i))) ⟨false, none⟩))] = _
          rw [flat_fils]; rfl
        · show 0 + ((l.drop i).length + 1) * 3 ≤ (celsF (f :: l.drop i)).length
          rw [cels_len, List.length_cons]; omega
        · intro y hy
          have hy : y ∈ celsF (f :: l.drop i) := List.mem_of_mem_take hy
          exact cels_one _ y hy
        · rw [hD]; exact flat_one _
        · show ((cutL none (some (i : Int)) (fils l)).length + ((l.drop i).length + 1)) * 40 ≤ 140737488355328
          rw [hD, fils_len, List.length_take, List.length_drop]; omega
        · rw [hD, fils_len, List.length_take, List.length_drop]; omega
      refine S_ret ⟨_, _, rfl, trivial, _, rfl, ?_⟩
      show Frz true [(0, some (.cells [.str f.path, .str f.text, .bool f.run] ⟨false, some 48⟩)), (0, some (.cells (celsF (f :: l.drop i)) ⟨false, none⟩)), (0, some (.cells (flatA 3 (cutL none (some (i : Int)) (fils l)) ++ (celsF (f :: l.drop i)).take (((l.drop i).length + 1) * 3)) ⟨false, none⟩))] (.ms 2 0 0 ((cutL none (some (i : Int)) (fils l)).length + ((l.drop i).length + 1)) 3 false) _
      have htk : (celsF (f :: l.drop i)).take (((l.drop i).length + 1) * 3) = celsF (f :: l.drop i) := List.take_of_length_le (by rw [cels_len, List.length_cons]; omega)
      have hea : l.take i ++ f :: l.drop i = addF l f := by unfold addF; rw [hie]
      have hlen : (addF l f).length = l.length + 1 := by rw [← hea, List.length_append, List.length_cons, List.length_take, List.length_drop]; omega
      have hcl := cels_len (addF l f)
      rw [hD, flat_fils, htk, ← celsF_app, hea, fils_len, List.length_take, List.length_drop, show min i l.length + (l.length - i + 1) = (addF l f).length by omega]
      exact .ms rfl (by omega) (by rw [List.drop_zero]; exact List.take_of_length_le (by omega)) (fil_size _) (fils_len _) (fils_free _)
theorem AddFileC_end {st fl : Bool} (l : List Fil) (f : Fil) (hl : l.length ≤ 1000000000) (hlt : lessF f.path l = l.length) :
    Calc cx 69 [.sl st fl 3 (fils l), filA f] (.sl true false 3 (fils (addF l f))) :=
  pure_intro (fun a w => Tryz.call69 a w) Tryz.func69 rfl Tryz.ntmps69 rfl (.sl (fun _ => rfl) (fils_free _)) fun B => by
    have htl := fils_len l
    refine pB [] rfl ?_
    refine S_while (α := Nat) (fun i => [(0, .sl st fl 3 (fils l)), (3, .ptr 0 0 0), (5, .int .i64 (i : Nat))]) (fun _ => [(0, some (.cells [.str f.path, .str f.text, .bool f.run] ⟨false, some 48⟩))]) (fun i => i ≤ l.length) (fun i => l.length - i) 0
      (Nat.zero_le _) (.cons rfl (.cons rfl (.cons rfl (.nil _)))) rfl ?_
    intro i hi
    have hi : i ≤ l.length := hi
    have hT : cutL (some (i : Int)) none (fils l) = fils (l.drop i) := by simp [cutL, fils]
    have hD : cutL none (some (i : Int)) (fils l) = fils (l.take i) := by simp [cutL, fils]
    by_cases hk : i < l.length
    · have e1 : decide ((i : Int) < (((fils l).length : Nat) : Int)) = true := decide_eq_true (by omega)
      have g1 : (fils l)[(i : Int).toNat]? = some (filA l[i]) := fils_get hk
      have e2 := lessF_lt (p := f.path) hk (by omega)
      refine pB [.b true, .v (filA l[i]), .b true] rfl ?_
      exact S_round (i + 1) (by show l.length - (i + 1) < l.length - i; omega) hk (.cons rfl (.cons rfl (.cons (nX (by omega)) (.nil _)))) rfl
    · have hie : i = l.length := by omega
      have e1 : decide ((i : Int) < (((fils l).length : Nat) : Int)) = false := decide_eq_false (by omega)
      refine pa [.b false, .b false, .d 9 10 [1000001] (fun σ => σ) [.sl true true 3 [filA f]]] rfl ?_ ?_
      · (repeat' with_reducible apply AllP_cons) <;> try exact aC
        · exact OpSpec.append0 (st := true) (fl := true) (st' := st) (fl' := _) (sz := 3) rfl rfl rfl rfl (by show AV.sl st _ 3 (cutL (some (i : Int)) none (fils l)) = _; rw [hT, hie, List.drop_length]; rfl)
        · rw [hD]; exact flat_one _
        · show ((cutL none (some (i : Int)) (fils l)).length + 1) * 40 ≤ 140737488355328
          rw [hD, fils_len, List.length_take]; omega
        · show (cutL none (some (i : Int)) (fils l)).length + 1 ≤ 9223372036854775807
          rw [hD, fils_len, List.length_take]; omega
      refine S_ret ⟨_, _, rfl, trivial, _, rfl, ?_⟩
      show Frz true [(0, some (.cells [.str f.path, .str f.text, .bool f.run] ⟨false, some 48⟩)), (0, some (.cells (flatA 3 (cutL none (some (i : Int)) (fils l)) ++ celsF [f]) ⟨false, none⟩))] (.ms 1 0 0 ((cutL none (some (i : Int)) (fils l)).length + 1) 3 false) _
      have hea : l.take i ++ [f] = addF l f := by unfold addF; rw [hlt, hie, List.drop_length]
      have hlen : (addF l f).length = l.length + 1 := by rw [← hea, List.length_append, List.length_take, hie, Nat.min_self]; rfl
      have hcl := cels_len (addF l f)
      rw [hD, flat_fils, ← celsF_app, hea, fils_len, List.length_take, show min i l.length + 1 = (addF l f).length by omega]
      exact .ms rfl (by omega) (by rw [List.drop_zero]; exact List.take_of_length_le (by omega)) (fil_size _) (fils_len _) (fils_free _)
theorem AddFile_ok {st fl : Bool} (l : List Fil) (f : Fil) (hl : l.length ≤ 1000000000) : Calc cx 69 [.sl st fl 3 (fils l), filA f] (.sl true false 3 (fils (addF l f))) := by
  have := lessF_le f.path l
  by_cases h : lessF f.path l < l.length
  · exact AddFileC_in l f hl h
  · exact AddFileC_end l f hl (by omega)
def getF (blobs : List (List UInt8)) (d : List UInt8) : Option (List UInt8) := blobs.find? fun s => sha s == d
def findAV (o : Option (List UInt8)) : AV := match o with
  | some t => .tup [.str t, .bool true]
  | none => .tup [.str [], .bool false]
def sumsAV (a b fa fb : Bool) (blobs : List (List UInt8)) : AV := .agg [.sl a fa 1 (texts (blobs.map sha)), .sl b fb 1 (texts blobs)]
theorem find_ok {a b fa fb : Bool} (blobs : List (List UInt8)) (d : List UInt8) (hb : blobs.length ≤ 1000000000) : Calc cx 87 [sumsAV a b fa fb blobs, .str d] (findAV (getF blobs d)) :=
  pure_intro (fun a w => Tryz.call87 a w) Tryz.func87 rfl Tryz.ntmps87 rfl (by unfold findAV; split <;> exact .tup (by intro x hx; simp at hx; rcases hx with rfl | rfl; exact .str; exact .bool)) fun B => by
    have hts := txl blobs
    have htd : (texts (blobs.map sha)).length = blobs.length := by rw [txl, List.length_map]
    refine pB [] rfl ?_
    have hF : ∀ i, i < blobs.length → (∀ j (hj : j < blobs.length), j < i → (sha blobs[j] == d) = false) → getF blobs d = (blobs.drop i).find? fun s => sha s == d := by
      intro i hi hn
      unfold getF
      conv => lhs; rw [← List.take_append_drop i blobs]
      rw [List.find?_append]
      have : (blobs.take i).find? (fun s => sha s == d) = none := by
        rw [List.find?_eq_none]
        intro s hs
        obtain ⟨j, hj, rfl⟩ := List.getElem_of_mem hs
        rw [List.length_take] at hj
        rw [List.getElem_take, hn j (by omega) (by omega)]; simp
      rw [this]; rfl
    refine S_while (α := Nat) (fun i => [(1, .str d), (2, .ptr 0 0 0), (6, .int .i64 (i : Nat))]) (fun _ => [(0, some (.cells [.sl a fa 1 (texts (blobs.map sha)), .sl b fb 1 (texts blobs)] ⟨false, some 68⟩))]) (fun i => i ≤ blobs.length ∧ ∀ j (hj : j < blobs.length), j < i → (sha blobs[j] == d) = false) (fun i => blobs.length - i) 0
      ⟨Nat.zero_le _, fun j hj h => absurd h (Nat.not_lt_zero _)⟩ (.cons rfl (.cons rfl (.cons rfl (.nil _)))) rfl ?_
    rintro i ⟨hi, hn⟩
    have hi : i ≤ blobs.length := hi
    by_cases hlt : i < blobs.length
    · have e1 : decide ((i : Int) < (((texts (blobs.map sha)).length : Nat) : Int)) = true := decide_eq_true (by omega)
      have g1 : (texts (blobs.map sha))[(i : Int).toNat]? = some (.str (sha blobs[i])) := by rw [Int.toNat_natCast]; simp [texts, List.getElem?_eq_getElem hlt]
      have g2 : (texts blobs)[(i : Int).toNat]? = some (.str blobs[i]) := by rw [Int.toNat_natCast]; simp [texts, List.getElem?_eq_getElem hlt]
      have hg := hF i hlt hn
      rw [List.drop_eq_getElem_cons hlt, List.find?_cons] at hg
      cases h : sha blobs[i] == d with
      | true =>
        rw [h] at hg
        have hg : getF blobs d = some blobs[i] := hg
        rw [hg]
        refine pB [.b true, .v (.str (sha blobs[i])), .b true, .v (.str blobs[i])] rfl ?_
        exact S_retc (.tup (by intro x hx; simp at hx; rcases hx with rfl | rfl; exact .str; exact .bool)) rfl trivial rfl
      | false =>
        refine pB [.b true, .v (.str (sha blobs[i])), .b false] rfl ?_
        exact S_round (i + 1) (by show blobs.length - (i + 1) < blobs.length - i; omega) ⟨hlt, fun j hj h' => by
          by_cases hji : j < i
          · exact hn j hj hji
          · have : j = i := by omega
            subst this; exact h⟩ (.cons rfl (.cons rfl (.cons (nX (by omega)) (.nil _)))) rfl
    · have e1 : decide ((i : Int) < (((texts (blobs.map sha)).length : Nat) : Int)) = false := decide_eq_false (by omega)
      have hg : getF blobs d = none := by
        unfold getF
        rw [List.find?_eq_none]
        intro s hs
        obtain ⟨j, hj, rfl⟩ := List.getElem_of_mem hs
        rw [hn j hj (by omega)]; simp
      rw [hg]
      refine pB [.b false] rfl ?_
      exact S_retc (.tup (by intro x hx; simp at hx; rcases hx with rfl | rfl; exact .str; exact .bool)) rfl trivial rfl
end Go.Proofs.YtpehmhlgldbeoaaGreatDoor
end
section
set_option linter.unusedVariables false
set_option linter.unusedSimpArgs false
set_option maxRecDepth 20000
set_option maxHeartbeats 4000000
namespace Go.Proofs.YtpehmhlgldbeoaaGreatDoor
open Go Go.Ab
def flatNR (sub : List UInt8 → List UInt8 → List Fil → List Fil × Nat) (get : List UInt8 → Option (List UInt8)) (path : List UInt8) : List NodeV → List Fil → List Fil × Nat
  | [], out => (out, 0)
  | nd :: r, out =>
    if 100 < (path ++ nd.name).length then (out, 2)
    else if nd.kind = 3 then
      if (sub nd.dig (path ++ nd.name ++ [47]) out).2 = 0 then flatNR sub get path r (sub nd.dig (path ++ nd.name ++ [47]) out).1 else sub nd.dig (path ++ nd.name ++ [47]) out
    else match get nd.dig with
      | none => (out, 5)
      | some t => if out.length = 60 then (out, 2) else flatNR sub get path r (addF out ⟨path ++ nd.name, t, nd.kind == 2⟩)
def flatDR (get : List UInt8 → Option (List UInt8)) : Nat → List UInt8 → List UInt8 → List Fil → List Fil × Nat
  | 0, d, path, out => (out, 0)
  | n + 1, d, path, out => match get d with
    | none => (out, 5)
    | some s => if (readNd s).2 ≠ 0 then (out, 1) else if (readNd s).1 = [] ∧ path ≠ [] then (out, 4) else flatNR (flatDR get n) get path (readNd s).1 out
theorem flatNR_len {sub : List UInt8 → List UInt8 → List Fil → List Fil × Nat} {get : List UInt8 → Option (List UInt8)} {path : List UInt8} (hs : ∀ d p o, o.length ≤ 60 → (sub d p o).1.length ≤ 60) :
    ∀ (l : List NodeV) (out : List Fil), out.length ≤ 60 → (flatNR sub get path l out).1.length ≤ 60
  | [], out, h => h
  | nd :: r, out, h => by
    rw [flatNR]
    split
    · exact h
    split
    · have h1 := hs nd.dig (path ++ nd.name ++ [47]) out h
      split
      · exact flatNR_len (get := get) (path := path) hs r _ h1
      · exact h1
    split
    · exact h
    · split
      · exact h
      · exact flatNR_len (get := get) (path := path) hs r _ (by rw [addF_len]; omega)
theorem flatDR_len (get : List UInt8 → Option (List UInt8)) : ∀ (n : Nat) (d path : List UInt8) (out : List Fil), out.length ≤ 60 → (flatDR get n d path out).1.length ≤ 60
  | 0, d, path, out, h => h
  | n + 1, d, path, out, h => by
    rw [flatDR]
    split
    · exact h
    · split
      · exact h
      · split
        · exact h
        · exact flatNR_len (flatDR_len get n) _ out h
theorem flatNR_at {sub : List UInt8 → List UInt8 → List Fil → List Fil × Nat} {get : List UInt8 → Option (List UInt8)} {path : List UInt8} {l : List NodeV} {j : Nat} (h : j < l.length) (out : List Fil) : flatNR sub get path (l.drop j) out =
    if 100 < (path ++ l[j].name).length then (out, 2)
    else if l[j].kind = 3 then
      if (sub l[j].dig (path ++ l[j].name ++ [47]) out).2 = 0 then flatNR sub get path (l.drop (j + 1)) (sub l[j].dig (path ++ l[j].name ++ [47]) out).1 else sub l[j].dig (path ++ l[j].name ++ [47]) out
    else match get l[j].dig with
      | none => (out, 5)
      | some t => if out.length = 60 then (out, 2) else flatNR sub get path (l.drop (j + 1)) (addF out ⟨path ++ l[j].name, t, l[j].kind == 2⟩) := by
  rw [List.drop_eq_getElem_cons h, flatNR]
def resR (y : List Fil × Nat) : AV := .tup [.sl true false 3 (fils y.1), .int .i64 (y.2 : Nat)]
theorem resR_free (y : List Fil × Nat) : Free true (resR y) := .tup (by intro x hx; simp at hx; rcases hx with rfl | rfl; exact .sl (fun _ => rfl) (fils_free _); exact .int)
theorem unpAV_ok {s : List UInt8} (h : (readNd s).2 = 0) : unpAV s = .tup [.sl true false 3 (nodes (readNd s).1), .bool true] := by
  obtain ⟨h1, h2⟩ := unp_read h
  unfold unpB at h2
  rw [h1] at h2
  unfold unpAV
  rw [h1]
  show AV.tup [_, .bool (decide ([] = []) && decide (chkN (readNd s).1 = 0))] = _
  rw [show (decide (([] : List UInt8) = []) && decide (chkN (readNd s).1 = 0)) = true from h2]
theorem UnpackNodes_no {s : List UInt8} (hs : s.length ≤ 1000000000) (h : (readNd s).2 ≠ 0) : Calc cx 88 [.str s] (.tup [.top, .bool false]) := by
  have hU := UnpackNodes_ok s hs
  have hb := unp_no h
  have hq : ∃ x, unpAV s = .tup [x, .bool false] := by
    unfold unpAV
    unfold unpB at hb
    split
    · exact ⟨_, rfl⟩
    · rename_i ts q hu
      rw [hu] at hb
      have hb : (decide (q = []) && decide (chkN ts = 0)) = false := hb
      rw [hb]; exact ⟨_, rfl⟩
  obtain ⟨x, hx⟩ := hq
  rw [hx] at hU
  refine hU.weak (.tup (by intro y hy; simp at hy; rcases hy with rfl | rfl; exact .top; exact .bool)) fun r w v hv => ?_
  cases hv with
  | tup hn hall =>
    refine .tup hn fun i hi => ?_
    have := hall i hi
    rcases i with _ | _ | i
    · exact .top
    · exact this
    · simp at hi; omega
theorem flat_ok {a b fa fb : Bool} (blobs : List (List UInt8)) (hbl : blobs.length ≤ 1000000000) (hbt : ∀ s ∈ blobs, s.length ≤ 1000000) : ∀ (n : Nat) (d path : List UInt8) (out : List Fil), path.length ≤ 101 → 102 ≤ n + path.length → out.length ≤ 60 →
    Calc cx 53 [sumsAV a b fa fb blobs, .str d, .str path, .sl true false 3 (fils out)] (resR (flatDR (getF blobs) n d path out))
  | 0, d, path, out, h1, h2, h3 => by omega
  | n + 1, d, path, out, h1, h2, h3 => pure_intro (fun a w => Tryz.call53 a w) Tryz.func53 rfl Tryz.ntmps53 rfl (resR_free _) fun B => by
    have hm : ∀ σ : Heap, Frz false σ (sumsAV a b fa fb blobs) (sumsAV a b fa fb blobs) := fun σ => .refl (.agg (by intro x hx; simp at hx; rcases hx with rfl | rfl; exact .sl (fun h => by cases h) (texts_any _); exact .sl (fun h => by cases h) (texts_any _)))
    have hFd := find_ok (a := a) (b := b) (fa := fa) (fb := fb) blobs d hbl
    cases hg : getF blobs d with
    | none =>
      rw [hg] at hFd
      have hres : flatDR (getF blobs) (n + 1) d path out = (out, 5) := by rw [flatDR, hg]
      rw [hres]
      refine pa [.v (findAV none), .b true] rfl ?_ ?_
      · (repeat' with_reducible apply AllP_cons) <;> try exact aC
        · exact ⟨_, hFd, .cons (hm _) (.cons (.refl .str) (.nil _))⟩
      exact S_retc (resR_free _) rfl trivial rfl
    | some s =>
      rw [hg] at hFd
      have hsl : s.length ≤ 1000000 := hbt s (List.mem_of_find?_eq_some hg)
      by_cases he : (readNd s).2 = 0
      case neg =>
        have hres : flatDR (getF blobs) (n + 1) d path out = (out, 1) := by rw [flatDR, hg]; show (if (readNd s).2 ≠ 0 then _ else _) = _; rw [if_pos he]
        rw [hres]
        have hU := UnpackNodes_no (s := s) (by omega) he
        refine pa [.v (findAV (some s)), .b false, .v (.tup [.top, .bool false]), .b true] rfl ?_ ?_
        · (repeat' with_reducible apply AllP_cons) <;> try exact aC
          · exact ⟨_, hFd, .cons (hm _) (.cons (.refl .str) (.nil _))⟩
          · exact ⟨_, hU, .cons (.refl .str) (.nil _)⟩
        exact S_retc (resR_free _) rfl trivial rfl
      have hU := UnpackNodes_ok s (by omega)
      rw [unpAV_ok he] at hU
      have hD : flatDR (getF blobs) (n + 1) d path out = if (readNd s).1 = [] ∧ path ≠ [] then (out, 4) else flatNR (flatDR (getF blobs) n) (getF blobs) path (readNd s).1 out := by
        rw [flatDR, hg]; show (if (readNd s).2 ≠ 0 then _ else _) = _; rw [if_neg (by simp [he])]
      have hnl0 : (readNd s).1.length ≤ 60 := readNd_len he
      have hnm0 : ∀ x ∈ (readNd s).1, x.name.length ≤ 20 := readNd_name he
      generalize (readNd s).1 = nds at *
      have hnl := nodes_len nds
      by_cases hbad : nds = [] ∧ path ≠ []
      · rw [if_pos hbad] at hD
        rw [hD]
        obtain ⟨rfl, hp⟩ := hbad
        refine pa [.v (findAV (some s)), .b false, .v (.tup [.sl true false 3 (nodes []), .bool true]), .b false, .b true, .b true] rfl ?_ ?_
        · (repeat' with_reducible apply AllP_cons) <;> try exact aC
          · exact ⟨_, hFd, .cons (hm _) (.cons (.refl .str) (.nil _))⟩
          · exact ⟨_, hU, .cons (.refl .str) (.nil _)⟩
          · show (!(path == [])) = true
            simp [hp]
        exact S_retc (resR_free _) rfl trivial rfl
      rw [if_neg hbad] at hD
      rw [hD]
      by_cases hem : nds = []
      case' pos =>
        have hp0 : path = [] := Classical.byContradiction fun hp => hbad ⟨hem, hp⟩
        have e1 : ((((nodes nds).length : Nat) : Int) == 0) = true := by rw [hnl, hem]; rfl
        have e2 : (!(path == [])) = false := by rw [hp0]; rfl
        refine pa [.v (findAV (some s)), .b false, .v (.tup [.sl true false 3 (nodes nds), .bool true]), .b false, .b true, .b false] rfl ?_ ?_
      case' neg =>
        have e1 : ((((nodes nds).length : Nat) : Int) == 0) = false := by
          have : nds.length ≠ 0 := fun h => hem (List.length_eq_zero_iff.1 h)
          rw [hnl]; simp; exact hem
        refine pa [.v (findAV (some s)), .b false, .v (.tup [.sl true false 3 (nodes nds), .bool true]), .b false, .b false, .b false] rfl ?_ ?_
      case pos.refine_1 | neg.refine_1 =>
        (repeat' with_reducible apply AllP_cons) <;> try exact aC
        · exact ⟨_, hFd, .cons (hm _) (.cons (.refl .str) (.nil _))⟩
        · exact ⟨_, hU, .cons (.refl .str) (.nil _)⟩
      all_goals
        refine S_while (α := Nat × List Fil) (fun q => [(2, .str path), (3, .sl true false 3 (fils q.2)), (4, .ptr 0 0 0), (12, .sl true false 3 (nodes nds)), (13, .int .i64 (q.1 : Nat))]) (fun q => [(0, some (.cells [.sl a fa 1 (texts (blobs.map sha)), .sl b fb 1 (texts blobs)] ⟨false, some 68⟩))]) (fun q => q.1 ≤ nds.length ∧ q.2.length ≤ 60 ∧ flatNR (flatDR (getF blobs) n) (getF blobs) path (nds.drop q.1) q.2 = flatNR (flatDR (getF blobs) n) (getF blobs) path nds out) (fun q => nds.length - q.1) (0, out)
          ⟨Nat.zero_le _, h3, rfl⟩ (.cons rfl (.cons rfl (.cons rfl (.cons rfl (.cons rfl (.nil _)))))) rfl ?_
        rintro ⟨j, o⟩ ⟨hj, ho, hI⟩
        have hj : j ≤ nds.length := hj
        have ho : o.length ≤ 60 := ho
        have hI : flatNR (flatDR (getF blobs) n) (getF blobs) path (nds.drop j) o = flatNR (flatDR (getF blobs) n) (getF blobs) path nds out := hI
        by_cases hjt : j < nds.length
        · have e3 : decide ((j : Int) < (((nodes nds).length : Nat) : Int)) = true := decide_eq_true (by omega)
          have g1 : (nodes nds)[(j : Int).toNat]? = some (nodeAV nds[j]) := nodes_get hjt
          have hnm := hnm0 _ (List.getElem_mem hjt)
          rw [flatNR_at hjt] at hI
          generalize nds[j] = nd at *
          have hpl : (path ++ nd.name).length = path.length + nd.name.length := List.length_append ..
          have hfl := fils_len o
          by_cases hlong : 100 < (path ++ nd.name).length
          · rw [if_pos hlong] at hI
            rw [← hI]
            have e4 : decide ((((path ++ nd.name).length : Nat) : Int) > 100) = true := decide_eq_true (by omega)
            refine pB [.b true, .v (nodeAV nd), .b true] rfl ?_
            exact S_retc (resR_free _) rfl trivial rfl
          · rw [if_neg hlong] at hI
            have e4 : decide ((((path ++ nd.name).length : Nat) : Int) > 100) = false := decide_eq_false (by omega)
            by_cases hk3 : nd.kind = 3
            · rw [if_pos hk3] at hI
              have e5 : (nd.kind == 3) = true := by rw [hk3]; rfl
              have hS := flat_ok (a := a) (b := b) (fa := fa) (fb := fb) blobs hbl hbt n nd.dig (path ++ nd.name ++ [47]) o (by simp; omega) (by simp; omega) ho
              have hSl := flatDR_len (getF blobs) n nd.dig (path ++ nd.name ++ [47]) o ho
              generalize flatDR (getF blobs) n nd.dig (path ++ nd.name ++ [47]) o = y at *
              obtain ⟨y1, y2⟩ := y
              by_cases hy : y2 = 0
              · subst hy
                rw [if_pos rfl] at hI
                refine pa [.b true, .v (nodeAV nd), .b false, .v (nodeAV nd), .b true, .v (nodeAV nd), .v (resR (y1, 0)), .b false] rfl ?_ ?_
                · (repeat' with_reducible apply AllP_cons) <;> try exact aC
                  · exact ⟨_, hS, .cons (hm _) (.cons (.refl .str) (.cons (.refl .str) (.cons (fsR _) (.nil _))))⟩
                exact S_round (j + 1, y1) (by show nds.length - (j + 1) < nds.length - j; omega) ⟨hjt, hSl, hI⟩ (.cons rfl (.cons rfl (.cons rfl (.cons rfl (.cons (nX (by omega)) (.nil _)))))) rfl
              · rw [if_neg hy] at hI
                rw [← hI]
                refine pa [.b true, .v (nodeAV nd), .b false, .v (nodeAV nd), .b true, .v (nodeAV nd), .v (resR (y1, y2)), .b true] rfl ?_ ?_
                · (repeat' with_reducible apply AllP_cons) <;> try exact aC
                  all_goals first
                    | exact ⟨_, hS, .cons (hm _) (.cons (.refl .str) (.cons (.refl .str) (.cons (fsR _) (.nil _))))⟩
                    | (show ((((y2 : Int)) != 0) = true); rw [chk_bne]; simpa using hy)
                exact S_retc (resR_free _) rfl trivial rfl
            · rw [if_neg hk3] at hI
              have e5 : (nd.kind == 3) = false := by simpa using hk3
              have hF2 := find_ok (a := a) (b := b) (fa := fa) (fb := fb) blobs nd.dig hbl
              cases hg2 : getF blobs nd.dig with
              | none =>
                rw [hg2] at hI hF2
                rw [← hI]
                refine pa [.b true, .v (nodeAV nd), .b false, .v (nodeAV nd), .b false, .v (nodeAV nd), .v (findAV none), .b true] rfl ?_ ?_
                · (repeat' with_reducible apply AllP_cons) <;> try exact aC
                  all_goals exact ⟨_, hF2, .cons (hm _) (.cons (.refl .str) (.nil _))⟩
                exact S_retc (resR_free _) rfl trivial rfl
              | some t =>
                rw [hg2] at hI hF2
                have htl : t.length ≤ 1000000 := hbt t (List.mem_of_find?_eq_some hg2)
                by_cases h60 : o.length = 60
                · have hI : (if o.length = 60 then (o, 2) else _) = _ := hI
                  rw [if_pos h60] at hI
                  rw [← hI]
                  have e6 : ((((fils o).length : Nat) : Int) == 60) = true := by rw [hfl, h60]; rfl
                  refine pa [.b true, .v (nodeAV nd), .b false, .v (nodeAV nd), .b false, .v (nodeAV nd), .v (findAV (some t)), .b false, .b true] rfl ?_ ?_
                  · (repeat' with_reducible apply AllP_cons) <;> try exact aC
                    all_goals exact ⟨_, hF2, .cons (hm _) (.cons (.refl .str) (.nil _))⟩
                  exact S_retc (resR_free _) rfl trivial rfl
                · have hI : (if o.length = 60 then (o, 2) else _) = _ := hI
                  rw [if_neg h60] at hI
                  have e6 : ((((fils o).length : Nat) : Int) == 60) = false := by rw [hfl]; simp; omega
                  have hAF := AddFile_ok (st := true) (fl := false) o ⟨path ++ nd.name, t, nd.kind == 2⟩ (by omega)
                  have hal := addF_len o ⟨path ++ nd.name, t, nd.kind == 2⟩
                  generalize addF o ⟨path ++ nd.name, t, nd.kind == 2⟩ = o' at *
                  refine pa [.b true, .v (nodeAV nd), .b false, .v (nodeAV nd), .b false, .v (nodeAV nd), .v (findAV (some t)), .b false, .b false, .v (nodeAV nd), .v (.sl true false 3 (fils o'))] rfl ?_ ?_
                  · (repeat' with_reducible apply AllP_cons) <;> try exact aC
                    · exact ⟨_, hF2, .cons (hm _) (.cons (.refl .str) (.nil _))⟩
                    · exact ⟨_, hAF, .cons (fsR _) (.cons (.refl (filA_free (⟨path ++ nd.name, t, nd.kind == 2⟩ : Fil))) (.nil _))⟩
                  exact S_round (j + 1, o') (by show nds.length - (j + 1) < nds.length - j; omega) ⟨hjt, by show o'.length ≤ 60; omega, hI⟩ (.cons rfl (.cons rfl (.cons rfl (.cons rfl (.cons (nX (by omega)) (.nil _)))))) rfl
        · have e3 : decide ((j : Int) < (((nodes nds).length : Nat) : Int)) = false := decide_eq_false (by omega)
          rw [List.drop_eq_nil_of_le (by omega), flatNR] at hI
          rw [← hI]
          refine pB [.b false] rfl ?_
          exact S_retc (resR_free _) rfl trivial rfl
end Go.Proofs.YtpehmhlgldbeoaaGreatDoor
end
