/-
  Texts of our own, in one file.
-/
import Derived.Test.YtpehmhlgldbeoaaGreatDoorGrpD
import Derived.WideShapes
import Derived.Shelf.Spec.SlicesGrow
import Derived.Shelf.SlSortCmp.WholeK
import Derived.WalkKit
import Derived.Lib.Walk
section
set_option linter.unusedVariables false
set_option linter.unusedSimpArgs false
set_option maxRecDepth 20000
set_option maxHeartbeats 4000000
namespace Go.Proofs.YtpehmhlgldbeoaaGreatDoor
open Go Go.Ab
def flatN (sub : List UInt8 → List UInt8 → List Fil → List Fil × Nat) (get : List UInt8 → Option (List UInt8)) (path : List UInt8) : List NodeV → List Fil → List Fil × Nat
  | [], out => (out, 0)
  | nd :: r, out =>
    if 100 < (path ++ nd.name).length then (out, 2)
    else if nd.kind = 3 then
      if (sub nd.dig (path ++ nd.name ++ [47]) out).2 = 0 then flatN sub get path r (sub nd.dig (path ++ nd.name ++ [47]) out).1 else sub nd.dig (path ++ nd.name ++ [47]) out
    else match get nd.dig with
      | none => (out, 5)
      | some t => if out.length = 60 then (out, 2) else flatN sub get path r (out ++ [⟨path ++ nd.name, t, nd.kind == 2⟩])
def flatD (get : List UInt8 → Option (List UInt8)) : Nat → List UInt8 → List UInt8 → List Fil → List Fil × Nat
  | 0, d, path, out => (out, 0)
  | n + 1, d, path, out => match get d with
    | none => (out, 5)
    | some s => if (readNd s).2 ≠ 0 then (out, 1) else if (readNd s).1 = [] ∧ path ≠ [] then (out, 4) else flatN (flatD get n) get path (readNd s).1 out
theorem cels_free {st : Bool} (g : List Fil) : ∀ x ∈ celsF g, Free st x := by
  intro x hx
  obtain ⟨y, hy, hx⟩ := List.mem_flatMap.1 hx
  obtain ⟨f, _, rfl⟩ := List.mem_map.1 hy
  have hx : x ∈ [AV.str f.path, .str f.text, .bool f.run] := hx
  simp at hx; rcases hx with rfl | rfl | rfl
  · exact .str
  · exact .str
  · exact .bool
theorem celsF_add (g : List Fil) (f : Fil) : celsF (g ++ [f]) = celsF g ++ [.str f.path, .str f.text, .bool f.run] := by
  unfold celsF fils
  rw [List.map_append, List.flatMap_append]; rfl
theorem flatN_len {sub : List UInt8 → List UInt8 → List Fil → List Fil × Nat} {get : List UInt8 → Option (List UInt8)} {path : List UInt8} (hs : ∀ d p o, o.length ≤ 60 → (sub d p o).1.length ≤ 60 ∧ o.length ≤ (sub d p o).1.length) :
    ∀ (l : List NodeV) (out : List Fil), out.length ≤ 60 → (flatN sub get path l out).1.length ≤ 60 ∧ out.length ≤ (flatN sub get path l out).1.length
  | [], out, h => ⟨h, Nat.le_refl _⟩
  | nd :: r, out, h => by
    rw [flatN]
    split
    · exact ⟨h, Nat.le_refl _⟩
    split
    · have h1 := hs nd.dig (path ++ nd.name ++ [47]) out h
      split
      · have h2 := flatN_len (get := get) (path := path) hs r _ h1.1
        exact ⟨h2.1, Nat.le_trans h1.2 h2.2⟩
      · exact h1
    split
    · exact ⟨h, Nat.le_refl _⟩
    · split
      · exact ⟨h, Nat.le_refl _⟩
      · have h2 := flatN_len (get := get) (path := path) hs r (out ++ [⟨path ++ nd.name, ‹_›, nd.kind == 2⟩]) (by simp; omega)
        rw [List.length_append] at h2
        exact ⟨h2.1, Nat.le_trans (Nat.le_add_right _ _) h2.2⟩
theorem flatD_len (get : List UInt8 → Option (List UInt8)) : ∀ (n : Nat) (d path : List UInt8) (out : List Fil), out.length ≤ 60 → (flatD get n d path out).1.length ≤ 60 ∧ out.length ≤ (flatD get n d path out).1.length
  | 0, d, path, out, h => ⟨h, Nat.le_refl _⟩
  | n + 1, d, path, out, h => by
    rw [flatD]
    split
    · exact ⟨h, Nat.le_refl _⟩
    · split
      · exact ⟨h, Nat.le_refl _⟩
      · split
        · exact ⟨h, Nat.le_refl _⟩
        · exact flatN_len (flatD_len get n) _ out h
theorem readNd_fit {s : List UInt8} (h : (readNd s).2 = 0) : chkN (readNd s).1 = 0 := by
  unfold readNd at h ⊢
  split at h
  · cases h
  · rename_i ts q hx
    split at h
    · rename_i hq
      rw [if_pos hq]
      unfold nodesOf at hq
      exact congrArg Prod.snd hq
    · cases h
theorem readNd_len {s : List UInt8} (h : (readNd s).2 = 0) : (readNd s).1.length ≤ 60 := (chk_fit (readNd_fit h)).len
theorem readNd_name {s : List UInt8} (h : (readNd s).2 = 0) : ∀ x ∈ (readNd s).1, x.name.length ≤ 20 := (chk_fit (readNd_fit h)).name
def getM (ks : List (List UInt8)) (tx : List UInt8 → List UInt8) : List UInt8 → Option (List UInt8) := fun d => if d ∈ ks then some (tx d) else none
def hpT (ks : List (List UInt8)) (tx : List UInt8 → List UInt8) (g : Nat) (out : List Fil) (τ : Heap) : Heap :=
  (0, mapBx ks fun d => .str (tx d)) :: (0, some (.cells [.map 0 0, .ms 2 (g + out.length) 0 out.length 3 false] ⟨false, some 61⟩)) :: (g + out.length, some (.cells (celsF out) ⟨false, none⟩)) :: τ
def hpF (ks : List (List UInt8)) (tx : List UInt8 → List UInt8) (g : Nat) (out : List Fil) : Heap := hpT ks tx g out []
theorem hpF_rn (ks : List (List UInt8)) (tx : List UInt8 → List UInt8) (g : Nat) (out : List Fil) : RnH (List.range 3) (hpF ks tx g out) (hpF ks tx g out) :=
  .cons (.live (.map rfl fun i h1 h2 => by simp only [mapF, List.getElem_map]; exact ⟨.free .str, .free .str⟩)) (.cons (.live (.cells (.cons (.map rfl) (.cons (.ms rfl) (.nil _))))) (.cons (.live (.cells ⟨rfl, fun i h1 h2 => .free (cels_free out _ (List.getElem_mem _))⟩)) (.nil _)))
theorem flatN_at {sub : List UInt8 → List UInt8 → List Fil → List Fil × Nat} {get : List UInt8 → Option (List UInt8)} {path : List UInt8} {l : List NodeV} {j : Nat} (h : j < l.length) (out : List Fil) : flatN sub get path (l.drop j) out =
    if 100 < (path ++ l[j].name).length then (out, 2)
    else if l[j].kind = 3 then
      if (sub l[j].dig (path ++ l[j].name ++ [47]) out).2 = 0 then flatN sub get path (l.drop (j + 1)) (sub l[j].dig (path ++ l[j].name ++ [47]) out).1 else sub l[j].dig (path ++ l[j].name ++ [47]) out
    else match get l[j].dig with
      | none => (out, 5)
      | some t => if out.length = 60 then (out, 2) else flatN sub get path (l.drop (j + 1)) (out ++ [⟨path ++ l[j].name, t, l[j].kind == 2⟩]) := by
  rw [List.drop_eq_getElem_cons h, flatN]
theorem dir_ok (ks : List (List UInt8)) (tx : List UInt8 → List UInt8) (htx : ∀ d ∈ ks, (tx d).length ≤ 1000000) (g : Nat) : ∀ (n : Nat) (d path : List UInt8) (out : List Fil), path.length ≤ 101 → 102 ≤ n + path.length → out.length ≤ 60 →
    CallOk cx 48 [.ptr 1 0 0, .str d, .str path] (hpF ks tx g out) (fun o s => o = .ret (.int .i64 ((flatD (getM ks tx) n d path out).2 : Nat)) ∧ s = hpF ks tx g (flatD (getM ks tx) n d path out).1)
  | 0, d, path, out, h1, h2, h3 => by omega
  | n + 1, d, path, out, h1, h2, h3 => callOk_introT (fun a w => Tryz.call48 a w) Tryz.func48 rfl Tryz.ntmps48 rfl fun B => by
    have ret : ∀ (o : List Fil) (e : Nat) (τ : Heap), (flatD (getM ks tx) (n + 1) d path out) = (o, e) → TR 3 (fun z s => z = .ret (.int .i64 ((flatD (getM ks tx) (n + 1) d path out).2 : Nat)) ∧ s = hpF ks tx g (flatD (getM ks tx) (n + 1) d path out).1) (.ret (.int .i64 (e : Nat))) (hpT ks tx g o τ) := by
      intro o e τ he
      rw [he]
      refine ⟨3, Nat.le_refl _, LowH.of (fun x hx y hy => ?_), _, .low .int, rfl, rfl⟩
      have hx : x ∈ hpF ks tx g o := hx
      unfold hpF hpT at hx
      simp only [List.mem_cons, List.not_mem_nil, or_false] at hx
      rcases hx with rfl | rfl | rfl
      · cases hy; exact .map fun p hp => by obtain ⟨t, _, rfl⟩ := List.mem_map.1 hp; exact ⟨.str, .str⟩
      · cases hy; exact .cells (by intro z hz; simp at hz; rcases hz with rfl | rfl; exact .map (by decide); exact .ms (by decide))
      · cases hy
        refine .cells fun z hz => ?_
        obtain ⟨y, hy, hz⟩ := List.mem_flatMap.1 hz
        obtain ⟨f, _, rfl⟩ := List.mem_map.1 hy
        have hz : z ∈ [AV.str f.path, .str f.text, .bool f.run] := hz
        simp at hz; rcases hz with rfl | rfl | rfl; exact .str; exact .str; exact .bool
    refine S_dead ?_ ⟨_, _, .inl rfl⟩
    by_cases hk : d ∈ ks
    case neg =>
      have hres : flatD (getM ks tx) (n + 1) d path out = (out, 5) := by rw [flatD, getM, if_neg hk]
      refine pa [.v (.tup [.str [], .bool false]), .b true] rfl ?_ ?_
      · (repeat' with_reducible apply AllP_cons) <;> try exact aC
        · exact OpSpec.mget (kt := 9) (et := 9) (ks := ks) (val := fun d => .str (tx d)) (s := d) (z := .str []) rfl (Tryz.underlying59) rfl rfl rfl rfl rfl (by rw [if_neg hk, decide_eq_false hk]; rfl)
      exact S_ret ⟨_, _, rfl, trivial, ret out 5 [(0, none)] hres⟩
    have hget : getM ks tx d = some (tx d) := if_pos hk
    have hsl := htx d hk
    have hR := ReadNodes_ok (tx d) (by omega)
    by_cases he : (readNd (tx d)).2 = 0
    case neg =>
      have hres : flatD (getM ks tx) (n + 1) d path out = (out, 1) := by rw [flatD, hget]; show (if (readNd (tx d)).2 ≠ 0 then _ else _) = _; rw [if_pos he]
      refine pa [.v (.tup [.str (tx d), .bool true]), .b false, .v (.tup [.sl true false 3 (nodes (readNd (tx d)).1), .int .i64 (((readNd (tx d)).2 : Nat) : Int)]), .b true] rfl ?_ ?_
      · (repeat' with_reducible apply AllP_cons) <;> try exact aC
        · exact OpSpec.mget (kt := 9) (et := 9) (ks := ks) (val := fun d => .str (tx d)) (s := d) (z := .str []) rfl (Tryz.underlying59) rfl rfl rfl rfl rfl (by rw [if_pos hk, decide_eq_true hk]; rfl)
        · exact ⟨_, hR, .cons (.refl .str) (.nil _)⟩
        · show (((((readNd (tx d)).2 : Nat) : Int)) != 0) = true
          rw [chk_bne]; simpa using he
      exact S_ret ⟨_, _, rfl, trivial, ret out 1 [(0, none)] hres⟩
    rw [he] at hR
    have hD : flatD (getM ks tx) (n + 1) d path out = if (readNd (tx d)).1 = [] ∧ path ≠ [] then (out, 4) else flatN (flatD (getM ks tx) n) (getM ks tx) path (readNd (tx d)).1 out := by
      rw [flatD, hget]; show (if (readNd (tx d)).2 ≠ 0 then _ else _) = _; rw [if_neg (by simp [he])]
    have hnl0 : (readNd (tx d)).1.length ≤ 60 := readNd_len he
    have hnm0 : ∀ x ∈ (readNd (tx d)).1, x.name.length ≤ 20 := readNd_name he
    generalize (readNd (tx d)).1 = nds at *
    have hnl := nodes_len nds
    by_cases hbad : nds = [] ∧ path ≠ []
    · rw [if_pos hbad] at hD
      obtain ⟨rfl, hp⟩ := hbad
      refine pa [.v (.tup [.str (tx d), .bool true]), .b false, .v (.tup [.sl true false 3 (nodes []), .int .i64 ((0 : Nat) : Int)]), .b false, .b true, .b true] rfl ?_ ?_
      · (repeat' with_reducible apply AllP_cons) <;> try exact aC
        · exact OpSpec.mget (kt := 9) (et := 9) (ks := ks) (val := fun d => .str (tx d)) (s := d) (z := .str []) rfl (Tryz.underlying59) rfl rfl rfl rfl rfl (by rw [if_pos hk, decide_eq_true hk]; rfl)
        · exact ⟨_, hR, .cons (.refl .str) (.nil _)⟩
        · show (!(path == [])) = true
          simp [hp]
      exact S_ret ⟨_, _, rfl, trivial, ret out 4 [(0, none)] hD⟩
    rw [if_neg hbad] at hD
    by_cases hem : nds = []
    case' pos =>
      have hp0 : path = [] := Classical.byContradiction fun hp => hbad ⟨hem, hp⟩
      have e1 : ((((nodes nds).length : Nat) : Int) == 0) = true := by rw [hnl, hem]; rfl
      have e2 : (!(path == [])) = false := by rw [hp0]; rfl
      refine pa [.v (.tup [.str (tx d), .bool true]), .b false, .v (.tup [.sl true false 3 (nodes nds), .int .i64 ((0 : Nat) : Int)]), .b false, .b true, .b false] rfl ?_ ?_
    case' neg =>
      have e1 : ((((nodes nds).length : Nat) : Int) == 0) = false := by
        have : nds.length ≠ 0 := fun h => hem (List.length_eq_zero_iff.1 h)
        rw [hnl]; simp; exact hem
      refine pa [.v (.tup [.str (tx d), .bool true]), .b false, .v (.tup [.sl true false 3 (nodes nds), .int .i64 ((0 : Nat) : Int)]), .b false, .b false, .b false] rfl ?_ ?_
    case pos.refine_1 | neg.refine_1 =>
      (repeat' with_reducible apply AllP_cons) <;> try exact aC
      · exact OpSpec.mget (kt := 9) (et := 9) (ks := ks) (val := fun d => .str (tx d)) (s := d) (z := .str []) rfl (Tryz.underlying59) rfl rfl rfl rfl rfl (by rw [if_pos hk, decide_eq_true hk]; rfl)
      · exact ⟨_, hR, .cons (.refl .str) (.nil _)⟩
    all_goals
      refine S_while (α := Nat × List Fil) (fun q => [(0, .ptr 1 0 0), (2, .str path), (42, .sl true false 3 (nodes nds)), (43, .int .i64 (((nodes nds).length : Nat) : Int)), (44, .int .i64 (q.1 : Nat))]) (fun q => hpT ks tx g q.2 [(q.1, none)]) (fun q => q.1 ≤ nds.length ∧ q.2.length ≤ 60 ∧ flatN (flatD (getM ks tx) n) (getM ks tx) path (nds.drop q.1) q.2 = flatN (flatD (getM ks tx) n) (getM ks tx) path nds out) (fun q => nds.length - q.1) (0, out)
        ⟨Nat.zero_le _, h3, rfl⟩ (.cons rfl (.cons rfl (.cons rfl (.cons rfl (.cons rfl (.nil _)))))) rfl ?_
      rintro ⟨j, o⟩ ⟨hj, ho, hI⟩
      have hj : j ≤ nds.length := hj
      have ho : o.length ≤ 60 := ho
      have hI : flatN (flatD (getM ks tx) n) (getM ks tx) path (nds.drop j) o = flatN (flatD (getM ks tx) n) (getM ks tx) path nds out := hI
      by_cases hjt : j < nds.length
      · have e1 : decide ((j : Int) < (((nodes nds).length : Nat) : Int)) = true := decide_eq_true (by omega)
        have g1 : (nodes nds)[(j : Int).toNat]? = some (nodeAV nds[j]) := nodes_get hjt
        have hnm := hnm0 _ (List.getElem_mem hjt)
        rw [flatN_at hjt] at hI
        generalize nds[j] = nd at *
        have hpl : (path ++ nd.name).length = path.length + nd.name.length := List.length_append ..
        by_cases hlong : 100 < (path ++ nd.name).length
        · rw [if_pos hlong] at hI
          rw [← hI] at hD
          have e2 : decide ((((path ++ nd.name).length : Nat) : Int) > 100) = true := decide_eq_true (by omega)
          refine pB [.b true, .v (nodeAV nd), .b true] rfl ?_
          exact S_ret ⟨_, _, rfl, trivial, ret o 2 _ hD⟩
        rw [if_neg hlong] at hI
        have e2 : decide ((((path ++ nd.name).length : Nat) : Int) > 100) = false := decide_eq_false (by omega)
        by_cases h3k : nd.kind = 3
        · rw [if_pos h3k] at hI
          have e3 : (nd.kind == 3) = true := by rw [h3k]; rfl
          have ih := dir_ok ks tx htx g n nd.dig (path ++ nd.name ++ [47]) o (by rw [List.length_append]; simp only [List.length_cons, List.length_nil]; omega) (by rw [List.length_append]; simp only [List.length_cons, List.length_nil]; omega) ho
          have hfl := flatD_len (getM ks tx) n nd.dig (path ++ nd.name ++ [47]) o ho
          generalize flatD (getM ks tx) n nd.dig (path ++ nd.name ++ [47]) o = y at *
          obtain ⟨o', e'⟩ := y
          by_cases he' : e' = 0
          · rw [if_pos he'] at hI
            subst he'
            refine pa [.b true, .v (nodeAV nd), .b false, .b true, .f (.int .i64 ((0 : Nat) : Int)) (fun σ => hpT ks tx g o' σ.tail.tail.tail), .b false, .s] rfl ?_ ?_
            · (repeat' with_reducible apply AllP_cons) <;> try exact aC
              · exact CallOk.pre1 (σ := hpF ks tx g o) (σ' := hpF ks tx g o') 3 _ ih rfl rfl (.cons (.ptr rfl) (.cons (.free .str) (.cons (.free .str) (.nil _)))) (hpF_rn _ _ _ _) (hpF_rn _ _ _ _) (.free .int)
            refine S_drop (id := 3) rfl ?_ ⟨.skip, _, .inr ⟨_, _, _, rfl⟩⟩
            refine pB [] rfl ?_
            exact S_round (j + 1, o') (by show nds.length - (j + 1) < nds.length - j; omega) ⟨hjt, hfl.1, hI⟩ (.cons rfl (.cons rfl (.cons rfl (.cons rfl (.cons (nX (by omega)) (.nil _)))))) rfl
          · rw [if_neg he'] at hI
            rw [← hI] at hD
            refine pa [.b true, .v (nodeAV nd), .b false, .b true, .f (.int .i64 (e' : Nat)) (fun σ => hpT ks tx g o' σ.tail.tail.tail), .b true] rfl ?_ ?_
            · (repeat' with_reducible apply AllP_cons) <;> try exact aC
              · exact CallOk.pre1 (σ := hpF ks tx g o) (σ' := hpF ks tx g o') 3 _ ih rfl rfl (.cons (.ptr rfl) (.cons (.free .str) (.cons (.free .str) (.nil _)))) (hpF_rn _ _ _ _) (hpF_rn _ _ _ _) (.free .int)
              · show ((((e' : Int)) != 0) = true)
                rw [chk_bne]; simpa using he'
            exact S_ret ⟨_, _, rfl, trivial, ret o' e' _ hD⟩
        · rw [if_neg h3k] at hI
          have e3 : (nd.kind == 3) = false := by simpa using h3k
          by_cases hkd : nd.dig ∈ ks
          case neg =>
            have hgn : getM ks tx nd.dig = none := if_neg hkd
            rw [hgn] at hI
            rw [← hI] at hD
            refine pa [.b true, .v (nodeAV nd), .b false, .b false, .v (.tup [.str [], .bool false]), .b true] rfl ?_ ?_
            · (repeat' with_reducible apply AllP_cons) <;> try exact aC
              all_goals exact OpSpec.mget (kt := 9) (et := 9) (ks := ks) (val := fun d => .str (tx d)) (s := nd.dig) (z := .str []) rfl (Tryz.underlying59) rfl rfl rfl rfl rfl (by rw [if_neg hkd, decide_eq_false hkd]; rfl)
            exact S_ret ⟨_, _, rfl, trivial, ret o 5 _ hD⟩
          have hgn : getM ks tx nd.dig = some (tx nd.dig) := if_pos hkd
          rw [hgn] at hI
          by_cases h60 : o.length = 60
          · have hI : (if o.length = 60 then (o, 2) else _) = _ := hI
            rw [if_pos h60] at hI
            rw [← hI] at hD
            have e4 : ((o.length : Int) == 60) = true := by rw [h60]; rfl
            refine pa [.b true, .v (nodeAV nd), .b false, .b false, .v (.tup [.str (tx nd.dig), .bool true]), .b false, .b true] rfl ?_ ?_
            · (repeat' with_reducible apply AllP_cons) <;> try exact aC
              all_goals exact OpSpec.mget (kt := 9) (et := 9) (ks := ks) (val := fun d => .str (tx d)) (s := nd.dig) (z := .str []) rfl (Tryz.underlying59) rfl rfl rfl rfl rfl (by rw [if_pos hkd, decide_eq_true hkd]; rfl)
            exact S_ret ⟨_, _, rfl, trivial, ret o 2 _ hD⟩
          · have hI : (if o.length = 60 then (o, 2) else _) = _ := hI
            rw [if_neg h60] at hI
            have e4 : ((o.length : Int) == 60) = false := by simp; omega
            have hcl := cels_len o
            refine pa [.b true, .v (nodeAV nd), .b false, .b false, .v (.tup [.str (tx nd.dig), .bool true]), .b false, .b false,
              .d 12 13 [] (fun σ => (0, mapBx ks fun d => .str (tx d)) :: (0, some (.cells [.map 0 0, .ms 2 (g + o.length) 0 o.length 3 false] ⟨false, some 61⟩)) :: (g + o.length + 1, some (.cells (celsF o ++ [.str (path ++ nd.name), .str (tx nd.dig), .bool (nd.kind == 2)]) ⟨false, none⟩)) :: σ.tail.tail.tail) [.ms 2 (g + o.length + 1) 0 (o.length + 1) 3 false], .s] rfl ?_ ?_
            · (repeat' with_reducible apply AllP_cons) <;> try exact aC
              · exact OpSpec.mget (kt := 9) (et := 9) (ks := ks) (val := fun d => .str (tx d)) (s := nd.dig) (z := .str []) rfl (Tryz.underlying59) rfl rfl rfl rfl rfl (by rw [if_pos hkd, decide_eq_true hkd]; rfl)
              · show 0 + o.length * 3 = _
                rw [hcl]; omega
              · show (o.length + 1) * 40 ≤ 140737488355328
                omega
            refine pan 5 [] rfl ?_ ?_
            · (repeat' with_reducible apply AllP_cons) <;> try exact aC
            refine S_drop (id := 3) rfl ?_ ⟨_, _, .inl rfl⟩
            refine S_heap (hpT ks tx g (o ++ [⟨path ++ nd.name, tx nd.dig, nd.kind == 2⟩]) [(j + 1, none)]) ?_ ?_
            · show [(0, mapBx ks fun d => .str (tx d)), (0, some (.cells [.map 0 0, .ms 2 (g + o.length + 1) 0 (o.length + 1) 3 false] ⟨false, some 61⟩)), (g + o.length + 1, some (.cells (celsF o ++ [.str (path ++ nd.name), .str (tx nd.dig), .bool (nd.kind == 2)]) ⟨false, none⟩)), (j + 1, none)] = _
              have hoa : (o ++ [(⟨path ++ nd.name, tx nd.dig, nd.kind == 2⟩ : Fil)]).length = o.length + 1 := by simp
              unfold hpT
              rw [celsF_add, hoa]; rfl
            refine pB [] rfl ?_
            exact S_round (j + 1, o ++ [⟨path ++ nd.name, tx nd.dig, nd.kind == 2⟩]) (by show nds.length - (j + 1) < nds.length - j; omega) ⟨hjt, by show (o ++ [_]).length ≤ 60; simp; omega, hI⟩ (.cons rfl (.cons rfl (.cons rfl (.cons rfl (.cons (nX (by omega)) (.nil _)))))) rfl
      · have e1 : decide ((j : Int) < (((nodes nds).length : Nat) : Int)) = false := decide_eq_false (by omega)
        rw [List.drop_eq_nil_of_le (by omega), flatN] at hI
        rw [← hI] at hD
        refine pB [.b false] rfl ?_
        exact S_ret ⟨_, _, rfl, trivial, ret o 0 _ hD⟩
end Go.Proofs.YtpehmhlgldbeoaaGreatDoor
end
section
set_option linter.unusedVariables false
set_option linter.unusedSimpArgs false
set_option maxRecDepth 20000
set_option maxHeartbeats 4000000
namespace Go.Proofs.YtpehmhlgldbeoaaGreatDoor
open Go Go.Ab
theorem Flat1_ok (s : List UInt8) : Calc cx 45 [.str s] (.bool (decide (100000 < s.length))) :=
  pure_intro (fun a w => Tryz.call45 a w) Tryz.func45 rfl Tryz.ntmps45 rfl .bool fun B => by
    refine pB [] rfl ?_
    refine S_retc .bool rfl trivial ?_
    show AV.bool (decide ((s.length : Int) > 100000)) = _
    congr 1
    rw [decide_eq_decide]; omega
def longT (l : List (List UInt8)) : Bool := l.any fun s => decide (100000 < s.length)
theorem IndexFuncS_ok {st fl : Bool} (l : List (List UInt8)) (hl : l.length ≤ 1000000000000) : Calc cx 73 [.sl st fl 1 (texts l), .func (.func 45) [] []] (.int .i64 (match l.findIdx? (fun s => decide (100000 < s.length)) with | some i => (i : Int) | none => -1)) :=
  pure_intro (fun a w => Tryz.call73 a w) Tryz.func73 rfl Tryz.ntmps73 rfl .int fun B => by
    have htl : (texts l).length = l.length := by simp [texts]
    refine pB [] rfl ?_
    refine S_while (α := Nat) (fun i => [(0, .sl st fl 1 (texts l)), (1, .func (.func 45) [] []), (7, .int .i64 (((texts l).length : Nat) : Int)), (8, .int .i64 (i : Nat))]) (fun _ => []) (fun i => i ≤ l.length ∧ ∀ k (hk : k < l.length), k < i → l[k].length ≤ 100000) (fun i => l.length - i) 0
      ⟨Nat.zero_le _, fun k hk h => absurd h (Nat.not_lt_zero _)⟩ (.cons rfl (.cons rfl (.cons rfl (.cons rfl (.nil _))))) rfl ?_
    rintro i ⟨hi, hN⟩
    have hi : i ≤ l.length := hi
    by_cases hlt : i < l.length
    · have e1 : decide ((i : Int) < (((texts l).length : Nat) : Int)) = true := decide_eq_true (by omega)
      have g1 : (texts l)[(i : Int).toNat]? = some (.str l[i]) := by rw [Int.toNat_natCast]; simp [texts, List.getElem?_eq_getElem hlt]
      have hF := Flat1_ok l[i]
      by_cases hb : 100000 < l[i].length
      · rw [decide_eq_true hb] at hF
        refine pa [.b true, .v (.str l[i]), .v (.bool true), .b true] rfl ?_ ?_
        · (repeat' with_reducible apply AllP_cons) <;> try exact aC
          · exact ⟨_, hF, .cons (.refl .str) (.nil _)⟩
        refine S_retc .int rfl trivial ?_
        have : l.findIdx? (fun s => decide (100000 < s.length)) = some i := by
          rw [List.findIdx?_eq_some_iff_getElem]
          exact ⟨hlt, by simpa using hb, fun j hj => by have := hN j (by omega) hj; simpa using this⟩
        rw [this]; rfl
      · rw [decide_eq_false hb] at hF
        refine pa [.b true, .v (.str l[i]), .v (.bool false), .b false] rfl ?_ ?_
        · (repeat' with_reducible apply AllP_cons) <;> try exact aC
          · exact ⟨_, hF, .cons (.refl .str) (.nil _)⟩
        refine S_round (i + 1) (by show l.length - (i + 1) < l.length - i; omega) ⟨hlt, fun k hk h => ?_⟩ (.cons rfl (.cons rfl (.cons rfl (.cons (nX (by omega)) (.nil _))))) rfl
        have h : k < i + 1 := h
        by_cases hki : k < i
        · exact hN k hk hki
        · have : k = i := by omega
          subst this; omega
    · have e1 : decide ((i : Int) < (((texts l).length : Nat) : Int)) = false := decide_eq_false (by omega)
      refine pB [.b false] rfl ?_
      refine S_retc .int rfl trivial ?_
      have : l.findIdx? (fun s => decide (100000 < s.length)) = none := by
        rw [List.findIdx?_eq_none_iff]
        intro x hx
        obtain ⟨k, hk, rfl⟩ := List.getElem_of_mem hx
        have := hN k hk (by omega)
        simpa using this
      rw [this]; rfl
theorem ContainsFuncS_ok {st fl : Bool} (l : List (List UInt8)) (hl : l.length ≤ 1000000000000) : Calc cx 44 [.sl st fl 1 (texts l), .func (.func 45) [] []] (.bool (longT l)) :=
  pure_intro (fun a w => Tryz.call44 a w) Tryz.func44 rfl Tryz.ntmps44 rfl .bool fun B => by
    have hI := IndexFuncS_ok (st := st) (fl := fl) l hl
    refine pa [.v (.int .i64 (match l.findIdx? (fun s => decide (100000 < s.length)) with | some i => (i : Int) | none => -1))] rfl ?_ ?_
    · (repeat' with_reducible apply AllP_cons) <;> try exact aC
      · exact ⟨_, hI, .cons (.refl (.sl (fun h => by cases h) (texts_any l))) (.cons (.refl (.func (fun x h => by cases h) (fun x h => by cases h))) (.nil _))⟩
    refine S_retc .bool rfl trivial ?_
    show AV.bool (decide ((match l.findIdx? (fun s => decide (100000 < s.length)) with | some i => (i : Int) | none => -1) ≥ 0)) = _
    congr 1
    unfold longT
    cases h : l.findIdx? (fun s => decide (100000 < s.length)) with
    | none =>
      rw [List.findIdx?_eq_none_iff] at h
      rw [List.any_eq_false.2 (fun x hx => by have := h x hx; rw [this]; simp)]; rfl
    | some i =>
      rw [List.findIdx?_eq_some_iff_getElem] at h
      obtain ⟨h1, h2, _⟩ := h
      rw [List.any_eq_true.2 ⟨_, List.getElem_mem h1, h2⟩]
      show decide ((i : Int) ≥ 0) = true
      exact decide_eq_true (by omega)
theorem Len1_ok : Calc cx 117 [.int .u64 1] (.int .i64 1) :=
  pure_intro (fun a w => Tryz.call117 a w) Tryz.func117 rfl Tryz.ntmps117 rfl .int fun B => by
    refine pa [.b false, .b false, .b false] rfl ?_ ?_
    · (repeat' with_reducible apply AllP_cons) <;> try exact aC
      all_goals decide +kernel
    refine S_retc .int rfl trivial ?_
    rfl
theorem LenU_ok : Calc cx 77 [.int .u64 1] (.int .i64 1) :=
  pure_intro (fun a w => Tryz.call77 a w) Tryz.func77 rfl Tryz.ntmps77 rfl .int fun B => by
    refine pa [.b false, .v (.int .i64 1)] rfl ?_ ?_
    · (repeat' with_reducible apply AllP_cons) <;> try exact aC
      · exact ⟨_, Len1_ok, .cons (.refl .int) (.nil _)⟩
    exact S_retc .int rfl trivial rfl
theorem Ins1_ok (σ : Heap) (v : Nat) : CallOk cx 108 [.ms 2 v 0 1 3 false, .int .i64 0, .int .i64 1, .func (.func 50) [] []] σ (fun o s => o = .ret (.tup []) ∧ s = σ) :=
  callOk_intro (fun a w => Tryz.call108 a w) Tryz.func108 rfl Tryz.ntmps108 rfl fun B => by
    refine pas [] rfl ?_ ?_
    · (repeat' with_reducible apply AllP_cons) <;> try exact aC
    refine S_while (α := Unit) (fun _ => [(2, .int .i64 1), (8, .int .i64 1)]) (fun _ => σ) (fun _ => True) (fun _ => 0) () trivial (.cons rfl (.cons rfl (.nil _))) rfl ?_
    rintro ⟨⟩ _
    refine pas [.b false] rfl ?_ ?_
    · (repeat' with_reducible apply AllP_cons) <;> try exact aC
    exact S_nil ⟨_, _, rfl, trivial, rfl, rfl⟩
theorem Pdq1_ok (σ : Heap) (v : Nat) : CallOk cx 76 [.ms 2 v 0 1 3 false, .int .i64 0, .int .i64 1, .int .i64 1, .func (.func 50) [] []] σ (fun o s => o = .ret (.tup []) ∧ s = σ) :=
  callOk_intro (fun a w => Tryz.call76 a w) Tryz.func76 rfl Tryz.ntmps76 rfl fun B => by
    refine pas [] rfl ?_ ?_
    · (repeat' with_reducible apply AllP_cons) <;> try exact aC
    refine S_while (α := Unit) (fun _ => [(0, .ms 2 v 0 1 3 false), (1, .int .i64 0), (2, .int .i64 1), (4, .func (.func 50) [] [])]) (fun _ => σ) (fun _ => True) (fun _ => 0) () trivial (.cons rfl (.cons rfl (.cons rfl (.cons rfl (.nil _))))) rfl ?_
    rintro ⟨⟩ _
    refine pas [.b true, .k (.tup [])] rfl ?_ ?_
    · (repeat' with_reducible apply AllP_cons) <;> try exact aC
      · exact Ins1_ok σ v
    exact S_ret ⟨_, _, rfl, trivial, rfl, rfl⟩
theorem Sort1_ok (ks : List (List UInt8)) (tx : List UInt8 → List UInt8) (g : Nat) (f : Fil) : CallOk cx 49 [.ms 2 (g + 1) 0 1 3 false, .func (.func 50) [] []] (hpF ks tx g [f]) (fun o s => o = .ret (.tup []) ∧ s = hpF ks tx g [f]) :=
  callOk_intro (fun a w => Tryz.call49 a w) Tryz.func49 rfl Tryz.ntmps49 rfl fun B => by
    refine pa [.v (.int .i64 1), .k (.tup [])] rfl ?_ ?_
    · (repeat' with_reducible apply AllP_cons) <;> try exact aC
      · exact ⟨_, LenU_ok, .cons (.refl .int) (.nil _)⟩
      · exact Pdq1_ok _ _
    exact S_nil ⟨_, _, rfl, trivial, rfl, rfl⟩
end Go.Proofs.YtpehmhlgldbeoaaGreatDoor
end
section
set_option linter.unusedVariables false
set_option linter.unusedSimpArgs false
set_option maxRecDepth 20000
set_option maxHeartbeats 4000000
namespace Go.Proofs.YtpehmhlgldbeoaaGreatDoor
open Go Go.Ab
def ksB (l : List (List UInt8)) : List (List UInt8) := l.foldl (fun ks s => addU ks (sha s)) []
def txB (l : List (List UInt8)) (d : List UInt8) : List UInt8 := (l.reverse.find? (fun s => sha s == d)).getD []
def flatY (root : List UInt8) (blobs : List (List UInt8)) : List Fil × Nat := flatD (getM (ksB blobs) (txB blobs)) 102 root [] []
def flatT (S : List Fil → List Fil) (root : List UInt8) (blobs : List (List UInt8)) : List Fil × Nat :=
  if 2000 < blobs.length ∨ longT blobs = true then ([], 2) else if isDig root = true then (if (flatY root blobs).2 = 0 then (S (flatY root blobs).1, 0) else ([], (flatY root blobs).2)) else ([], 1)
def flatAV (y : List Fil × Nat) : AV := .tup [if y.2 = 0 then .sl true false 3 (fils y.1) else .nils, .int .i64 (y.2 : Nat)]
theorem flatAV_free (y : List Fil × Nat) : Free true (flatAV y) := .tup (by
  intro x hx; simp at hx
  rcases hx with rfl | rfl
  · split
    · exact .sl (fun _ => rfl) (fils_free _)
    · exact .nils
  · exact .int)
theorem ksB_step {l : List (List UInt8)} {i : Nat} (h : i < l.length) : ksB (l.take (i + 1)) = addU (ksB (l.take i)) (sha l[i]) := by
  unfold ksB; rw [List.take_succ_eq_append_getElem h, List.foldl_append]; rfl
theorem txB_step {l : List (List UInt8)} {i : Nat} (h : i < l.length) (d : List UInt8) : txB (l.take (i + 1)) d = if d = sha l[i] then l[i] else txB (l.take i) d := by
  unfold txB
  rw [List.take_succ_eq_append_getElem h, List.reverse_append]
  show ((l[i] :: (l.take i).reverse).find? _).getD [] = _
  rw [List.find?_cons]
  by_cases e : d = sha l[i]
  · rw [if_pos e, show (sha l[i] == d) = true by simp [e]]; rfl
  · rw [if_neg e, show (sha l[i] == d) = false by simpa using Ne.symm e]
theorem txB_len {l : List (List UInt8)} (h : longT l = false) (d : List UInt8) : (txB l d).length ≤ 1000000 := by
  unfold txB
  cases hf : l.reverse.find? (fun s => sha s == d) with
  | none => exact Nat.zero_le _
  | some s =>
    have hm := List.mem_of_find?_eq_some hf
    unfold longT at h
    rw [List.any_eq_false] at h
    have := h s (by simpa using hm)
    simp at this
    show s.length ≤ _; omega
theorem mapB_step {l : List (List UInt8)} {i : Nat} (h : i < l.length) :
    mapBx (addK (ksB (l.take i)) (sha l[i])) (updF (fun d => .str (txB (l.take i) d)) (sha l[i]) (.str l[i])) = mapBx (ksB (l.take (i + 1))) fun d => .str (txB (l.take (i + 1)) d) := by
  unfold mapBx
  rw [ksB_step h]
  show some (Box.map (mapF (addU _ _) _) none) = some (Box.map (mapF (addU _ _) _) none)
  congr 2
  refine mapF_congr fun n _ => ?_
  unfold updF
  rw [txB_step h]
  split <;> rfl
theorem Flat_gen {st fl : Bool} (S : List Fil → List Fil) (root : List UInt8) (blobs : List (List UInt8)) (hr : root.length ≤ 9223372036854775807) (hbl : blobs.length ≤ 1000000000000) (hS0 : ∀ out, (S out).length = out.length)
    (hsort : (flatY root blobs).2 = 0 → CallOk cx 49 [.ms 2 (0 + (flatY root blobs).1.length) 0 (flatY root blobs).1.length 3 false, .func (.func 50) [] []] (hpF (ksB blobs) (txB blobs) 0 (flatY root blobs).1) (fun o s => o = .ret (.tup []) ∧ s = hpF (ksB blobs) (txB blobs) 0 (S (flatY root blobs).1))) :
    Calc cx 18 [.str root, .sl st fl 1 (texts blobs)] (flatAV (flatT S root blobs)) :=
  pure_intro (fun a w => Tryz.call18 a w) Tryz.func18 rfl Tryz.ntmps18 rfl (flatAV_free _) fun B => by
    have htl : (texts blobs).length = blobs.length := by simp [texts]
    have hI := ContainsFuncS_ok (st := st) (fl := fl) blobs hbl
    have hD := digestIs_ok root hr
    unfold flatT
    have rt : ∀ e : Nat, e ≠ 0 → flatAV ([], e) = .tup [.nils, .int .i64 (e : Nat)] := fun e he => by unfold flatAV; rw [if_neg he]
    have rf : ∀ e : Int, Free true (.tup [.nils, .int .i64 e]) := fun e => .tup (by intro x hx; simp at hx; rcases hx with rfl | rfl; exact .nils; exact .int)
    by_cases hmany : 2000 < blobs.length
    · rw [if_pos (.inl hmany), rt 2 (by decide)]
      have e1 : decide ((((texts blobs).length : Nat) : Int) > 2000) = true := decide_eq_true (by omega)
      refine pB [.b true, .b true] rfl ?_
      exact S_retc (rf _) rfl trivial rfl
    have e1 : decide ((((texts blobs).length : Nat) : Int) > 2000) = false := decide_eq_false (by omega)
    cases hlg : longT blobs with
    | true =>
      rw [hlg] at hI
      rw [if_pos (.inr rfl), rt 2 (by decide)]
      refine pa [.b false, .v (.bool true), .b true] rfl ?_ ?_
      · (repeat' with_reducible apply AllP_cons) <;> try exact aC
        · exact ⟨_, hI, .cons (.refl (.sl (fun h => by cases h) (texts_any _))) (.cons (.refl (.func (fun x h => by cases h) (fun x h => by cases h))) (.nil _))⟩
      exact S_retc (rf _) rfl trivial rfl
    | false =>
      rw [hlg] at hI
      rw [if_neg (by simp; omega)]
      cases hdg : isDig root with
      | false =>
        rw [hdg] at hD
        rw [if_neg (by simp), rt 1 (by decide)]
        refine pa [.b false, .v (.bool false), .b false, .v (.bool false), .b true] rfl ?_ ?_
        · (repeat' with_reducible apply AllP_cons) <;> try exact aC
          · exact ⟨_, hI, .cons (.refl (.sl (fun h => by cases h) (texts_any _))) (.cons (.refl (.func (fun x h => by cases h) (fun x h => by cases h))) (.nil _))⟩
          · exact ⟨_, hD, .cons (.refl .str) (.nil _)⟩
        exact S_retc (rf _) rfl trivial rfl
      | true =>
        rw [hdg] at hD
        rw [if_pos rfl]
        refine pa [.b false, .v (.bool false), .b false, .v (.bool true), .b false, .f (.map 0 0) (fun _ => [(0, some (.map [] (some ([], 0))))])] rfl ?_ ?_
        · (repeat' with_reducible apply AllP_cons) <;> try exact aC
          · exact ⟨_, hI, .cons (.refl (.sl (fun h => by cases h) (texts_any _))) (.cons (.refl (.func (fun x h => by cases h) (fun x h => by cases h))) (.nil _))⟩
          · exact ⟨_, hD, .cons (.refl .str) (.nil _)⟩
          · exact OpSpec.mapN (C := []) rfl trivial
        refine S_unstamp (id := 0) rfl ?_ ⟨_, _, .inl rfl⟩
        refine S_ghost 3 ⟨false, none⟩ (id := 1) (j := 1) rfl rfl rfl (show (1 : Nat) ≠ 2 by decide) ⟨_, _, .inl rfl⟩ ?_
        refine S_while (α := Nat) (fun i => [(0, .str root), (6, .ptr 1 0 0), (23, .sl st fl 1 (texts blobs)), (24, .int .i64 (((texts blobs).length : Nat) : Int)), (25, .int .i64 (i : Nat))]) (fun i => hpT (ksB (blobs.take i)) (txB (blobs.take i)) 0 [] []) (fun i => i ≤ blobs.length) (fun i => blobs.length - i) 0
          (Nat.zero_le _) (.cons rfl (.cons rfl (.cons rfl (.cons rfl (.cons rfl (.nil _)))))) rfl ?_
        intro i hi
        have hi : i ≤ blobs.length := hi
        by_cases hlt : i < blobs.length
        · have e2 : decide ((i : Int) < (((texts blobs).length : Nat) : Int)) = true := decide_eq_true (by omega)
          have g1 : (texts blobs)[(i : Int).toNat]? = some (.str blobs[i]) := by rw [Int.toNat_natCast]; simp [texts, List.getElem?_eq_getElem hlt]
          have hbz : blobs[i].length ≤ 100000 := by
            unfold longT at hlg
            rw [List.any_eq_false] at hlg
            have := hlg _ (List.getElem_mem hlt)
            simpa using this
          have hS := Sum_ok blobs[i] (by omega)
          refine pa [.b true, .v (.str blobs[i]), .v (.str (sha blobs[i])), .f (.tup []) (fun σ => (0, mapBx (addK (ksB (blobs.take i)) (sha blobs[i])) (updF (fun d => .str (txB (blobs.take i) d)) (sha blobs[i]) (.str blobs[i]))) :: σ.tail), .s] rfl ?_ ?_
          · (repeat' with_reducible apply AllP_cons) <;> try exact aC
            · exact ⟨_, hS, .cons (.refl .str) (.nil _)⟩
            · exact OpSpec.mput (kt := 9) (et := 9) (ks := ksB (blobs.take i)) (val := fun d => .str (txB (blobs.take i) d)) (s := sha blobs[i]) rfl (Tryz.underlying59) rfl rfl rfl rfl rfl (addU_fold_nodup sha _ [] .nil) rfl
          refine S_heap (hpT (ksB (blobs.take (i + 1))) (txB (blobs.take (i + 1))) 0 [] []) ?_ ?_
          · rw [mapB_step hlt]; rfl
          refine pB [] rfl ?_
          exact S_round (i + 1) (by show blobs.length - (i + 1) < blobs.length - i; omega) hlt (.cons rfl (.cons rfl (.cons rfl (.cons rfl (.cons (nX (by omega)) (.nil _)))))) rfl
        · have hil : i = blobs.length := by omega
          subst hil
          have e2 : decide ((blobs.length : Int) < (((texts blobs).length : Nat) : Int)) = false := decide_eq_false (by omega)
          rw [List.take_length]
          have hdir := dir_ok (ksB blobs) (txB blobs) (fun d _ => txB_len hlg d) 0 102 root [] [] (by decide) (by decide) (by decide)
          have hfl := flatD_len (getM (ksB blobs) (txB blobs)) 102 root [] [] (by decide)
          change CallOk _ _ _ _ (fun o s => o = .ret (.int .i64 ((flatY root blobs).2 : Nat)) ∧ s = hpF (ksB blobs) (txB blobs) 0 (flatY root blobs).1) at hdir
          change (flatY root blobs).1.length ≤ 60 ∧ _ at hfl
          generalize flatY root blobs = y at *
          obtain ⟨out, e⟩ := y
          by_cases he : e = 0
          · subst he
            rw [if_pos rfl]
            have hso := hsort rfl
            have hSl := hS0 out
            have hcl := cels_len (S out)
            simp only at hso hdir hfl
            refine pB [.b false, .f (.int .i64 ((0 : Nat) : Int)) (fun _ => hpT (ksB blobs) (txB blobs) 0 out []), .b false, .f (.tup []) (fun _ => hpT (ksB blobs) (txB blobs) 0 (S out) [])] rfl ?_
            refine S_ret ⟨_, _, rfl, trivial, _, rfl, ?_⟩
            show Frz true _ (.tup [.ms 2 (0 + (S out).length) 0 (S out).length 3 false, .int .i64 0]) (.tup [.sl true false 3 (fils (S out)), .int .i64 0])
            exact Fzs.tup (.cons (.ms rfl (by show 0 + (S out).length * 3 ≤ (celsF (S out)).length; omega) (by rw [List.drop_zero]; exact List.take_of_length_le (by omega)) (fil_size _) (fils_len _) (fils_free _)) (.cons (.refl .int) .nil))
          · rw [if_neg he, rt e he]
            refine pa [.b false, .f (.int .i64 (e : Nat)) (fun _ => hpT (ksB blobs) (txB blobs) 0 out []), .b true] rfl ?_ ?_
            · (repeat' with_reducible apply AllP_cons) <;> try exact aC
              · show ((((e : Int)) != 0) = true)
                rw [chk_bne]; simpa using he
            exact S_retc (rf _) rfl trivial rfl
end Go.Proofs.YtpehmhlgldbeoaaGreatDoor
end
section
set_option linter.unusedVariables false
set_option linter.unusedSimpArgs false
set_option maxRecDepth 20000
set_option maxHeartbeats 4000000
namespace Go.Proofs.YtpehmhlgldbeoaaGreatDoor
open Go Go.Ab
def h1T : List UInt8 := [50, 100, 55, 49, 49, 54, 52, 50, 98, 55, 50, 54, 98, 48, 52, 52, 48, 49, 54, 50, 55, 99, 97, 57, 102, 98, 97, 99, 51, 50, 102, 53, 99, 56, 53, 51, 48, 102, 98, 49, 57, 48, 51, 99, 99, 52, 100, 98, 48, 50, 50, 53, 56, 55, 49, 55, 57, 50, 49, 97, 52, 56, 56, 49]
def t1T : List UInt8 := [1, 1, 98, 1, 64, 50, 100, 55, 49, 49, 54, 52, 50, 98, 55, 50, 54, 98, 48, 52, 52, 48, 49, 54, 50, 55, 99, 97, 57, 102, 98, 97, 99, 51, 50, 102, 53, 99, 56, 53, 51, 48, 102, 98, 49, 57, 48, 51, 99, 99, 52, 100, 98, 48, 50, 50, 53, 56, 55, 49, 55, 57, 50, 49, 97, 52, 56, 56, 49]
def h2T : List UInt8 := [100, 56, 98, 99, 99, 98, 53, 99, 97, 99, 48, 101, 52, 50, 49, 101, 97, 52, 101, 49, 55, 99, 50, 49, 50, 49, 102, 51, 56, 55, 52, 51, 48, 57, 102, 98, 51, 101, 51, 100, 48, 50, 48, 53, 52, 97, 48, 54, 48, 101, 102, 50, 101, 48, 48, 49, 99, 56, 53, 97, 53, 99, 48, 99]
def t2T : List UInt8 := [1, 1, 97, 3, 64, 100, 56, 98, 99, 99, 98, 53, 99, 97, 99, 48, 101, 52, 50, 49, 101, 97, 52, 101, 49, 55, 99, 50, 49, 50, 49, 102, 51, 56, 55, 52, 51, 48, 57, 102, 98, 51, 101, 51, 100, 48, 50, 48, 53, 52, 97, 48, 54, 48, 101, 102, 50, 101, 48, 48, 49, 99, 56, 53, 97, 53, 99, 48, 99]
def h3T : List UInt8 := [48, 54, 55, 52, 52, 101, 54, 57, 101, 102, 98, 53, 56, 53, 102, 48, 50, 54, 48, 51, 98, 101, 52, 48, 57, 102, 56, 98, 101, 55, 51, 100, 50, 54, 51, 53, 50, 55, 56, 51, 50, 102, 55, 52, 54, 55, 50, 97, 51, 55, 57, 98, 53, 101, 52, 101, 55, 101, 102, 49, 50, 50, 99, 98]
def l0T : List Fil := [⟨[97, 47, 98], [120], false⟩]
theorem sha1T : sha [120] = h1T := by decide +kernel
theorem sha2T : sha t1T = h2T := by decide +kernel
theorem sha3T : sha t2T = h3T := by decide +kernel
theorem pk1T : packNs [⟨[98], 1, h1T⟩] = t1T := by decide +kernel
theorem pk2T : packNs [⟨[97], 3, h2T⟩] = t2T := by decide +kernel
theorem rd1T : readNd t1T = ([⟨[98], 1, h1T⟩], 0) := by kernel_rfl
theorem rd2T : readNd t2T = ([⟨[97], 3, h2T⟩], 0) := by kernel_rfl
theorem chk0T : chkT l0T = 0 := by decide +kernel
theorem sort_one (n : List UInt8) : sortT [n] = [n] := by unfold sortT; rw [List.mergeSort_singleton]
theorem dir0T : dirT 101 l0T = (t2T, [[120], t1T]) := by
  have a1 : nmsT l0T = [[97]] := by decide +kernel
  have a2 : grT l0T [97] = [⟨[98], [120], false⟩] := by decide +kernel
  have a3 : nmsT [⟨[98], [120], false⟩] = [[98]] := by decide +kernel
  have a4 : grT [⟨[98], [120], false⟩] [98] = [⟨[], [120], false⟩] := by decide +kernel
  have e1 : dirT 100 [⟨[98], [120], false⟩] = (t1T, [[120]]) := by
    rw [dirT, a3, sort_one]
    unfold nodsT blbsT
    simp only [List.map_cons, List.map_nil, List.flatMap_cons, List.flatMap_nil, List.append_nil, a4, entT, if_pos, sha1T]
    exact Prod.ext pk1T rfl
  rw [dirT, a1, sort_one]
  unfold nodsT blbsT
  simp only [List.map_cons, List.map_nil, List.flatMap_cons, List.flatMap_nil, List.append_nil, a2, entT, e1]
  rw [if_neg (by decide), sha2T]
  exact Prod.ext pk2T rfl
theorem root0T : rootT l0T = h3T := by unfold rootT; rw [dir0T]; exact sha3T
theorem blob0T : blobT l0T = [t2T, t1T, [120]] := by
  unfold blobT
  rw [dir0T]
  have : addU ([[120], t1T].foldl addU []) t2T = [[120], t1T, t2T] := by decide +kernel
  show sortT (addU ([[120], t1T].foldl addU []) t2T) = _
  rw [this]
  refine perm_sorted ((sortT_perm _).trans ?_) (sortT_pw _) ?_
  · exact (List.reverse_perm [[120], t1T, t2T]).symm
  · decide +kernel
theorem ks0T : ksB [t2T, t1T, [120]] = [h3T, h2T, h1T] := by
  unfold ksB
  simp only [List.foldl_cons, List.foldl_nil, sha1T, sha2T, sha3T]
  decide +kernel
theorem tx3T : txB [t2T, t1T, [120]] h3T = t2T := by
  have b1 : (h1T == h3T) = false := by decide +kernel
  have b2 : (h2T == h3T) = false := by decide +kernel
  have b3 : (h3T == h3T) = true := by decide +kernel
  unfold txB
  simp only [List.reverse_cons, List.reverse_nil, List.nil_append, List.cons_append, List.find?_cons, sha1T, sha2T, sha3T, b1, b2, b3]
  rfl
theorem tx2T : txB [t2T, t1T, [120]] h2T = t1T := by
  have b1 : (h1T == h2T) = false := by decide +kernel
  have b2 : (h2T == h2T) = true := by decide +kernel
  unfold txB
  simp only [List.reverse_cons, List.reverse_nil, List.nil_append, List.cons_append, List.find?_cons, sha1T, sha2T, sha3T, b1, b2]
  rfl
theorem tx1T : txB [t2T, t1T, [120]] h1T = [120] := by
  have b1 : (h1T == h1T) = true := by decide +kernel
  unfold txB
  simp only [List.reverse_cons, List.reverse_nil, List.nil_append, List.cons_append, List.find?_cons, sha1T, b1]
  rfl
theorem flat0T : flatY h3T [t2T, t1T, [120]] = (l0T, 0) := by
  have g3 : getM (ksB [t2T, t1T, [120]]) (txB [t2T, t1T, [120]]) h3T = some t2T := by unfold getM; rw [ks0T, if_pos (by simp), tx3T]
  have g2 : getM (ksB [t2T, t1T, [120]]) (txB [t2T, t1T, [120]]) h2T = some t1T := by unfold getM; rw [ks0T, if_pos (by simp), tx2T]
  have g1 : getM (ksB [t2T, t1T, [120]]) (txB [t2T, t1T, [120]]) h1T = some [120] := by unfold getM; rw [ks0T, if_pos (by simp), tx1T]
  unfold flatY
  generalize getM (ksB [t2T, t1T, [120]]) (txB [t2T, t1T, [120]]) = get at *
  have e1 : flatD get 101 h2T [97, 47] [] = (l0T, 0) := by
    rw [flatD, g2]
    simp only [rd1T]
    rw [if_neg (by decide), if_neg (by simp), flatN]
    rw [if_neg (by decide), if_neg (by decide)]
    simp only [g1]
    rw [if_neg (by decide), flatN]; rfl
  rw [flatD, g3]
  simp only [rd2T]
  rw [if_neg (by decide), if_neg (by simp), flatN]
  rw [if_neg (by decide), if_pos rfl]
  show (if (flatD get 101 h2T [97, 47] []).2 = 0 then _ else _) = _
  rw [e1, if_pos rfl, flatN]
  show ((flatD get 101 h2T [97, 47] []).1, 0) = _
  rw [e1]
theorem treeBegun_ok : Calc cx 15 [] (.bool true) :=
  pure_intro (fun a w => Tryz.call15 a w) Tryz.func15 rfl Tryz.ntmps15 rfl .bool fun B => by
    have hl0 : FilsOk l0T := ⟨by decide, by intro f hf; simp [l0T] at hf; subst hf; decide, by intro f hf; simp [l0T] at hf; subst hf; decide⟩
    have hB := Blobs_ok (st := true) (fl := true) l0T hl0
    have hR := Root_ok (st := true) (fl := true) l0T hl0
    have hF := Flat_gen (st := true) (fl := false) id h3T [t2T, t1T, [120]] (by decide) (by decide) (fun _ => rfl) (fun _ => by
      rw [flat0T]
      exact Sort1_ok (ksB [t2T, t1T, [120]]) (txB [t2T, t1T, [120]]) 0 ⟨[97, 47, 98], [120], false⟩)
    have hS := SameFiles_ok (st := true) (st' := true) (fl := true) (fl' := false) l0T l0T (by decide) (by decide)
    rw [decide_eq_true rfl] at hS
    unfold blobAV at hB
    unfold rootAV at hR
    rw [chk0T, if_pos rfl, blob0T] at hB
    rw [chk0T, if_pos rfl, root0T] at hR
    have hft : flatT id h3T [t2T, t1T, [120]] = (l0T, 0) := by
      unfold flatT
      rw [if_neg (by decide +kernel), if_pos (by decide +kernel), flat0T, if_pos rfl]; rfl
    rw [hft] at hF
    refine pa [.v (.tup [.sl true false 1 (texts [t2T, t1T, [120]]), .int .i64 ((0 : Nat) : Int)]), .v (.tup [.str h3T, .int .i64 ((0 : Nat) : Int)]), .v (.tup [.sl true false 3 (fils l0T), .int .i64 ((0 : Nat) : Int)]), .b true, .b true, .b true, .v (.bool true)] rfl ?_ ?_
    · (repeat' with_reducible apply AllP_cons) <;> try exact aC
      · exact ⟨_, hB, .cons (.refl (.sl (fun _ => rfl) (fils_free l0T))) (.nil _)⟩
      · exact ⟨_, hR, .cons (.refl (.sl (fun _ => rfl) (fils_free l0T))) (.nil _)⟩
      · exact ⟨_, hF, .cons (.refl .str) (.cons (.refl (.sl (fun _ => rfl) (texts_any _))) (.nil _))⟩
      · exact ⟨_, hS, .cons (.refl (.sl (fun _ => rfl) (fils_free l0T))) (.cons (.refl (.sl (fun _ => rfl) (fils_free l0T))) (.nil _))⟩
    exact S_retc .bool rfl trivial rfl
end Go.Proofs.YtpehmhlgldbeoaaGreatDoor
end
section
set_option linter.unusedVariables false
set_option linter.unusedSimpArgs false
namespace Go.Ab
open Go Go.WideShapes
def laidB (P : Program) : List Field → Nat → Option Nat
  | [], o => some o
  | f :: r, o => match Nat.beq f.offset o with
    | true => laidB P r (o + P.cellsOf f.type)
    | false => none
mutual
def plainB (P : Program) : Nat → TypeId → Bool
  | 0, _ => false
  | n + 1, t => match P.underlying t with
    | some .bool => Nat.beq (P.cellsOf t) 1
    | some (.int _) => Nat.beq (P.cellsOf t) 1
    | some .string => Nat.beq (P.cellsOf t) 1
    | some (.slice e) => match Nat.beq (P.cellsOf t) 1, Nat.beq (P.cellsOf e) 0 with
      | true, false => plainB P n e
      | _, _ => false
    | some (.struct fs) => match laidB P fs.toList 0 with
      | some m => match Nat.beq (P.cellsOf t) m with
        | true => plainAll P n fs.toList
        | false => false
      | none => false
    | _ => false
def plainAll (P : Program) : Nat → List Field → Bool
  | 0, _ => false
  | n + 1, fs => match fs with
    | [] => true
    | f :: r => match plainB P n f.type with
      | true => plainAll P n r
      | false => false
end
inductive RdD (P : Program) {H : Type} : TypeId → DataW H → AV → Prop
  | bool {t b} (ht : P.underlying t = some .bool) : RdD P t (.lit (.bool b)) (.bool b)
  | int {t k n} (ht : P.underlying t = some (.int k)) (hw : (Lit.int k n).wf = true) : RdD P t (.lit (.int k n)) (.int k n)
  | str {t s} (ht : P.underlying t = some .string) (hs : s.length ≤ maxLen) : RdD P t (.lit (.string s)) (.str s)
  | nils {t e} (ht : P.underlying t = some (.slice e)) : RdD P t .nil (.sl true false (P.cellsOf e) [])
  | sl {t e} {ds rest : List (DataW H)} {xs : List AV} (ht : P.underlying t = some (.slice e)) (hl : xs.length = ds.length) (hm : xs.length ≤ maxLen) (h : ∀ i (h1 : i < ds.length) (h2 : i < xs.length), RdD P e ds[i] xs[i]) : RdD P t (.slice ds rest) (.sl true false (P.cellsOf e) xs)
  | st {t} {fs : Array Field} {ds : List (DataW H)} {xs : List AV} (ht : P.underlying t = some (.struct fs)) (hd : ds.length = fs.size) (hx : xs.length = fs.size) (h : ∀ i (h1 : i < ds.length) (h2 : i < xs.length) (h3 : i < fs.size), RdD P fs[i].type ds[i] xs[i]) : RdD P t (.agg ds) (.agg (xs.flatMap AV.cells))
def CellsV (w : World) (cs : List Value) (az : List AV) : Prop := cs.length = az.length ∧ ∀ i (h1 : i < cs.length) (h2 : i < az.length), VRel (Rl.old w) w cs[i] az[i]
theorem CellsV.one {w : World} {v : Value} {a : AV} (h : VRel (Rl.old w) w v a) : CellsV w [v] [a] := by
  refine ⟨rfl, fun i h1 h2 => ?_⟩
  obtain rfl : i = 0 := by simpa using h1
  exact h
theorem laidB_flat {P : Program} : ∀ (fs : List Field) (o m : Nat) (w : World) (cs : List Value) (xs : List AV), laidB P fs o = some m → xs.length = fs.length → (∀ i (h1 : i < fs.length) (h2 : i < xs.length), CellsV w ((cs.drop fs[i].offset).take (P.cellsOf fs[i].type)) xs[i].cells ∧ xs[i].cells.length = P.cellsOf fs[i].type) →
    cs.length = m → o ≤ m ∧ CellsV w (cs.drop o) (xs.flatMap AV.cells)
  | [], o, m, w, cs, xs, h, hl, hc, hm => by
    simp only [laidB, Option.some.injEq] at h
    obtain rfl : xs = [] := List.eq_nil_of_length_eq_zero hl
    subst h
    refine ⟨Nat.le_refl _, ?_⟩
    rw [List.drop_of_length_le (by omega)]
    exact ⟨rfl, fun i h => absurd h (by simp)⟩
  | f :: r, o, m, w, cs, xs, h, hl, hc, hm => by
    rw [laidB] at h
    split at h
    case h_2 => cases h
    rename_i hb
    have ho := Nat.eq_of_beq_eq_true hb
    obtain ⟨x, xs, rfl⟩ : ∃ x xs', xs = x :: xs' := by
      cases xs with
      | nil => simp at hl
      | cons x xs => exact ⟨x, xs, rfl⟩
    have h0 := hc 0 (by simp) (by simp)
    simp only [List.getElem_cons_zero] at h0
    obtain ⟨h1, h2⟩ := laidB_flat r (o + P.cellsOf f.type) m w cs xs h (by simpa using hl) (fun i k1 k2 => hc (i + 1) (Nat.succ_lt_succ k1) (Nat.succ_lt_succ k2)) hm
    refine ⟨by omega, ?_⟩
    obtain ⟨⟨e1, e2⟩, e3⟩ := h0
    rw [ho] at e1 e2
    rw [List.flatMap_cons]
    have hsplit : cs.drop o = (cs.drop o).take (P.cellsOf f.type) ++ cs.drop (o + P.cellsOf f.type) := by
      rw [← List.drop_drop, List.take_append_drop]
    rw [hsplit]
    refine ⟨by rw [List.length_append, List.length_append, e1, h2.1], fun i k1 k2 => ?_⟩
    by_cases hi : i < x.cells.length
    · rw [List.getElem_append_left (by omega), List.getElem_append_left hi]
      exact e2 i (by omega) hi
    · rw [List.getElem_append_right (by omega), List.getElem_append_right (by omega)]
      have : i - ((cs.drop o).take (P.cellsOf f.type)).length = i - x.cells.length := by omega
      simp only [this]
      exact h2.2 _ _ _
theorem read_cells {H : Type} {enc : TypeId × Value → H} {P : Program} {W : World} : ∀ (fuel n : Nat) (t : TypeId) (cs : List Value) (d : DataW H) (ps : List MemPlace), DataW.trod enc P W 0 (fun _ => true) true fuel t cs = some (d, ps) → plainB P n t = true →
    ∃ a, RdD P t d a ∧ a.cells.length = P.cellsOf t ∧ CellsV W cs a.cells ∧ (∀ v, (∃ xs, v = .agg xs ∧ xs.toList = cs ∧ aggT P t = some true) ∨ ([v] = cs ∧ aggT P t = some false) → VRel (Rl.old W) W v a) := by
  intro fuel
  induction fuel with
  | zero => intro n t cs d ps h _; simp [DataW.trod] at h
  | succ fuel ih =>
    intro n t cs d ps h hp
    have hall : ∀ (n : Nat) (fs : List Field), plainAll P n fs = true → ∀ i (hi : i < fs.length), ∃ m, plainB P m fs[i].type = true := by
      intro n
      induction n with
      | zero => intro fs h; simp [plainAll] at h
      | succ n ihn =>
        intro fs h i hi
        cases fs with
        | nil => simp at hi
        | cons f r =>
          rw [plainAll] at h
          split at h
          · rename_i hb
            cases i with
            | zero => exact ⟨n, hb⟩
            | succ i => exact ihn r h i (by simpa using hi)
          · cases h
    cases n with
    | zero => simp [plainB] at hp
    | succ n =>
      rw [plainB] at hp
      split at hp
      ·
        rename_i ht
        obtain ⟨b, rfl, hx⟩ := DataW.trod_bool ht h
        cases hx
        refine ⟨.bool b, .bool ht, (Nat.eq_of_beq_eq_true hp).symm, .one .bool, ?_⟩
        rintro v (⟨xs, rfl, h1, h2⟩ | ⟨h1, h2⟩)
        · simp [aggT, ht] at h2
        · cases h1; exact .bool
      · rename_i k ht
        obtain ⟨m, rfl, hx, hw⟩ := DataW.trod_int ht h
        cases hx
        refine ⟨.int _ m, .int ht hw, (Nat.eq_of_beq_eq_true hp).symm, .one .int, ?_⟩
        rintro v (⟨xs, rfl, h1, h2⟩ | ⟨h1, h2⟩)
        · simp [aggT, ht] at h2
        · cases h1; exact .int
      · rename_i ht
        obtain ⟨s, rfl, hx, hw⟩ := DataW.trod_string ht h
        cases hx
        refine ⟨.str s.data.toList, .str ht (by rw [Array.length_toList]; exact hw), (Nat.eq_of_beq_eq_true hp).symm, .one (.str rfl), ?_⟩
        rintro v (⟨xs, rfl, h1, h2⟩ | ⟨h1, h2⟩)
        · simp [aggT, ht] at h2
        · cases h1; exact .str rfl
      ·
        rename_i e ht
        split at hp
        case h_2 => cases hp
        rename_i hc1 hc0
        have hc1 := Nat.eq_of_beq_eq_true hc1
        have hpos : 0 < P.cellsOf e := by
          rcases Nat.eq_zero_or_pos (P.cellsOf e) with h0 | h0
          · rw [h0] at hc0; cases hc0
          · exact h0
        rcases DataW.trod_slice ht h with ⟨rfl, hx⟩ | ⟨a, len, cap, elems, rest, fu, hfu, rfl, hx, _, hl, hm, hlen, hel, hsp, hns⟩
        · cases hx
          refine ⟨_, .nils ht, hc1.symm, .one (.sl0 (fun h => by cases h)), ?_⟩
          rintro v (⟨xs, rfl, h1, h2⟩ | ⟨h1, h2⟩)
          · simp [aggT, ht] at h2
          · cases h1; exact .sl0 (fun h => by cases h)
        · cases hx
          obtain rfl : fuel = fu := by omega
          have each : ∀ i (hi : i < elems.length), ∃ x, RdD P e (elems[i]).1 x ∧ x.cells.length = P.cellsOf e ∧ ∃ ecs : List Value, W.cells? 0 (a.add (i * P.cellsOf e)) (P.cellsOf e) = some ecs ∧ CellsV W ecs x.cells := by
            intro i hi
            have h1 := hel i (by omega)
            rw [List.getElem?_eq_getElem hi, Option.bind_eq_some_iff] at h1
            obtain ⟨ecs, h2, h3⟩ := h1
            obtain ⟨x, k1, k2, k3, _⟩ := ih n e ecs (elems[i]).1 (elems[i]).2 h3 hp
            exact ⟨x, k1, k2, ecs, h2, k3⟩
          have : ∃ xs : List AV, xs.length = elems.length ∧ ∀ i (hi : i < elems.length) (hx : i < xs.length), RdD P e (elems[i]).1 xs[i] ∧ xs[i].cells.length = P.cellsOf e ∧ ∃ ecs : List Value, W.cells? 0 (a.add (i * P.cellsOf e)) (P.cellsOf e) = some ecs ∧ CellsV W ecs xs[i].cells := by
            refine ⟨(List.finRange elems.length).map fun i => Classical.choose (each i.1 i.2), by simp, fun i hi hx => ?_⟩
            simp only [List.getElem_map, List.getElem_finRange]
            exact Classical.choose_spec (each i hi)
          obtain ⟨xs, hxl, hxs⟩ := this
          have hv : VRel (Rl.old W) W (.slice (some a) len cap) (.sl true false (P.cellsOf e) xs) := by
            rcases Nat.eq_zero_or_pos len with h0 | h0
            · subst h0
              obtain rfl : xs = [] := List.eq_nil_of_length_eq_zero (by omega)
              exact .sl0 (fun h => by cases h)
            · obtain ⟨b, o, sp⟩ := a
              obtain ⟨_, _, ecs0, hc, _⟩ := hxs 0 (by omega) (by omega)
              obtain ⟨_, hcl, hcc⟩ := World.cells?_some hc
              have hcell0 := hcc 0 hpos
              rw [List.getElem?_eq_getElem (by omega)] at hcell0
              have hsp : sp = none := by
                cases sp with
                | none => rfl
                | some s =>
                  simp [Addr.add, World.cell?] at hcell0
                  split at hcell0 <;> cases hcell0
              subst hsp
              have hb : b < W.heap.size := by
                rw [Addr.add_lit] at hcell0
                rcases Nat.lt_or_ge b W.heap.size with h | h
                · exact h
                · simp [World.cell?, Addr.add, Array.getElem?_eq_none h] at hcell0
              have hcel : ∀ i, i < xs.length → ∀ j, j < P.cellsOf e → ∃ v, W.cell? ⟨b, o + i * P.cellsOf e + j, none⟩ = some v ∧ ∀ (hi : i < xs.length) (hj : j < (AV.cells xs[i]).length), VRel (Rl.old W) W v (AV.cells xs[i])[j] := by
                intro i hi j hj
                obtain ⟨_, hxc, ecs, hc, hcv⟩ := hxs i (by omega) hi
                obtain ⟨_, hcl, hcc⟩ := World.cells?_some hc
                have h1 := hcc j hj
                rw [List.getElem?_eq_getElem (by omega)] at h1
                rw [Addr.add_lit, Addr.add_lit] at h1
                refine ⟨ecs[j], h1, fun _ hj' => hcv.2 j _ hj'⟩
              refine .sl (by omega) hl (fun h => by cases h) hb (fun _ => hb) (fun x hx => ?_) (fun i j => (W.cell? ⟨b, o + i * P.cellsOf e + j, none⟩).getD undef) (fun i hi j hj => ?_) (fun i hi j hj => ?_)
              · obtain ⟨i, hi, rfl⟩ := List.getElem_of_mem hx
                exact (hxs i (by omega) hi).2.1
              · obtain ⟨v, h1, _⟩ := hcel i hi j hj
                rw [h1]; rfl
              · obtain ⟨v, h1, h2⟩ := hcel i hi j (by rw [(hxs i (by omega) hi).2.1] at hj; exact hj)
                rw [h1]
                exact h2 hi hj
          refine ⟨.sl true false (P.cellsOf e) xs, .sl ht (by simp [hxl]) (by omega) (fun i h1 h2 => by simpa using (hxs i (by simpa using h1) h2).1), hc1.symm, .one hv, ?_⟩
          rintro v (⟨ys, rfl, h1, h2⟩ | ⟨h1, h2⟩)
          · simp [aggT, ht] at h2
          · cases h1; exact hv
      ·
        rename_i fs ht
        split at hp
        case h_2 => cases hp
        rename_i m hm
        split at hp
        case h_2 => cases hp
        rename_i hcm
        have hcm := Nat.eq_of_beq_eq_true hcm
        obtain ⟨ys, fu, hfu, hx, hl, hyl, hy⟩ := DataW.trod_struct ht h
        obtain rfl : fuel = fu := by omega
        cases hx
        have each : ∀ i (hi : i < fs.toList.length) (hi' : i < ys.length), ∃ x, RdD P (fs.toList[i]).type (ys[i]).1 x ∧ x.cells.length = P.cellsOf (fs.toList[i]).type ∧ CellsV W ((cs.drop (fs.toList[i]).offset).take (P.cellsOf (fs.toList[i]).type)) x.cells := by
          intro i hi hi'
          have h1 := hy i (fs.toList[i]) (by simp at hi; simp [hi])
          rw [List.getElem?_eq_getElem hi'] at h1
          obtain ⟨k, hk⟩ := hall n fs.toList hp i hi
          obtain ⟨x, k1, k2, k3, _⟩ := ih k _ _ (ys[i]).1 (ys[i]).2 h1 hk
          exact ⟨x, k1, k2, k3⟩
        have hfl : fs.toList.length = ys.length := by simp [hyl]
        have : ∃ xs : List AV, xs.length = fs.toList.length ∧ ∀ i (hi : i < fs.toList.length) (hi' : i < ys.length) (hx : i < xs.length), RdD P (fs.toList[i]).type (ys[i]).1 xs[i] ∧ xs[i].cells.length = P.cellsOf (fs.toList[i]).type ∧ CellsV W ((cs.drop (fs.toList[i]).offset).take (P.cellsOf (fs.toList[i]).type)) xs[i].cells := by
          refine ⟨(List.finRange fs.toList.length).map fun i => Classical.choose (each i.1 i.2 (by omega)), by simp, fun i hi hi' hx => ?_⟩
          simp only [List.getElem_map, List.getElem_finRange]
          exact Classical.choose_spec (each i hi hi')
        obtain ⟨xs, hxl, hxs⟩ := this
        obtain ⟨_, hcv⟩ := laidB_flat fs.toList 0 m W cs xs hm hxl (fun i h1 h2 => ⟨(hxs i h1 (by omega) h2).2.2, (hxs i h1 (by omega) h2).2.1⟩) (by omega)
        rw [List.drop_zero] at hcv
        refine ⟨.agg (xs.flatMap AV.cells), .st ht (by simp [hyl]) (by simpa using hxl) (fun i h1 h2 h3 => by
          have := (hxs i (by simpa using h3) (by simpa using h1) h2).1
          simp only [Array.getElem_toList, List.getElem_map] at this ⊢
          exact this), by show (xs.flatMap AV.cells).length = _; rw [← hcv.1]; omega, hcv, ?_⟩
        rintro v (⟨zs, rfl, h1, h2⟩ | ⟨h1, h2⟩)
        · refine .agg (by rw [← hcv.1, ← h1]; simp) (fun i hi => ?_)
          have h3 : i < cs.length := by rw [hcv.1]; exact hi
          have := hcv.2 i h3 hi
          subst h1
          rw [Array.getD_eq_getD_getElem?, Array.getElem?_eq_getElem (by simpa using h3)]
          simpa using this
        · simp [aggT, ht] at h2
      · cases hp
theorem read_plain {H : Type} {enc : TypeId × Value → H} {P : Program} {W : World} {r : Reach} {base : Nat} {n : Nat} {t : TypeId} {v : Value} {d : DataW H} {ps : List MemPlace} (hp : plainB P n t = true) (hv : Value.okWide P W r base t v)
    (h : DataW.Trod enc P W 0 (fun _ => true) true t v d ps) : ∃ a, VRel (Rl.old W) W v a ∧ RdD P t d a := by
  obtain ⟨fuel, hf⟩ := h
  obtain ⟨a, h1, _, _, h2⟩ := read_cells fuel n t _ d ps hf hp
  refine ⟨a, h2 v ?_, h1⟩
  cases n with
  | zero => simp [plainB] at hp
  | succ n =>
    rw [plainB] at hp
    split at hp
    · rename_i ht
      obtain ⟨b, rfl⟩ := okWide_bool ht hv
      exact .inr ⟨rfl, by simp [aggT, ht]⟩
    · rename_i k ht
      obtain ⟨b, rfl⟩ := okWide_int ht hv
      exact .inr ⟨rfl, by simp [aggT, ht]⟩
    · rename_i ht
      obtain ⟨b, rfl⟩ := okWide_string ht hv
      exact .inr ⟨rfl, by simp [aggT, ht]⟩
    · rename_i e ht
      obtain ⟨a, len, cap, rfl⟩ := okWide_slice ht hv
      exact .inr ⟨rfl, by simp [aggT, ht]⟩
    · rename_i fs ht
      obtain ⟨cs, rfl, _⟩ := okWide_struct ht hv
      exact .inl ⟨cs, rfl, rfl, by simp [aggT, ht]⟩
    · cases hp
def RdDAll (P : Program) {H : Type} : List Field → List (DataW H) → List AV → Prop
  | [], [], [] => True
  | f :: fs, d :: ds, x :: xs => RdD P f.type d x ∧ RdDAll P fs ds xs
  | _, _, _ => False
theorem RdDAll.of {P : Program} {H : Type} : ∀ {fs : List Field} {ds : List (DataW H)} {xs : List AV}, ds.length = fs.length → xs.length = fs.length → (∀ i (h1 : i < ds.length) (h2 : i < xs.length) (h3 : i < fs.length), RdD P fs[i].type ds[i] xs[i]) → RdDAll P fs ds xs
  | [], ds, xs, h1, h2, _ => by
    obtain rfl : ds = [] := List.eq_nil_of_length_eq_zero h1
    obtain rfl : xs = [] := List.eq_nil_of_length_eq_zero h2
    trivial
  | f :: fs, ds, xs, h1, h2, h => by
    cases ds with
    | nil => simp at h1
    | cons d ds =>
      cases xs with
      | nil => simp at h2
      | cons x xs =>
        exact ⟨h 0 (by simp) (by simp) (by simp), RdDAll.of (by simpa using h1) (by simpa using h2) (fun i k1 k2 k3 => h (i + 1) (Nat.succ_lt_succ k1) (Nat.succ_lt_succ k2) (Nat.succ_lt_succ k3))⟩
theorem RdDAll.cons {P : Program} {H : Type} {f : Field} {fs : List Field} {ds : List (DataW H)} {xs : List AV} (h : RdDAll P (f :: fs) ds xs) : ∃ d ds' x xs', ds = d :: ds' ∧ xs = x :: xs' ∧ RdD P f.type d x ∧ RdDAll P fs ds' xs' := by
  match ds, xs, h with
  | d :: ds', x :: xs', ⟨h1, h2⟩ => exact ⟨d, ds', x, xs', rfl, rfl, h1, h2⟩
theorem RdDAll.nil {P : Program} {H : Type} {ds : List (DataW H)} {xs : List AV} (h : RdDAll P [] ds xs) : ds = [] ∧ xs = [] := by
  match ds, xs, h with
  | [], [], _ => exact ⟨rfl, rfl⟩
section
variable {P : Program} {H : Type} {t : TypeId} {d : DataW H} {a : AV}
theorem RdD.inv_st {fs : Array Field} (h : RdD P t d a) (ht : P.underlying t = some (.struct fs)) : ∃ ds xs, d = .agg ds ∧ a = .agg (xs.flatMap AV.cells) ∧ RdDAll P fs.toList ds xs := by
  cases h with
  | st ht' hd hx h =>
    rw [ht] at ht'
    cases ht'
    exact ⟨_, _, rfl, rfl, .of (by simpa using hd) (by simpa using hx) (fun i h1 h2 h3 => by simpa using h i h1 h2 (by simpa using h3))⟩
  | bool ht' => rw [ht] at ht'; cases ht'
  | str ht' => rw [ht] at ht'; cases ht'
  | int ht' => rw [ht] at ht'; cases ht'
  | nils ht' => rw [ht] at ht'; cases ht'
  | sl ht' => rw [ht] at ht'; cases ht'
theorem RdD.inv_str (h : RdD P t d a) (ht : P.underlying t = some .string) : ∃ s, d = .lit (.string s) ∧ a = .str s ∧ s.length ≤ maxLen := by
  cases h with
  | str ht' hs => exact ⟨_, rfl, rfl, hs⟩
  | bool ht' => rw [ht] at ht'; cases ht'
  | int ht' => rw [ht] at ht'; cases ht'
  | nils ht' => rw [ht] at ht'; cases ht'
  | sl ht' => rw [ht] at ht'; cases ht'
  | st ht' => rw [ht] at ht'; cases ht'
theorem RdD.inv_bool (h : RdD P t d a) (ht : P.underlying t = some .bool) : ∃ b, d = .lit (.bool b) ∧ a = .bool b := by
  cases h with
  | bool ht' => exact ⟨_, rfl, rfl⟩
  | int ht' => rw [ht] at ht'; cases ht'
  | str ht' => rw [ht] at ht'; cases ht'
  | nils ht' => rw [ht] at ht'; cases ht'
  | sl ht' => rw [ht] at ht'; cases ht'
  | st ht' => rw [ht] at ht'; cases ht'
theorem RdD.inv_sl {e : TypeId} (h : RdD P t d a) (ht : P.underlying t = some (.slice e)) :
    ∃ (ds : List (DataW H)) (xs : List AV), a = .sl true false (P.cellsOf e) xs ∧ xs.length = ds.length ∧ xs.length ≤ maxLen ∧ (∀ i (h1 : i < ds.length) (h2 : i < xs.length), RdD P e ds[i] xs[i]) ∧ ((d = .nil ∧ ds = []) ∨ ∃ rest, d = .slice ds rest) := by
  cases h with
  | nils ht' => rw [ht] at ht'; cases ht'; exact ⟨[], [], rfl, rfl, Nat.zero_le _, fun i h => absurd h (by simp), .inl ⟨rfl, rfl⟩⟩
  | sl ht' hl hm h => rw [ht] at ht'; cases ht'; exact ⟨_, _, rfl, hl, hm, h, .inr ⟨_, rfl⟩⟩
  | bool ht' => rw [ht] at ht'; cases ht'
  | int ht' => rw [ht] at ht'; cases ht'
  | str ht' => rw [ht] at ht'; cases ht'
  | st ht' => rw [ht] at ht'; cases ht'
theorem RdD.each {α : Type} {e : TypeId} (f : α → AV) (g : α → DataW H → Prop) {ds : List (DataW H)} {xs : List AV} (hl : xs.length = ds.length) (h : ∀ i (h1 : i < ds.length) (h2 : i < xs.length), RdD P e ds[i] xs[i])
    (hf : ∀ d x, RdD P e d x → ∃ y, x = f y ∧ g y d) : ∃ ys : List α, xs = ys.map f ∧ ys.length = ds.length ∧ ∀ i (h1 : i < ds.length) (h2 : i < ys.length), g ys[i] ds[i] := by
  induction xs generalizing ds with
  | nil =>
    obtain rfl : ds = [] := List.eq_nil_of_length_eq_zero (by simpa using hl.symm)
    exact ⟨[], rfl, rfl, fun i h => absurd h (by simp)⟩
  | cons x xs ih =>
    cases ds with
    | nil => simp at hl
    | cons d ds =>
      obtain ⟨y, hy, hg⟩ := hf d x (h 0 (by simp) (by simp))
      obtain ⟨ys, h1, h2, h3⟩ := ih (ds := ds) (by simpa using hl) (fun i k1 k2 => h (i + 1) (Nat.succ_lt_succ k1) (Nat.succ_lt_succ k2))
      refine ⟨y :: ys, by rw [hy, h1]; rfl, by simp [h2], fun i k1 k2 => ?_⟩
      cases i with
      | zero => exact hg
      | succ i => exact h3 i (Nat.lt_of_succ_lt_succ k1) (Nat.lt_of_succ_lt_succ k2)
end
end Go.Ab
end
section
set_option linter.unusedVariables false
set_option linter.unusedSimpArgs false
namespace Go.Ab
open Go Go.WideShapes
mutual
def avB : AV → Nat
  | .str s => s.length
  | .sl _ _ _ xs => avS xs
  | .agg cs => avC cs
  | _ => 0
def avS : List AV → Nat
  | [] => 0
  | x :: r => avB x + 1 + avS r
def avC : List AV → Nat
  | [] => 0
  | x :: r => avB x + avC r
end
theorem avC_append (a b : List AV) : avC (a ++ b) = avC a + avC b := by
  induction a with
  | nil => simp [avC]
  | cons x a ih => simp only [List.cons_append, avC, ih]; omega
theorem avC_cells (x : AV) : avC x.cells ≤ avB x := by
  cases x <;> simp [AV.cells, avC, avB]
theorem avC_flat (xs : List AV) : avC (xs.flatMap AV.cells) ≤ avC xs := by
  induction xs with
  | nil => simp
  | cons x xs ih =>
    have := avC_cells x
    simp only [List.flatMap_cons, avC_append, avC]; omega
theorem avC_le_avS (xs : List AV) : avC xs ≤ avS xs := by
  induction xs with
  | nil => simp [avC, avS]
  | cons x xs ih => simp only [avC, avS]; omega
theorem bulk_all {P : Program} {H : Type} {B : DataW H → Nat} {BA : List (DataW H) → Nat} (hn : BA [] = 0) (hc : ∀ d r, BA (d :: r) = B d + BA r) : ∀ {ds : List (DataW H)} {xs : List AV}, xs.length = ds.length →
    (∀ i (h1 : i < ds.length) (h2 : i < xs.length), avB xs[i] + 1 ≤ B ds[i]) → avS xs ≤ BA ds
  | [], xs, hl, h => by
    obtain rfl : xs = [] := List.eq_nil_of_length_eq_zero (by simpa using hl)
    simp [avS]
  | d :: ds, xs, hl, h => by
    cases xs with
    | nil => simp at hl
    | cons x xs =>
      have h0 := h 0 (by simp) (by simp)
      have := bulk_all (P := P) (B := B) hn hc (ds := ds) (xs := xs) (by simpa using hl) (fun i h1 h2 => h (i + 1) (Nat.succ_lt_succ h1) (Nat.succ_lt_succ h2))
      simp only [avS, hc]
      simp only [List.getElem_cons_zero] at h0
      omega
theorem RdD.bulk {P : Program} {H : Type} {B : DataW H → Nat} {BA : List (DataW H) → Nat} (hn : BA [] = 0) (hc : ∀ d r, BA (d :: r) = B d + BA r) (h1 : ∀ d, 1 ≤ B d) (hs : ∀ s, B (.lit (.string s)) = s.length + 1)
    (hsl : ∀ a b, B (.slice a b) = BA a + BA b + 1) (hag : ∀ a, B (.agg a) = BA a + 1) {t : TypeId} {d : DataW H} {a : AV} (h : RdD P t d a) : avB a + 1 ≤ B d := by
  induction h with
  | bool => simpa [avB] using h1 _
  | int => simpa [avB] using h1 _
  | str => simp [avB, hs]
  | nils => simpa [avB, avS] using h1 _
  | sl ht hl hm h ih =>
    have := bulk_all (P := P) (B := B) hn hc hl ih
    rw [hsl]; simp only [avB]; omega
  | st ht hd hx h ih =>
    have := bulk_all (P := P) (B := B) hn hc (by omega) (fun i a b => ih i a b (by omega))
    rw [hag]; simp only [avB]
    rename_i t fs ds xs
    have k1 := avC_flat xs
    have k2 := avC_le_avS xs
    omega
end Go.Ab
end
section
set_option linter.unusedVariables false
set_option linter.unusedSimpArgs false
set_option maxRecDepth 20000
set_option maxHeartbeats 4000000
namespace Go.Proofs.YtpehmhlgldbeoaaGreatDoor
open Go Go.Ab
theorem avS_fils (l : List Fil) : l.length ≤ avS (fils l) ∧ ∀ f ∈ l, f.path.length + f.text.length ≤ avS (fils l) := by
  induction l with
  | nil => exact ⟨Nat.zero_le _, fun f hf => by cases hf⟩
  | cons g r ih =>
    have e : avS (fils (g :: r)) = (g.path.length + (g.text.length + (0 + 0))) + 1 + avS (fils r) := by
      show avS (filA g :: fils r) = _
      simp only [avS, filA, avB, avC]
    rw [e]
    refine ⟨by rw [List.length_cons]; omega, fun f hf => ?_⟩
    rcases List.mem_cons.1 hf with rfl | hf
    · omega
    · have := ih.2 f hf; omega
theorem fils_of {l : List Fil} (hk : avB (.sl true false 3 (fils l)) ≤ 1048576) : FilsOk l := by
  have h : avS (fils l) ≤ 1048576 := by simpa only [avB] using hk
  have := avS_fils l
  exact ⟨by omega, fun f hf => by have := this.2 f hf; omega, fun f hf => by have := this.2 f hf; omega⟩
end Go.Proofs.YtpehmhlgldbeoaaGreatDoor
end
section
set_option linter.unusedVariables false
set_option linter.unusedSimpArgs false
set_option maxRecDepth 20000
set_option maxHeartbeats 4000000
namespace Go.Proofs.YtpehmhlgldbeoaaGreatDoor
open Go Go.Ab
theorem filesAre_ok {st fl st' fl' : Bool} (a b : List Fil) (e : Nat) (ha : a.length ≤ 1000000000) (hb : b.length ≤ 1000000000) (h0 : e = 0 → a = b) (h1 : e ≠ 0 → a = []) : Calc cx 23 [.sl st fl 3 (fils a), .int .i64 (e : Nat), .int .i64 (e : Nat), .sl st' fl' 3 (fils b)] (.bool true) :=
  pure_intro (fun a w => Tryz.call23 a w) Tryz.func23 rfl Tryz.ntmps23 rfl .bool fun B => by
    by_cases he : e = 0
    · obtain rfl := h0 he
      subst he
      have hS := SameFiles_ok (st := st) (fl := fl) (st' := st') (fl' := fl') a a ha ha
      rw [decide_eq_true rfl] at hS
      refine pa [.b false, .b true, .v (.bool true)] rfl ?_ ?_
      · (repeat' with_reducible apply AllP_cons) <;> try exact aC
        · exact ⟨_, hS, .cons (.refl (.sl (fun h => by cases h) (fils_free a))) (.cons (.refl (.sl (fun h => by cases h) (fils_free a))) (.nil _))⟩
      exact S_retc .bool rfl trivial rfl
    · obtain rfl := h1 he
      have hS := SameFiles_ok (st := st) (fl := fl) (st' := false) (fl' := false) [] [] (by decide) (by decide)
      rw [decide_eq_true rfl] at hS
      refine pa [.b true, .b true, .v (.bool true)] rfl ?_ ?_
      · (repeat' with_reducible apply AllP_cons) <;> try exact aC
        · show ((((e : Int)) != 0) = true)
          rw [chk_bne]; simpa using he
        · exact ⟨_, hS, .cons (.refl (.sl (fun h => by cases h) (fils_free []))) (.cons .nils (.nil _))⟩
      exact S_retc .bool rfl trivial rfl
def flatSV (y : List Fil × Nat) : AV := .tup [.sl true false 3 (fils (if y.2 = 0 then y.1 else [])), .int .i64 (y.2 : Nat)]
theorem flatS {f : FuncId} {args : List AV} {y : List Fil × Nat} (h : Calc cx f args (flatAV y)) : Calc cx f args (flatSV y) :=
  h.weak (.tup (by intro x hx; simp at hx; rcases hx with rfl | rfl; exact .sl (fun _ => rfl) (fils_free _); exact .int)) fun r w v hv => by
    unfold flatAV at hv
    unfold flatSV
    by_cases he : y.2 = 0
    · rw [if_pos he] at hv ⊢; exact hv
    · rw [if_neg he] at hv ⊢
      cases hv with
      | tup hn hall =>
        refine .tup hn fun i hi => ?_
        match i, hi with
        | 0, hi =>
          have h0 := hall 0 (by simp)
          have h0 : VRel r w _ .nils := h0
          show VRel r w _ (.sl true false 3 [])
          generalize Array.getD _ 0 undef = z at h0 ⊢
          cases h0
          exact .sl0 (fun h => by cases h)
        | 1, hi => exact hall 1 (by simp)
        | k + 2, hi => exact absurd hi (by simp)
end Go.Proofs.YtpehmhlgldbeoaaGreatDoor
end
section
set_option linter.unusedVariables false
set_option linter.unusedSimpArgs false
set_option maxRecDepth 20000
namespace Go.Proofs.YtpehmhlgldbeoaaGreatDoor
open Go Go.Ab Go.Shelf Go.RowKit Go.Lib Go.Sort
def lay_grow_ren : Go.Shelf.Ren := ⟨fun | 4 => 96 | n => n, fun | 22 => 22 | 25 => 48 | 3 => 3 | 4 => 4 | 9 => 9 | 20 => 20 | 0 => 0 | n => n, fun | n => n⟩
theorem lay_grow : Go.Proofs.Lays8.n4 Tryz.prog lay_grow_ren := {
  mixed := by kernel_rfl
  f4 := ⟨Tryz.f96.name, by decide, Tryz.func96.trans (congrArg some (by kernel_rfl))⟩
  t0 := Tryz.underlying0
  a0 := Tryz.isAgg0
  z0 := Tryz.sizeOf0
  v0 := Tryz.zeroValue0
  t3 := Tryz.underlying3
  a3 := Tryz.isAgg3
  z3 := Tryz.sizeOf3
  v3 := Tryz.zeroValue3
  t4 := Tryz.underlying4
  a4 := Tryz.isAgg4
  z4 := Tryz.sizeOf4
  v4 := Tryz.zeroValue4
  t9 := Tryz.underlying9
  a9 := Tryz.isAgg9
  z9 := Tryz.sizeOf9
  v9 := Tryz.zeroValue9
  t20 := Tryz.underlying20
  a20 := Tryz.isAgg20
  z20 := Tryz.sizeOf20
  v20 := Tryz.zeroValue20
  t22 := Tryz.underlying22
  a22 := Tryz.isAgg22
  z22 := Tryz.sizeOf22
  v22 := Tryz.zeroValue22 }
end Go.Proofs.YtpehmhlgldbeoaaGreatDoor
end
section
set_option linter.unusedVariables false
set_option linter.unusedSimpArgs false
namespace Go.Ab
open Go Go.Shelf Go.RowKit Go.Lib
theorem Grow_gen {cx : Cx} {ρ : Ren} (L : Go.Proofs.Lays8.n4 cx.P ρ) (he : Enters cx.P (ρ.f 4)) {i0 : TypeInfo} {z : Value} (hi0 : cx.P.info? (ρ.t 25) = some i0) (hz0 : i0.zero = some z) (hs0 : 0 < i0.size) (hzs : z.cells.size = i0.size)
    {σ σ' : Heap} {id ver n : Nat} (ha : allocH σ (.cells [] ⟨false, none⟩) = (id, ver, σ')) (hb : n * i0.bytes ≤ 140737488355328) (h63 : n ≤ 4611686018427387904) :
    CallOk cx (ρ.f 4) [.nils, .int .i64 (n : Nat)] σ (fun e s => e = .ret (.ms id ver 0 0 i0.size false) ∧ s = σ') := by
  refine ⟨he, fun r w vs hi hv => ?_⟩
  obtain ⟨hs, hv⟩ := hv
  have g0 := hv 0 (by simp)
  have g1 := hv 1 (by simp)
  have hvs : vs = #[vs.getD 0 undef, vs.getD 1 undef] := by
    have hs : vs.size = 2 := hs
    refine Array.ext (by simp [hs]) fun j h1 h2 => ?_
    match j, h1 with
    | 0, h1 => simp [Array.getD, h1]
    | 1, h1 => simp [Array.getD, h1]
    | j + 2, h1 => omega
  rw [hvs]
  generalize vs.getD 0 undef = a at g0
  generalize vs.getD 1 undef = b at g1
  have g0 : VRel r w a .nils := g0
  have g1 : VRel r w b (.int .i64 (n : Nat)) := g1
  cases g0
  cases g1
  by_cases hn : n = 0
  · subst hn
    refine (Go.Proofs.Any8.slices_Grow_room L none 0 0 0 w (Nat.le_refl _) (by decide) (by decide) (Nat.le_refl _)).mono ?_
    rintro e w' ⟨rfl, rfl⟩
    obtain ⟨ha1, ha2, ha3⟩ := allocH_spec ha
    obtain ⟨q1, q2⟩ := hi.ghost ha1 ha2 ha3
    exact ⟨_, _, r, ⟨rfl, rfl⟩, .ms0, q1, q2⟩
  · refine (Go.Proofs.Any8.slices_Grow_grow L i0 z hi0 hz0 hs0 none 0 0 n [] w (Nat.le_refl _) (by omega) (by simpa using hb) (by omega) (by simp) (fun _ => rfl) (fun a h => by cases h)).mono ?_
    rintro e w' ⟨rfl, rfl⟩
    obtain ⟨hi1, hx1⟩ := hi.heap_eq (w' := w.drew) rfl rfl rfl rfl
    obtain ⟨r', k1, k2, k3, k4, k5⟩ := hi1.newCells (c := (([] : List Value).toArray ++ Builtin.zeroCells z.cells (0 + n - 0) ++ Builtin.zeroCells z.cells (grownCap w (0 + n) 0 (ρ.t 25) - (0 + n)))) (t := ρ.t 25) ha (fun j hj => absurd hj (by simp)) (fun x hx => by cases hx) (fun T h => by cases h)
    have hG := grownCap_ge w (0 + n) 0 (ρ.t 25)
    refine ⟨_, _, r', ⟨rfl, rfl⟩, ?_, k1, hx1.trans k2⟩
    refine VRel.ms (o := 0) (off := 0) k3 ⟨_, _, _, heap_alloc_self w.drew _, ?_⟩ (Nat.zero_le _) (fun h => by cases h)
    generalize grownCap w (0 + n) 0 (ρ.t 25) = G at hG
    have hsz : ∀ k, (Builtin.zeroCells z.cells k).size = k * i0.size := fun k => by rw [size_zeroCells, hzs]
    show 0 + 0 + G * i0.size ≤ (([] : List Value).toArray ++ Builtin.zeroCells z.cells (0 + n - 0) ++ Builtin.zeroCells z.cells (G - (0 + n))).size
    rw [Array.size_append, Array.size_append, hsz, hsz]
    have : G * i0.size = (0 + n - 0) * i0.size + (G - (0 + n)) * i0.size := by
      rw [← Nat.add_mul]; congr 1; omega
    simp only [List.size_toArray, List.length_nil]
    omega
end Go.Ab
end
section
set_option linter.unusedVariables false
set_option linter.unusedSimpArgs false
set_option maxRecDepth 20000
set_option maxHeartbeats 4000000
namespace Go.Proofs.YtpehmhlgldbeoaaGreatDoor
open Go Go.Ab
theorem GrowF_ok {σ σ' : Heap} {id ver n : Nat} (ha : allocH σ (.cells [] ⟨false, none⟩) = (id, ver, σ')) (hn : n ≤ 1000000000000) :
    CallOk cx 96 [.nils, .int .i64 (n : Nat)] σ (fun e s => e = .ret (.ms id ver 0 0 3 false) ∧ s = σ') :=
  Grow_gen (cx := cx) (i0 := (Tryz.prog.types[48]'(by decide +kernel))) (z := .agg #[.string .empty, .string .empty, .bool false]) lay_grow (fun a w => Tryz.call96 a w) (by kernel_rfl) (by kernel_rfl) (by decide +kernel) (by kernel_rfl) ha (by
    have : (Tryz.prog.types[48]'(by decide +kernel)).bytes = 40 := by kernel_rfl
    rw [this]; omega) (by omega)
def szC (a b : List Fil) : Nat → Nat
  | 0 => 0
  | 1 => a.length
  | _ => a.length + b.length
def ccC (a b : List Fil) : Nat → List Fil
  | 0 => []
  | 1 => a
  | _ => a ++ b
theorem celsF_app (a b : List Fil) : celsF (a ++ b) = celsF a ++ celsF b := by
  unfold celsF fils; rw [List.map_append, List.flatMap_append]
theorem Concat_ok {st fl st' fl' : Bool} (a b : List Fil) (ha : a.length ≤ 1000000000) (hb : b.length ≤ 1000000000) :
    Calc cx 65 [.sl true true 1 [.sl st fl 3 (fils a), .sl st' fl' 3 (fils b)]] (.sl true false 3 (fils (a ++ b))) :=
  pure_intro (fun a w => Tryz.call65 a w) Tryz.func65 rfl Tryz.ntmps65 rfl (.sl (fun _ => rfl) (fils_free _)) fun B => by
    have hla := fils_len a
    have hlb := fils_len b
    refine pB [] rfl ?_
    refine S_while (α := Nat) (fun i => [(0, .sl true true 1 [.sl st fl 3 (fils a), .sl st' fl' 3 (fils b)]), (3, .int .i64 (szC a b i : Nat)), (9, .sl true true 1 [.sl st fl 3 (fils a), .sl st' fl' 3 (fils b)]), (10, .int .i64 2), (11, .int .i64 (i : Nat))]) (fun _ => []) (fun i => i ≤ 2) (fun i => 2 - i) 0
      (Nat.zero_le _) (.cons rfl (.cons rfl (.cons rfl (.cons rfl (.cons rfl (.nil _)))))) rfl ?_
    intro i hi
    have hi : i ≤ 2 := hi
    have hw0 : IntKind.i64.wrap (((0 : Nat) : Int) + (((fils a).length : Nat) : Int)) = (a.length : Int) := w64 (by omega) (by omega)
    have hw1 : IntKind.i64.wrap ((a.length : Int) + (((fils b).length : Nat) : Int)) = ((a.length + b.length : Nat) : Int) := w64 (by omega) (by omega)
    match i, hi with
    | 0, _ =>
      refine pa [.b true, .v (.sl st fl 3 (fils a)), .b false] rfl ?_ ?_
      · (repeat' with_reducible apply AllP_cons) <;> try exact aC
        · show decide (IntKind.i64.wrap (((0 : Nat) : Int) + (((fils a).length : Nat) : Int)) < 0) = false
          rw [hw0]; exact decide_eq_false (by omega)
      exact S_round 1 (by decide) (by decide) (.cons rfl (.cons (by show AV.int .i64 (IntKind.i64.wrap (((0 : Nat) : Int) + (((fils a).length : Nat) : Int))) = .int .i64 (a.length : Int); rw [hw0]) (.cons rfl (.cons rfl (.cons rfl (.nil _)))))) rfl
    | 1, _ =>
      refine pa [.b true, .v (.sl st' fl' 3 (fils b)), .b false] rfl ?_ ?_
      · (repeat' with_reducible apply AllP_cons) <;> try exact aC
        · show decide (IntKind.i64.wrap ((a.length : Int) + (((fils b).length : Nat) : Int)) < 0) = false
          rw [hw1]; exact decide_eq_false (by omega)
      exact S_round 2 (by decide) (by decide) (.cons rfl (.cons (by show AV.int .i64 (IntKind.i64.wrap ((a.length : Int) + (((fils b).length : Nat) : Int))) = .int .i64 ((a.length + b.length : Nat) : Int); rw [hw1]) (.cons rfl (.cons rfl (.cons rfl (.nil _)))))) rfl
    | 2, _ =>
      have hG := GrowF_ok (σ := []) (n := a.length + b.length) rfl (by omega)
      refine pB [.b false, .f (.ms 0 0 0 0 3 false) (fun _ => [(0, some (.cells [] ⟨false, none⟩))])] rfl ?_
      refine S_while (α := Nat) (fun i => [(25, .sl true true 1 [.sl st fl 3 (fils a), .sl st' fl' 3 (fils b)]), (26, .int .i64 2), (27, .int .i64 (i : Nat)), (6, .ms 0 i 0 (ccC a b i).length 3 false)]) (fun i => [(i, some (.cells (celsF (ccC a b i)) ⟨false, none⟩))]) (fun i => i ≤ 2) (fun i => 2 - i) 0
        (Nat.zero_le _) (.cons rfl (.cons rfl (.cons rfl (.cons rfl (.nil _))))) rfl ?_
      intro i hi
      have hi : i ≤ 2 := hi
      have hca := cels_len a
      match i, hi with
      | 0, _ =>
        refine pa [.b true, .v (.sl st fl 3 (fils a))] rfl ?_ ?_
        · (repeat' with_reducible apply AllP_cons) <;> try exact aC
          · exact cels_one a
          · exact cels_one a
          · show (0 + (fils a).length) * 40 ≤ 140737488355328
            omega
          · show 0 + (fils a).length ≤ 9223372036854775807
            omega
        refine S_round 1 (by decide) (by decide) (.cons rfl (.cons rfl (.cons rfl (.cons ?_ (.nil _))))) ?_
        · show AV.ms 0 1 0 (0 + (fils a).length) 3 false = AV.ms 0 1 0 a.length 3 false
          rw [hla, Nat.zero_add]
        · rfl
      | 1, _ =>
        refine pa [.b true, .v (.sl st' fl' 3 (fils b))] rfl ?_ ?_
        · (repeat' with_reducible apply AllP_cons) <;> try exact aC
          · exact cels_one b
          · exact cels_one b
          · show 0 + a.length * 3 = (celsF a).length
            omega
          · show (a.length + (fils b).length) * 40 ≤ 140737488355328
            omega
          · show a.length + (fils b).length ≤ 9223372036854775807
            omega
        refine S_round 2 (by decide) (by decide) (.cons rfl (.cons rfl (.cons rfl (.cons ?_ (.nil _))))) ?_
        · show AV.ms 0 2 0 (a.length + (fils b).length) 3 false = AV.ms 0 2 0 (a ++ b).length 3 false
          rw [hlb, List.length_append]
        · show ([(2, some (.cells (celsF a ++ celsF b) ⟨false, none⟩))] : Heap) = [(2, some (.cells (celsF (a ++ b)) ⟨false, none⟩))]
          rw [celsF_app]
      | 2, _ =>
        have hcl := cels_len (a ++ b)
        refine pB [.b false] rfl ?_
        refine S_ret ⟨_, _, rfl, trivial, _, rfl, ?_⟩
        show Frz true [(2, some (.cells (celsF (a ++ b)) ⟨false, none⟩))] (.ms 0 2 0 (a ++ b).length 3 false) (.sl true false 3 (fils (a ++ b)))
        exact .ms rfl (by omega) (by rw [List.drop_zero]; exact List.take_of_length_le (by omega)) (fil_size _) (fils_len _) (fils_free _)
theorem both_ok {st fl st' fl' : Bool} (a b : List Fil) (ha : FilsOk a) (hb : FilsOk b) : Calc cx 64 [.sl st fl 3 (fils a), .sl st' fl' 3 (fils b)] (.int .i64 ((if chkT a = 0 then chkT b else chkT a : Nat) : Int)) :=
  pure_intro (fun a w => Tryz.call64 a w) Tryz.func64 rfl Tryz.ntmps64 rfl .int fun B => by
    have hA := Check_ok (st := st) (fl := fl) a ha
    have hB := Check_ok (st := st') (fl := fl') b hb
    by_cases hc : chkT a = 0
    · rw [hc] at hA
      rw [if_pos hc]
      refine pa [.v (.int .i64 ((0 : Nat) : Int)), .b false, .v (.int .i64 (chkT b : Nat))] rfl ?_ ?_
      · (repeat' with_reducible apply AllP_cons) <;> try exact aC
        · exact ⟨_, hA, .cons (.refl (.sl (fun h => by cases h) (fils_free a))) (.nil _)⟩
        · exact ⟨_, hB, .cons (.refl (.sl (fun h => by cases h) (fils_free b))) (.nil _)⟩
      exact S_retc .int rfl trivial rfl
    · rw [if_neg hc]
      refine pa [.v (.int .i64 (chkT a : Nat)), .b true] rfl ?_ ?_
      · (repeat' with_reducible apply AllP_cons) <;> try exact aC
        · exact ⟨_, hA, .cons (.refl (.sl (fun h => by cases h) (fils_free a))) (.nil _)⟩
        · show ((((chkT a : Nat) : Int)) != 0) = true
          rw [chk_bne]; simpa using hc
      exact S_retc .int rfl trivial rfl
def fBx (v : Nat) (f : Fil) (w : Nat) (l : List Fil) : Heap := [filBx v f, (w, some (.cells (celsF l) ⟨false, none⟩))]
theorem Over1_ok (v : Nat) (f : Fil) (w : Nat) (l : List Fil) (g : Fil) (hf : f.path.length ≤ 1000000000000) :
    CallOk cx 68 [filA g, .ptr 0 v 0] (fBx v f w l) (fun o s => o = .ret (.bool (insT f.path g.path)) ∧ s = fBx v f w l) :=
  callOk_introT (fun a w => Tryz.call68 a w) Tryz.func68 rfl Tryz.ntmps68 rfl fun B => by
    have hN := inside_ok f.path g.path hf
    refine pa [.v (.bool (insT f.path g.path))] rfl ?_ ?_
    · (repeat' with_reducible apply AllP_cons) <;> try exact aC
      · exact ⟨_, hN, .cons (.refl .str) (.cons (.refl .str) (.nil _))⟩
    refine S_ret ⟨_, _, rfl, trivial, 2, Nat.le_refl _, LowH.of (fun e he x hx => ?_), _, .low .bool, rfl, rfl⟩
    have he : e ∈ [filBx v f, (w, some (.cells (celsF l) ⟨false, none⟩))] := he
    simp only [List.mem_cons, List.not_mem_nil, or_false] at he
    rcases he with rfl | rfl
    · cases hx
      refine .cells fun z hz => ?_
      have hz : z ∈ [AV.str f.path, .str f.text, .bool f.run] := hz
      simp at hz; rcases hz with rfl | rfl | rfl; exact .str; exact .str; exact .bool
    · cases hx
      exact .cells fun z hz => (Low.free (cels_free (st := true) l z hz))
theorem cels_at : ∀ {l : List Fil} {i : Nat} (h : i < l.length), ∃ r, (celsF l).drop (i * 3) = .str l[i].path :: .str l[i].text :: .bool l[i].run :: r
  | f :: l, 0, h => ⟨celsF l, rfl⟩
  | f :: l, i + 1, h => by
    obtain ⟨r, hr⟩ := cels_at (l := l) (i := i) (by simpa using h)
    refine ⟨r, ?_⟩
    have e : celsF (f :: l) = [.str f.path, .str f.text, .bool f.run] ++ celsF l := rfl
    have e2 : (i + 1) * 3 = ([.str f.path, .str f.text, .bool f.run] : List AV).length + i * 3 := by simp; omega
    rw [e, e2, List.drop_append, Nat.add_sub_cancel_left, hr, List.drop_eq_nil_of_le (by omega)]
    rfl
theorem cels_off (i : Nat) : offN 0 (mulN (i : Int).toNat 3) = i * 3 := by
  rw [Int.toNat_natCast, offN_eq, mulN_eq, Nat.zero_add]
theorem IndexFuncF_ok (v : Nat) (f : Fil) (w : Nat) (l : List Fil) (hf : f.path.length ≤ 1000000000000) (hl : l.length ≤ 1000000000) :
    CallOk cx 98 [.ms 1 w 0 l.length 3 false, .func (.func 68) [] [.ptr 0 v 0]] (fBx v f w l) (fun o s => o = .ret (.int .i64 (match l.findIdx? (fun g => insT f.path g.path) with | some i => (i : Int) | none => -1)) ∧ s = fBx v f w l) :=
  callOk_intro (fun a w => Tryz.call98 a w) Tryz.func98 rfl Tryz.ntmps98 rfl fun B => by
    refine pB [] rfl ?_
    refine S_while (α := Nat) (fun i => [(0, .ms 1 w 0 l.length 3 false), (1, .func (.func 68) [] [.ptr 0 v 0]), (7, .int .i64 (l.length : Nat)), (8, .int .i64 (i : Nat))]) (fun _ => fBx v f w l) (fun i => i ≤ l.length ∧ ∀ k (hk : k < l.length), k < i → insT f.path l[k].path = false) (fun i => l.length - i) 0
      ⟨Nat.zero_le _, fun k hk h => absurd h (Nat.not_lt_zero _)⟩ (.cons rfl (.cons rfl (.cons rfl (.cons rfl (.nil _))))) rfl ?_
    rintro i ⟨hi, hN⟩
    have hi : i ≤ l.length := hi
    by_cases hlt : i < l.length
    · have e1 : decide ((i : Int) < (l.length : Int)) = true := decide_eq_true (by omega)
      have hC := Over1_ok v f w l l[i] hf
      cases hin : insT f.path l[i].path with
      | true =>
        rw [hin] at hC
        refine pa [.b true, .v .top, .v (filA l[i]), .k (.bool true), .b true] rfl ?_ ?_
        · (repeat' with_reducible apply AllP_cons) <;> try exact aC
          · show 3 ≤ ((celsF l).drop (offN 0 (mulN (i : Int).toNat 3))).length
            rw [cels_off, List.length_drop, cels_len]; omega
          · show filA l[i] = .agg (List.take 3 ((celsF l).drop (offN 0 (mulN (i : Int).toNat 3))))
            obtain ⟨r, hr⟩ := cels_at hlt
            rw [cels_off, hr]; rfl
        refine S_ret ⟨_, _, rfl, trivial, ?_, rfl⟩
        have : l.findIdx? (fun g => insT f.path g.path) = some i := by
          rw [List.findIdx?_eq_some_iff_getElem]
          exact ⟨hlt, hin, fun j hj => by rw [hN j (by omega) hj]; simp⟩
        rw [this]; rfl
      | false =>
        rw [hin] at hC
        refine pa [.b true, .v .top, .v (filA l[i]), .k (.bool false), .b false] rfl ?_ ?_
        · (repeat' with_reducible apply AllP_cons) <;> try exact aC
          · show 3 ≤ ((celsF l).drop (offN 0 (mulN (i : Int).toNat 3))).length
            rw [cels_off, List.length_drop, cels_len]; omega
          · show filA l[i] = .agg (List.take 3 ((celsF l).drop (offN 0 (mulN (i : Int).toNat 3))))
            obtain ⟨r, hr⟩ := cels_at hlt
            rw [cels_off, hr]; rfl
        refine S_round (i + 1) (by show l.length - (i + 1) < l.length - i; omega) ⟨hlt, fun k hk h => ?_⟩ (.cons rfl (.cons rfl (.cons rfl (.cons (nX (by omega)) (.nil _))))) rfl
        have h : k < i + 1 := h
        by_cases hki : k < i
        · exact hN k hk hki
        · have : k = i := by omega
          subst this; exact hin
    · have e1 : decide ((i : Int) < (l.length : Int)) = false := decide_eq_false (by omega)
      refine pB [.b false] rfl ?_
      refine S_ret ⟨_, _, rfl, trivial, ?_, rfl⟩
      have : l.findIdx? (fun g => insT f.path g.path) = none := by
        rw [List.findIdx?_eq_none_iff]
        intro x hx
        obtain ⟨k, hk, rfl⟩ := List.getElem_of_mem hx
        exact hN k hk (by omega)
      rw [this]; rfl
theorem ContainsFuncF_ok (v : Nat) (f : Fil) (w : Nat) (l : List Fil) (hf : f.path.length ≤ 1000000000000) (hl : l.length ≤ 1000000000) :
    CallOk cx 67 [.ms 1 w 0 l.length 3 false, .func (.func 68) [] [.ptr 0 v 0]] (fBx v f w l) (fun o s => o = .ret (.bool (l.any fun g => insT f.path g.path)) ∧ s = fBx v f w l) :=
  callOk_intro (fun a w => Tryz.call67 a w) Tryz.func67 rfl Tryz.ntmps67 rfl fun B => by
    have hI := IndexFuncF_ok v f w l hf hl
    refine pB [.k (.int .i64 (match l.findIdx? (fun g => insT f.path g.path) with | some i => (i : Int) | none => -1))] rfl ?_
    refine S_ret ⟨_, _, rfl, trivial, ?_, rfl⟩
    show Out.ret (.bool (decide ((match l.findIdx? (fun g => insT f.path g.path) with | some i => (i : Int) | none => -1) ≥ 0))) = _
    congr 2
    cases h : l.findIdx? (fun g => insT f.path g.path) with
    | none =>
      rw [List.findIdx?_eq_none_iff] at h
      rw [List.any_eq_false.2 (fun x hx => by have := h x hx; rw [this]; simp)]; rfl
    | some i =>
      rw [List.findIdx?_eq_some_iff_getElem] at h
      obtain ⟨h1, h2, _⟩ := h
      rw [List.any_eq_true.2 ⟨_, List.getElem_mem h1, h2⟩]
      show decide ((i : Int) ≥ 0) = true
      exact decide_eq_true (by omega)
end Go.Proofs.YtpehmhlgldbeoaaGreatDoor
end
section
set_option linter.unusedVariables false
set_option linter.unusedSimpArgs false
set_option maxRecDepth 20000
set_option maxHeartbeats 4000000
namespace Go.Proofs.YtpehmhlgldbeoaaGreatDoor
open Go Go.Ab
def lessN (s : List UInt8) : List (List UInt8) → Nat
  | [] => 0
  | x :: r => if Op.bytesLess x s = true then lessN s r + 1 else 0
def addT (l : List (List UInt8)) (s : List UInt8) : List (List UInt8) := if l[lessN s l]? = some s then l else l.take (lessN s l) ++ s :: l.drop (lessN s l)
theorem lessN_le (s : List UInt8) : ∀ l : List (List UInt8), lessN s l ≤ l.length
  | [] => Nat.le_refl _
  | x :: r => by
    rw [lessN]
    split
    · have := lessN_le s r; rw [List.length_cons]; omega
    · exact Nat.zero_le _
theorem lessN_lt {s : List UInt8} : ∀ {l : List (List UInt8)} {i : Nat} (hi : i < l.length), i < lessN s l → Op.bytesLess l[i] s = true
  | x :: r, i, hi, h => by
    rw [lessN] at h
    split at h
    · rename_i hx
      cases i with
      | zero => exact hx
      | succ i => exact lessN_lt (l := r) (by simpa using hi) (by omega)
    · omega
theorem lessN_at {s : List UInt8} : ∀ {l : List (List UInt8)} (h : lessN s l < l.length), Op.bytesLess l[lessN s l] s = false
  | x :: r, h => by
    by_cases hx : Op.bytesLess x s = true
    · have e : lessN s (x :: r) = lessN s r + 1 := by rw [lessN, if_pos hx]
      have h' : lessN s r < r.length := by rw [e, List.length_cons] at h; omega
      have := lessN_at h'
      simp only [e, List.getElem_cons_succ]
      exact this
    · have e : lessN s (x :: r) = 0 := by rw [lessN, if_neg hx]
      simp only [e, List.getElem_cons_zero]
      simpa using hx
end Go.Proofs.YtpehmhlgldbeoaaGreatDoor
end
section
set_option linter.unusedVariables false
set_option linter.unusedSimpArgs false
set_option maxRecDepth 20000
set_option maxHeartbeats 4000000
namespace Go.Proofs.YtpehmhlgldbeoaaGreatDoor
open Go Go.Ab
theorem nodup_perm {a b : List (List UInt8)} (ha : a.Nodup) (hb : b.Nodup) (h : ∀ x, x ∈ a ↔ x ∈ b) : a.Perm b := by
  exact (List.perm_ext_iff_of_nodup ha hb).2 h
theorem addT_sort {m : List (List UInt8)} (hm : m.Nodup) (s : List UInt8) : addT (sortT m) s = sortT (addU m s) := by
  obtain ⟨l, hl⟩ : ∃ l, l = sortT m := ⟨_, rfl⟩
  have hlt : ∀ (i j : Nat) (hij : i < j) (hj : j < l.length), l[i]'(by omega) < l[j] := by
    subst hl; exact fun i j hij hj => sort_lt hm hij hj
  have hmem : ∀ x, x ∈ l ↔ x ∈ m := fun x => by rw [hl]; exact (sortT_perm m).mem_iff
  rw [← hl]
  have hk := lessN_le s l
  by_cases hs : l[lessN s l]? = some s
  · rw [addT, if_pos hs, addU, if_pos ((hmem s).1 (List.mem_of_getElem? hs)), hl]
  · have hbefore : ∀ i (hi : i < l.length), i < lessN s l → l[i] < s := fun i hi h => by
      have := lessN_lt hi h
      rw [bl_eq] at this; simpa using this
    have hafter : ∀ i (hi : i < l.length), lessN s l ≤ i → s < l[i] := by
      intro i hi h
      have hk2 : lessN s l < l.length := by omega
      have h1 := lessN_at hk2
      rw [bl_eq] at h1
      have h1 : ¬ l[lessN s l] < s := by simpa using h1
      have h2 : l[lessN s l] ≠ s := fun e => hs (by rw [List.getElem?_eq_getElem hk2, e])
      have h3 : s < l[lessN s l] := by
        rcases Std.lt_trichotomy l[lessN s l] s with h | h | h
        · exact absurd h h1
        · exact absurd h h2
        · exact h
      rcases Nat.lt_or_ge (lessN s l) i with h4 | h4
      · exact List.lt_trans h3 (hlt _ _ h4 hi)
      · have : lessN s l = i := by omega
        simpa only [this] using h3
    have hns : s ∉ m := by
      intro h
      obtain ⟨i, hi, e⟩ := List.getElem_of_mem ((hmem s).2 h)
      rcases Nat.lt_or_ge i (lessN s l) with h1 | h1
      · have := hbefore i hi h1; rw [e] at this; exact List.lt_irrefl _ this
      · have := hafter i hi h1; rw [e] at this; exact List.lt_irrefl _ this
    rw [addT, if_neg hs, addU, if_neg hns]
    refine perm_sorted ?_ ?_ (sortT_pw _)
    · refine List.perm_middle.trans ?_
      rw [List.take_append_drop]
      refine List.Perm.trans ?_ (sortT_perm _).symm
      rw [hl]
      refine ((sortT_perm m).cons s).trans ?_
      exact (List.perm_append_singleton s m).symm
    · rw [List.pairwise_append]
      have hpw : l.Pairwise (fun x y => x ≤ y) := by rw [hl]; exact sortT_pw m
      refine ⟨hpw.sublist (List.take_sublist _ _), ?_, ?_⟩
      · rw [List.pairwise_cons]
        refine ⟨fun x hx => ?_, hpw.sublist (List.drop_sublist _ _)⟩
        obtain ⟨i, hi, rfl⟩ := List.getElem_of_mem hx
        rw [List.getElem_drop]
        rw [List.length_drop] at hi
        exact List.le_of_lt (hafter _ (by omega) (by omega))
      · intro x hx y hy
        obtain ⟨i, hi, rfl⟩ := List.getElem_of_mem hx
        rw [List.length_take] at hi
        rw [List.getElem_take]
        have h1 := hbefore i (by omega) (by omega)
        rcases List.mem_cons.1 hy with rfl | hy
        · exact List.le_of_lt h1
        · obtain ⟨j, hj, rfl⟩ := List.getElem_of_mem hy
          rw [List.length_drop] at hj
          rw [List.getElem_drop]
          exact List.le_of_lt (List.lt_trans h1 (hafter _ (by omega) (by omega)))
end Go.Proofs.YtpehmhlgldbeoaaGreatDoor
end
section
set_option linter.unusedVariables false
set_option linter.unusedSimpArgs false
namespace Go.Ab
open Go
structure KeyLaw {α : Type} [DecidableEq α] (cx : Cx) (kt : TypeId) (key : α → AV) : Prop where
  check : ∀ (e : Bool) (r : Rl) (w : World) (v : Value) (a : α), VRel r w v (key a) → (Instr.checkKey e 10000 kt v).run cx.P w = .ok () w
  equal : ∀ (r : Rl) (w : World) (u v : Value) (a b : α), VRel r w u (key a) → VRel r w v (key b) → (Op.equal kt u v).run cx.P w = .ok (decide (a = b)) w
  bits : ∀ (r : Rl) (w : World) (u v : Value) (a : α), VRel r w u (key a) → VRel r w v (key a) → Instr.sameBits 10000 u v = true
  slow : ∃ d, cx.P.underlying kt = some d ∧ ∀ k e l i, Instr.findNow d k (e :: l) i = none
def fieldsFit (P : Program) : List Field → List AV → Bool
  | [], _ => true
  | f :: fs, xs => match aLoad P f.type (xs.drop f.offset) with
    | some y => keyFits P f.type y && fieldsFit P fs xs
    | none => false
theorem checkKey_one {P : Program} {w : World} {k : TypeId} {key : Value} {r : Rl} {a : AV} (e : Bool) (d : Nat) (h : keyFits P k a = true) (ha : VRel r w key a) : (Instr.checkKey e (d + 1) k key).run P w = .ok () w := by
  obtain ⟨q, hu, hd⟩ := keyFits_spec h
  unfold Instr.checkKey
  rcases hd with ⟨rfl, s, rfl⟩ | ⟨j, rfl, n, m, rfl⟩ | ⟨rfl, x, rfl⟩ <;> cases ha <;> simp [run_underlying hu]
theorem checkKey_struct {P : Program} {w : World} {k : TypeId} {v : Value} {r : Rl} {az : List AV} {fs : Array Field} (e : Bool) (hu : P.underlying k = some (.struct fs)) (hf : fieldsFit P fs.toList az = true) (ha : VRel r w v (.agg az)) : (Instr.checkKey e 10000 k v).run P w = .ok () w := by
  have hva : ∃ xs, v = .agg xs := by cases ha; exact ⟨_, rfl⟩
  obtain ⟨xs, rfl⟩ := hva
  show (Instr.checkKey e (9998 + 1 + 1) k (.agg xs)).run P w = _
  rw [Instr.checkKey]
  simp only [Sem.run_bind, run_underlying hu, Result.andThen_ok]
  rw [← Array.forIn_toList]
  generalize fs.toList = L at hf
  induction L with
  | nil => simp
  | cons f L ih =>
    rw [fieldsFit] at hf
    split at hf
    case h_2 => cases hf
    rename_i y hy
    rw [Bool.and_eq_true] at hf
    obtain ⟨z, p1, p2⟩ := part_run ha hy
    have p3 := checkKey_one e 9998 hf.1 p2
    by_cases hn : f.name = "_"
    · simp only [List.forIn_cons, Sem.run_bind, hn, ne_eq, not_true_eq_false, if_false, Result.andThen_ok, Sem.run_pure]
      exact ih hf.2
    · simp only [List.forIn_cons, Sem.run_bind, hn, ne_eq, not_false_eq_true, if_true, Result.andThen_ok, p1, p3, Sem.run_pure]
      exact ih hf.2
theorem equal_struct {P : Program} {w : World} {t : TypeId} {u v : Value} {r : Rl} {az bs : List AV} {fs : Array Field} {b : Bool} (ht : P.underlying t = some (.struct fs)) (hc : cmpOk P t = true) (hb : eqFs P fs.toList az bs = some b) (hx : VRel r w u (.agg az)) (hy : VRel r w v (.agg bs)) :
    (Op.equal t u v).run P w = .ok b w := by
  have hxa : ∃ xs, u = .agg xs := by cases hx; exact ⟨_, rfl⟩
  have hya : ∃ xs, v = .agg xs := by cases hy; exact ⟨_, rfl⟩
  obtain ⟨xs, rfl⟩ := hxa
  obtain ⟨ys, rfl⟩ := hya
  have hfo : P.fieldsOf t = fs := by simp [Program.fieldsOf, ht]
  unfold cmpOk at hc
  rw [ht] at hc
  simp only [Bool.and_eq_true, Bool.not_eq_true', List.all_eq_true, bne_iff_ne] at hc
  show (Op.equalIn (9998 + 1 + 1) t _ _).run P w = _
  rw [run_equalIn_struct w (9998 + 1) t xs ys (by rw [hfo]; exact ht) hc.1.1, hfo]
  exact eqFs_run 9998 hx hy fs.toList hb hc.2
def plainA : AV → Bool
  | .str _ => true
  | .int _ _ => true
  | .bool _ => true
  | _ => false
theorem bits_one {r : Rl} {w : World} {u v : Value} {a : AV} (d : Nat) (h : plainA a = true) (hu : VRel r w u a) (hv : VRel r w v a) : Instr.sameBits d u v = true := by
  cases a <;> first | cases h | skip
  · cases hu; cases hv; unfold Instr.sameBits; simp
  · cases hu; cases hv; unfold Instr.sameBits; simp
  · cases hu with
    | str h1 =>
      cases hv with
      | str h2 =>
        unfold Instr.sameBits
        exact (MapKept.bytes_beq _ _).2 (ByteArray.ext (Array.toList_inj.1 (h1.trans h2.symm)))
theorem bits_struct {r : Rl} {w : World} {u v : Value} {az : List AV} (h : az.all plainA = true) (hu : VRel r w u (.agg az)) (hv : VRel r w v (.agg az)) : Instr.sameBits 10000 u v = true := by
  cases hu with
  | agg hn h1 =>
    cases hv with
    | agg hm h2 =>
      rename_i xs ys
      unfold Instr.sameBits
      rw [Bool.and_eq_true]
      refine ⟨by simp [hn, hm], ?_⟩
      rw [List.all_eq_true]
      rintro ⟨x, y⟩ hxy
      obtain ⟨i, hi, e⟩ := List.getElem_of_mem hxy
      rw [List.length_zip, Array.length_toList, Array.length_toList] at hi
      rw [List.getElem_zip] at e
      have hia : i < az.length := by omega
      have k1 := h1 i hia
      have k2 := h2 i hia
      have e1 : xs.getD i undef = x := by
        rw [Array.getD_eq_getD_getElem?, Array.getElem?_eq_getElem (by omega)]
        exact (congrArg Prod.fst e)
      have e2 : ys.getD i undef = y := by
        rw [Array.getD_eq_getD_getElem?, Array.getElem?_eq_getElem (by omega)]
        exact (congrArg Prod.snd e)
      rw [e1] at k1; rw [e2] at k2
      exact bits_one _ (List.all_eq_true.1 h _ (List.getElem_mem hia)) k1 k2
theorem KeyLaw.struct {α : Type} [DecidableEq α] {cx : Cx} {kt : TypeId} {fs : Array Field} {parts : α → List AV} (hu : cx.P.underlying kt = some (.struct fs)) (hc : cmpOk cx.P kt = true) (hf : ∀ a, fieldsFit cx.P fs.toList (parts a) = true) (hp : ∀ a, (parts a).all plainA = true)
    (he : ∀ a b, eqFs cx.P fs.toList (parts a) (parts b) = some (decide (a = b))) : KeyLaw cx kt (fun a => .agg (parts a)) where
  check := fun e r w v a h => checkKey_struct e hu (hf a) h
  equal := fun r w u v a b h1 h2 => equal_struct hu hc (he a b) h1 h2
  bits := fun r w u v a h1 h2 => bits_struct (hp a) h1 h2
  slow := ⟨_, hu, fun k e l i => rfl⟩
section
variable {α : Type} [DecidableEq α]
def mapG (key : α → AV) (ks : List α) (val : α → AV) : List (AV × AV) := ks.map fun k => (key k, val k)
theorem KeyLaw.find {cx : Cx} {kt : TypeId} {key : α → AV} (L : KeyLaw cx kt key) {r : Rl} {w : World} {a : α} {k : Value} (hk : VRel r w k (key a)) : ∀ (es : List MapEntry) (ks : List α) (i : Nat), es.length = ks.length → (∀ j (h : j < ks.length), ∃ e, es[j]? = some e ∧ VRel r w e.key (key ks[j])) →
    (a ∉ ks ∧ (Instr.findAsking kt k es i).run cx.P w = .ok none w) ∨ (a ∈ ks ∧ ∃ e, es[ks.idxOf a]? = some e ∧ (Instr.findAsking kt k es i).run cx.P w = .ok (some (i + ks.idxOf a, e.val)) w)
  | [], [], i, _, _ => .inl ⟨by simp, by simp [Instr.findAsking]⟩
  | [], _ :: _, _, hl, _ => by simp at hl
  | _ :: _, [], _, hl, _ => by simp at hl
  | e :: es, x :: ks, i, hl, hr => by
    obtain ⟨e0, q1, q2⟩ := hr 0 (by simp)
    simp only [List.getElem?_cons_zero, Option.some.injEq, List.getElem_cons_zero] at q1 q2
    subst q1
    have heq := L.equal r w k e.key a x hk q2
    by_cases hax : a = x
    · subst hax
      refine .inr ⟨by simp, e, by simp, ?_⟩
      rw [decide_eq_true rfl] at heq
      rw [Instr.findAsking]
      simp only [Sem.run_bind, heq, Result.andThen_ok, if_true, Sem.run_pure, List.idxOf_cons_self, Nat.add_zero]
    · rw [decide_eq_false hax] at heq
      have hf : (Instr.findAsking kt k (e :: es) i).run cx.P w = (Instr.findAsking kt k es (i + 1)).run cx.P w := by
        conv => lhs; rw [Instr.findAsking]
        simp [heq]
      have hx : (x == a) = false := by simpa using Ne.symm hax
      rcases KeyLaw.find L hk es ks (i + 1) (by simpa using hl) (fun j hj => by
        obtain ⟨e', m1, m2⟩ := hr (j + 1) (by simp; omega)
        exact ⟨e', by simpa using m1, by simpa using m2⟩) with ⟨h1, h2⟩ | ⟨h1, e', h2, h3⟩
      · exact .inl ⟨by simp [hax, h1], by rw [hf]; exact h2⟩
      · refine .inr ⟨List.mem_cons_of_mem _ h1, e', ?_, ?_⟩
        · rw [List.idxOf_cons, hx]; simpa using h2
        · rw [hf, h3, List.idxOf_cons, hx]
          simp only [cond_false]
          rw [show i + 1 + ks.idxOf a = i + (ks.idxOf a + 1) by omega]
theorem KeyLaw.findKey {cx : Cx} {kt : TypeId} {key : α → AV} (L : KeyLaw cx kt key) {r : Rl} {w : World} {a : α} {k : Value} (hk : VRel r w k (key a)) {es : Array MapEntry} {clock : Nat} {ks : List α} {val : α → AV} {st : Option (List Nat × Nat)} (hm : MapIs r w es clock (mapG key ks val) st) :
    (a ∉ ks ∧ (Instr.findKey kt k es.toList).run cx.P w = .ok none w) ∨ (a ∈ ks ∧ ∃ e, es[ks.idxOf a]? = some e ∧ VRel r w e.val (val a) ∧ VRel r w e.key (key a) ∧ (Instr.findKey kt k es.toList).run cx.P w = .ok (some (ks.idxOf a, e.val)) w) := by
  have hlen : (mapG key ks val).length = ks.length := by simp [mapG]
  have hat : ∀ j (h : j < ks.length), ∃ e, es[j]? = some e ∧ VRel r w e.key (key ks[j]) ∧ VRel r w e.val (val ks[j]) := by
    intro j hj
    obtain ⟨e, h1, h2, h3⟩ := hm.2.1 j (by omega)
    refine ⟨e, h1, ?_, ?_⟩
    · simpa [mapG] using h2
    · simpa [mapG] using h3
  obtain ⟨d, hd, hs⟩ := L.slow
  have h := L.find hk es.toList ks 0 (by rw [Array.length_toList, hm.1, hlen]) (fun j hj => by
    obtain ⟨e, h1, h2, _⟩ := hat j hj
    exact ⟨e, by rw [Array.getElem?_toList]; exact h1, h2⟩)
  have hfk : (Instr.findKey kt k es.toList).run cx.P w = (Instr.findAsking kt k es.toList 0).run cx.P w := by
    unfold Instr.findKey
    cases hes : es.toList with
    | nil => simp [run_underlying hd, Instr.findNow, Instr.findAsking]
    | cons e l => simp [run_underlying hd, hs]
  rw [hfk]
  rcases h with h | ⟨h1, e, h2, h3⟩
  · exact .inl h
  · refine .inr ⟨h1, e, by rw [← Array.getElem?_toList]; exact h2, ?_, ?_, by rw [h3, Nat.zero_add]⟩
    · obtain ⟨e', m1, m2, m3⟩ := hat _ (List.idxOf_lt_length_of_mem h1)
      rw [Array.getElem?_toList, m1] at h2
      obtain rfl := Option.some.inj h2
      rw [List.getElem_idxOf] at m3; exact m3
    · obtain ⟨e', m1, m2, m3⟩ := hat _ (List.idxOf_lt_length_of_mem h1)
      rw [Array.getElem?_toList, m1] at h2
      obtain rfl := Option.some.inj h2
      rw [List.getElem_idxOf] at m2; exact m2
variable {cx : Cx} {n : Nat} {fr : Fr} {σ : Heap}
end
end Go.Ab
end
section
set_option linter.unusedVariables false
set_option linter.unusedSimpArgs false
set_option maxRecDepth 20000
set_option maxHeartbeats 4000000
namespace Go.Proofs.YtpehmhlgldbeoaaGreatDoor
open Go Go.Ab
def difE (a b : List Fil) : Nat := if chkT a = 0 then chkT b else chkT a
end Go.Proofs.YtpehmhlgldbeoaaGreatDoor
end
section
set_option linter.unusedVariables false
set_option linter.unusedSimpArgs false
namespace Go.Ab
open Go
section
variable {cx : Cx} {n : Nat} {B : Bs} {k : List AI} {Q : Post} {fr : Fr} {σ : Heap}
inductive Wv : AV → AV → Prop
  | refl {a} : Wv a a
  | nils {st fl sz} : Wv .nils (.sl st fl sz [])
  | sl {st fl st' fl' sz xs} (h1 : st' = true → st = true) (h2 : fl' = true → fl = true) : Wv (.sl st fl sz xs) (.sl st' fl' sz xs)
theorem Wv.rel {r : Rl} {w : World} {v : Value} {a a' : AV} (h : Wv a a') (hv : VRel r w v a) : VRel r w v a' := by
  cases h with
  | refl => exact hv
  | nils => cases hv; exact .sl0 (fun _ => rfl)
  | sl h1 h2 =>
    cases hv with
    | sl0 hf => exact .sl0 (fun h => hf (h2 h))
    | sl hn hc0 hf hI hS hsz f hc hv => exact .sl hn hc0 (fun h => hf (h2 h)) hI (fun h => hS (h1 h)) hsz f hc hv
theorem Wv.one {a a' : AV} (h : Wv a a') (ho : a.one = true) : a'.one = true := by
  cases h with
  | refl => exact ho
  | nils => rfl
  | sl _ _ => rfl
inductive Wvs : List AV → List AV → Prop
  | nil : Wvs [] []
  | cons {a b az bs} (h : Wv a b) (hs : Wvs az bs) : Wvs (a :: az) (b :: bs)
theorem Wvs.len {az bs : List AV} (h : Wvs az bs) : az.length = bs.length := by
  induction h with
  | nil => rfl
  | cons _ _ ih => simp [ih]
theorem Wvs.get {az bs : List AV} (h : Wvs az bs) : ∀ (i : Nat) (h1 : i < az.length) (h2 : i < bs.length), Wv az[i] bs[i] := by
  induction h with
  | nil => intro i h1; simp at h1
  | cons h hs ih =>
    intro i h1 h2
    cases i with
    | zero => exact h
    | succ i => exact ih i (by simpa using h1) (by simpa using h2)
end
end Go.Ab
end
section
set_option linter.unusedVariables false
set_option linter.unusedSimpArgs false
set_option maxRecDepth 20000
set_option maxHeartbeats 4000000
namespace Go.Proofs.YtpehmhlgldbeoaaGreatDoor
open Go Go.Ab
def atF (l : List Fil) (p : List UInt8) : Int := match l.findIdx? (fun f => f.path == p) with
  | some i => (i : Nat)
  | none => -1
theorem atF_at {l : List Fil} {p : List UInt8} {i : Nat} (hi : i < l.length) (h : (l[i].path == p) = true) (hn : ∀ j (hj : j < l.length), j < i → (l[j].path == p) = false) : atF l p = (i : Nat) := by
  have : l.findIdx? (fun f => f.path == p) = some i := by
    rw [List.findIdx?_eq_some_iff_getElem]
    exact ⟨hi, h, fun j hj => by simp [hn j (by omega) hj]⟩
  unfold atF; rw [this]
theorem atF_no {l : List Fil} {p : List UInt8} (hn : ∀ j (hj : j < l.length), (l[j].path == p) = false) : atF l p = -1 := by
  have : l.findIdx? (fun f => f.path == p) = none := by
    rw [List.findIdx?_eq_none_iff]
    intro f hf
    obtain ⟨j, hj, rfl⟩ := List.getElem_of_mem hf
    exact hn j hj
  unfold atF; rw [this]
theorem FileAt_ok {st fl : Bool} (l : List Fil) (p : List UInt8) (hl : l.length ≤ 1000000000) : Calc cx 41 [.sl st fl 3 (fils l), .str p] (.int .i64 (atF l p)) :=
  pure_intro (fun a w => Tryz.call41 a w) Tryz.func41 rfl Tryz.ntmps41 rfl .int fun B => by
    have hll := fils_len l
    refine pB [] rfl ?_
    refine S_while (α := Nat) (fun i => [(0, .sl st fl 3 (fils l)), (1, .str p), (5, .int .i64 (i : Nat))]) (fun _ => []) (fun i => i ≤ l.length ∧ ∀ j (hj : j < l.length), j < i → (l[j].path == p) = false) (fun i => l.length - i) 0
      ⟨Nat.zero_le _, fun j hj h => absurd h (Nat.not_lt_zero _)⟩ (.cons rfl (.cons rfl (.cons rfl (.nil _)))) rfl ?_
    rintro i ⟨hi, hn⟩
    have hi : i ≤ l.length := hi
    by_cases hlt : i < l.length
    · have e1 : decide ((i : Int) < (((fils l).length : Nat) : Int)) = true := decide_eq_true (by omega)
      have g1 : (fils l)[(i : Int).toNat]? = some (filA l[i]) := fils_get hlt
      cases h : l[i].path == p with
      | true =>
        rw [atF_at hlt h hn]
        refine pB [.b true, .v (filA l[i]), .b true] rfl ?_
        exact S_retc .int rfl trivial rfl
      | false =>
        refine pB [.b true, .v (filA l[i]), .b false] rfl ?_
        exact S_round (i + 1) (by show l.length - (i + 1) < l.length - i; omega) ⟨hlt, fun j hj h' => by
          by_cases hji : j < i
          · exact hn j hj hji
          · have : j = i := by omega
            subst this; exact h⟩ (.cons rfl (.cons rfl (.cons (nX (by omega)) (.nil _)))) rfl
    · have hil : i = l.length := by omega
      subst hil
      have e1 : decide ((l.length : Int) < (((fils l).length : Nat) : Int)) = false := decide_eq_false (by omega)
      rw [atF_no (fun j hj => hn j hj hj)]
      refine pB [.b false] rfl ?_
      exact S_retc .int rfl trivial rfl
theorem ok_path {l : List Fil} (h : okT l) {f g : Fil} (hf : f ∈ l) (hg : g ∈ l) (e : f.path = g.path) : f = g := by
  obtain ⟨i, hi, rfl⟩ := List.getElem_of_mem hf
  obtain ⟨j, hj, rfl⟩ := List.getElem_of_mem hg
  have hp := List.pairwise_iff_getElem.1 h.1
  rcases Nat.lt_trichotomy i j with hij | hij | hij
  · have := hp i j hi hj hij; rw [e, bl_irr] at this; cases this
  · subst hij; rfl
  · have := hp j i hj hi hij; rw [e, bl_irr] at this; cases this
end Go.Proofs.YtpehmhlgldbeoaaGreatDoor
end
section
set_option linter.unusedVariables false
set_option linter.unusedSimpArgs false
set_option maxRecDepth 20000
set_option maxHeartbeats 4000000
namespace Go.Proofs.YtpehmhlgldbeoaaGreatDoor
open Go Go.Ab
theorem fsR {σ : Heap} {st fl : Bool} (l : List Fil) : Frz false σ (.sl st fl 3 (fils l)) (.sl st fl 3 (fils l)) := .refl (.sl (fun h => by cases h) (fils_free l))
theorem twoTrees_ok {st fl st' fl' : Bool} (a b : List Fil) (ha : FilsOk a) (hb : FilsOk b) : Calc cx 37 [.sl st fl 3 (fils a), .sl st' fl' 3 (fils b)] (.int .i64 (difE a b : Nat)) :=
  pure_intro (fun a w => Tryz.call37 a w) Tryz.func37 rfl Tryz.ntmps37 rfl .int fun B => by
    have hA := CheckTree_ok (st := st) (fl := fl) a ha
    have hB := CheckTree_ok (st := st') (fl := fl') b hb
    unfold difE
    by_cases hc : chkT a = 0
    · rw [if_pos hc]
      rw [hc] at hA
      refine pa [.v (.int .i64 ((0 : Nat) : Int)), .b true, .v (.int .i64 (chkT b : Nat))] rfl ?_ ?_
      · (repeat' with_reducible apply AllP_cons) <;> try exact aC
        · exact ⟨_, hA, .cons (fsR a) (.nil _)⟩
        · exact ⟨_, hB, .cons (fsR b) (.nil _)⟩
      exact S_retc .int rfl trivial rfl
    · rw [if_neg hc]
      have e1 : (((chkT a : Nat) : Int) == 0) = false := by simpa using hc
      refine pa [.v (.int .i64 (chkT a : Nat)), .b false] rfl ?_ ?_
      · (repeat' with_reducible apply AllP_cons) <;> try exact aC
        · exact ⟨_, hA, .cons (fsR a) (.nil _)⟩
      exact S_retc .int rfl trivial rfl
theorem dif_both {a b : List Fil} (h : difE a b = 0) : chkT a = 0 ∧ chkT b = 0 := by
  unfold difE at h
  by_cases hc : chkT a = 0
  · rw [if_pos hc] at h; exact ⟨hc, h⟩
  · rw [if_neg hc] at h; exact absurd h hc
end Go.Proofs.YtpehmhlgldbeoaaGreatDoor
end
section
set_option linter.unusedVariables false
set_option linter.unusedSimpArgs false
namespace Go.Ab
open Go
section
variable {cx : Cx} {n : Nat} {B : Bs} {k : List AI} {Q : Post} {fr : Fr} {σ : Heap}
def Rl.also (r : Rl) (q v : Nat) (y : Option (Nat × Nat)) : Rl := { r with ρ := fun id ver => if id = q ∧ ver = v then y else r.ρ id ver }
theorem S_move {todo : List AI} {t : Nat} (p q : Nat) {vp vq off len sz : Nat} {full : Bool} {x : Box} (hp : σ[p]? = some (vp, some x)) (hq : σ[q]? = some (vq, none)) (ht : fr.get t = .ms p vp off len sz full) (hB : ∀ ver y, B.r.ρ p ver ≠ some y)
    (hT : ∃ c k, todo = .code c :: k ∨ ∃ all l K, todo = .ops all l K :: k) (hk : S cx n B todo Q ((t, .ms q (vq + 1) off len sz full) :: fr) ((σ.set p (vp, none)).set q (vq + 1, some x))) : S cx n B todo Q fr σ := by
  have hpq : p ≠ q := fun e => by subst e; rw [hp] at hq; cases hq
  have hlt : ∀ {i : Nat} {e}, σ[i]? = some e → i < σ.length := fun {i e} h => by
    rcases Nat.lt_or_ge i σ.length with h' | h'
    · exact h'
    · rw [List.getElem?_eq_none h'] at h; cases h
  have hpl := hlt hp
  have hql := hlt hq
  obtain ⟨σ', hσ'⟩ : ∃ σ', σ' = (σ.set p (vp, none)).set q (vq + 1, some x) := ⟨_, rfl⟩
  rw [← hσ'] at hk
  have hgq : σ'[q]? = some (vq + 1, some x) := by rw [hσ', List.getElem?_set, if_pos rfl]; simp [hql]
  have hgp : σ'[p]? = some (vp, none) := by rw [hσ', List.getElem?_set, if_neg (Ne.symm hpq), List.getElem?_set, if_pos rfl]; simp [hpl]
  have hgo : ∀ j, j ≠ p → j ≠ q → σ'[j]? = σ[j]? := fun j h1 h2 => by rw [hσ', List.getElem?_set, if_neg (Ne.symm h2), List.getElem?_set, if_neg (Ne.symm h1)]
  have hlen : σ'.length = σ.length := by rw [hσ']; simp
  have key : ∀ r w a, Inv cx r σ w → FRel r w n fr a → Ext B.r B.σ B.w r σ w → ∃ r', Inv cx r' σ' w ∧ Ext B.r B.σ B.w r' σ' w ∧ FRel r' w n ((t, .ms q (vq + 1) off len sz full) :: fr) a := by
    intro r w a hi hf hx
    have hno : ∀ y, r.ρ q (vq + 1) ≠ some y := fun y h => by
      obtain ⟨⟨cur, z, h1, h2⟩, _⟩ := hi.lt q (vq + 1) y.1 y.2 h
      rw [hq] at h1; cases h1; omega
    have hρo : ∀ id ver y, r.ρ id ver = some y → (r.also q (vq + 1) (r.ρ p vp)).ρ id ver = some y := fun id ver y h => by
      show (if id = q ∧ ver = vq + 1 then r.ρ p vp else r.ρ id ver) = some y
      rw [if_neg]
      · exact h
      · rintro ⟨rfl, rfl⟩; exact hno _ h
    have hρq : (r.also q (vq + 1) (r.ρ p vp)).ρ q (vq + 1) = r.ρ p vp := if_pos ⟨rfl, rfl⟩
    have hρn : ∀ id ver, ¬ (id = q ∧ ver = vq + 1) → (r.also q (vq + 1) (r.ρ p vp)).ρ id ver = r.ρ id ver := fun id ver h => if_neg h
    have g : Grow r w (r.also q (vq + 1) (r.ρ p vp)) w := ⟨fun _ h => h, fun _ h => h, hρo, fun _ _ => rfl, fun b c t f h => ⟨c, f, h, rfl⟩⟩
    have hone : ∀ (j v : Nat) (z : Box), σ'[j]? = some (v, some z) → (j = q ∧ v = vq + 1 ∧ z = x) ∨ (j ≠ p ∧ j ≠ q ∧ σ[j]? = some (v, some z)) := by
      intro j v z h
      by_cases h1 : j = q
      · subst h1; rw [hgq] at h; cases h; exact .inl ⟨rfl, rfl, rfl⟩
      · by_cases h2 : j = p
        · subst h2; rw [hgp] at h; cases h
        · rw [hgo j h2 h1] at h; exact .inr ⟨h2, h1, h⟩
    have hlive : ∀ b, Live (r.also q (vq + 1) (r.ρ p vp)) σ' b → Live r σ b := by
      rintro b ⟨j, v, z, o, h1, h2⟩
      rcases hone j v z h1 with ⟨rfl, rfl, rfl⟩ | ⟨h3, h4, h5⟩
      · rw [hρq] at h2; exact ⟨p, vp, z, o, hp, h2⟩
      · rw [hρn _ _ (fun e => h4 e.1)] at h2; exact ⟨j, v, z, o, h5, h2⟩
    refine ⟨r.also q (vq + 1) (r.ρ p vp), ⟨?_, ?_, ?_, fun b hb => hi.imm b (hlive b hb), hi.Ilt, hi.SI, hi.glob.free (r' := r.also q (vq + 1) (r.ρ p vp)) (fun b h => h) (fun b h => hi.SI b h)⟩, ⟨hx.S, hx.I, hx.Sf, hx.If, fun id ver y h => hρo _ _ _ (hx.ρ _ _ _ h), hx.hs, by rw [hlen]; exact hx.σl, hx.same, fun b hb => hx.liv b (hlive b hb), hx.size, hx.os, hx.output, hx.tape, ?_⟩, hf.size, ?_, ?_⟩
    · intro id ver z h
      rcases hone id ver z h with ⟨rfl, rfl, rfl⟩ | ⟨h3, h4, h5⟩
      · rcases hi.box p vp z hp with ⟨b, o, h1, h2⟩ | ⟨h1, h2⟩
        · exact .inl ⟨b, o, by rw [hρq]; exact h1, h2.mono g rfl⟩
        · exact .inr ⟨by rw [hρq]; exact h1, h2⟩
      · rcases hi.box id ver z h5 with ⟨b, o, h1, h2⟩ | ⟨h1, h2⟩
        · exact .inl ⟨b, o, hρo _ _ _ h1, h2.mono g rfl⟩
        · exact .inr ⟨by rw [hρn _ _ (fun e => h4 e.1)]; exact h1, h2⟩
    · intro id ver b o h
      by_cases he : id = q ∧ ver = vq + 1
      · obtain ⟨rfl, rfl⟩ := he
        rw [hρq] at h
        exact ⟨⟨_, _, hgq, Nat.le_refl _⟩, (hi.lt _ _ _ _ h).2⟩
      · rw [hρn _ _ he] at h
        obtain ⟨⟨cur, z, h1, h2⟩, h3⟩ := hi.lt _ _ _ _ h
        refine ⟨?_, h3⟩
        by_cases h4 : id = q
        · subst h4
          rw [hq] at h1; cases h1
          exact ⟨_, _, hgq, by omega⟩
        · by_cases h5 : id = p
          · subst h5
            rw [hp] at h1; cases h1
            exact ⟨_, _, hgp, h2⟩
          · exact ⟨cur, z, by rw [hgo id h5 h4]; exact h1, h2⟩
    · intro id id' ver ver' z z' b o o' h1 h2 h3 h4
      rcases hone id ver z h1 with ⟨rfl, rfl, rfl⟩ | ⟨k1, k2, k3⟩ <;> rcases hone id' ver' z' h2 with ⟨e1, e2, e3⟩ | ⟨k4, k5, k6⟩
      · exact e1.symm
      · rw [hρq] at h3
        rw [hρn _ _ (fun e => k5 e.1)] at h4
        exact absurd (hi.inj p id' vp ver' z z' b o o' hp k6 h3 h4).symm k4
      · subst e1; subst e2
        rw [hρq] at h4
        rw [hρn _ _ (fun e => k2 e.1)] at h3
        exact absurd (hi.inj id p ver vp z x b o o' k3 hp h3 h4) k1
      · rw [hρn _ _ (fun e => k2 e.1)] at h3
        rw [hρn _ _ (fun e => k5 e.1)] at h4
        exact hi.inj id id' ver ver' z z' b o o' k3 k6 h3 h4
    · intro id ver b o h
      by_cases he : id = q ∧ ver = vq + 1
      · obtain ⟨rfl, rfl⟩ := he
        rw [hρq] at h
        rcases hx.blk _ _ _ _ h with ⟨v', o', h1⟩ | h1
        · exact absurd h1 (hB v' _)
        · exact .inr h1
      · rw [hρn _ _ he] at h
        exact hx.blk _ _ _ _ h
    · intro s
      rw [Fr.get_cons]
      split
      · rename_i hs
        subst hs
        have := hf.get t
        rw [ht] at this
        generalize a.tmps.getD t undef = z at this
        cases this with
        | ms0 => exact .ms0
        | ms h hcap hn hff => exact .ms (by rw [hρq]; exact h) hcap hn hff
      · exact (hf.get s).mono g
    · intro vs hm
      rw [Fr.get_cons] at hm
      split at hm
      · cases hm
      · exact (hf.defs vs hm).mono g
  obtain ⟨c, k, hT⟩ := hT
  rcases hT with rfl | ⟨all, l, K, rfl⟩
  · intro r a w hi hf hd hx
    obtain ⟨r', q1, q2, q3⟩ := key r w a hi hf hx
    exact hk r' a w q1 q3 hd q2
  · intro r a w hi hf hd hx
    obtain ⟨r', q1, q2, q3⟩ := key r w a hi hf hx
    exact hk r' a w q1 q3 hd q2
end
theorem callOk_introB {cx : Cx} {f : FuncId} {fn : Func} {c : Code} {n : Nat} {args : List AV} {σ : Heap} {R : Out → Heap → Prop} (he : Enters cx.P f) (hf : cx.P.funcs[f]? = some fn) (hb : fn.body = some c) (hn : fn.ntmps = n) (ha : Nat.ble args.length n = true)
    (h : ∀ B : Bs, (∀ id, σ.length ≤ id → ∀ ver y, B.r.ρ id ver ≠ some y) → S cx n B [.code c] (retQ cx fn R) (enterFr 0 args) σ) : CallOk cx f args σ R := by
  refine ⟨he, fun r w vs hi hv => ?_⟩
  subst hn
  refine calls_of_wp hf hb ?_
  have hwp := h ⟨r, σ, w, false⟩ (fun id hid ver y hy => by
    obtain ⟨⟨cur, x, h1, _⟩, _⟩ := hi.lt id ver y.1 y.2 hy
    rw [List.getElem?_eq_none hid] at h1; cases h1) r _ w hi (enter_rel hv (Nat.le_of_ble_eq_true ha)) (fun _ => rfl) (Ext.refl _ _ _)
  refine wp_mono hwp fun e a w' hq => ?_
  obtain ⟨ae, fr', σ', r', hq, he, hi', hf', hd', hx'⟩ := hq
  cases e <;> cases ae <;> first | exact he.elim | skip
  · obtain ⟨C, us, h1, h2, h3⟩ := hq
    obtain ⟨v', h4, h5⟩ := results_run (fn := fn) hi' hf' h1 h2
    exact ⟨hd' rfl, v', h4, _, σ', r', h3, h5, hi', hx'⟩
  · exact hq.elim
  · exact hq.elim
  · obtain ⟨C, us, h1, h2, h3⟩ := hq
    obtain ⟨v', h4, h5⟩ := results_run (fn := fn) hi' hf' h1 h2
    exact ⟨hd' rfl, v', h4, _, σ', r', h3, h5, hi', hx'⟩
  · exact ⟨hd' rfl, _, σ', r', hq, he, hi', hx'⟩
theorem pure_introB {cx : Cx} {f : FuncId} {fn : Func} {c : Code} {n : Nat} {args : List AV} {res : AV} (he : Enters cx.P f) (hf : cx.P.funcs[f]? = some fn) (hb : fn.body = some c) (hn : fn.ntmps = n) (ha : Nat.ble args.length n = true) (hfree : Free true res)
    (h : ∀ B : Bs, (∀ id ver y, B.r.ρ id ver ≠ some y) → S cx n B [.code c] (retQ cx fn fun o σ' => ∃ v, o = .ret v ∧ Frz true σ' v res) (enterFr 0 args) []) : Calc cx f args res :=
  calc_of hfree (callOk_introB he hf hb hn ha fun B hB => h B fun id => hB id (Nat.zero_le _))
end Go.Ab
end
section
set_option linter.unusedVariables false
set_option linter.unusedSimpArgs false
set_option maxRecDepth 20000
set_option maxHeartbeats 4000000
namespace Go.Proofs.YtpehmhlgldbeoaaGreatDoor
open Go Go.Ab
def lessF (p : List UInt8) (l : List Fil) : Nat := lessN p (l.map Fil.path)
def addF (l : List Fil) (f : Fil) : List Fil := l.take (lessF f.path l) ++ f :: l.drop (lessF f.path l)
theorem lessF_le (p : List UInt8) (l : List Fil) : lessF p l ≤ l.length := by
  have := lessN_le p (l.map Fil.path)
  rwa [List.length_map] at this
theorem lessF_lt {p : List UInt8} {l : List Fil} {i : Nat} (hi : i < l.length) (h : i < lessF p l) : Op.bytesLess l[i].path p = true := by
  have := lessN_lt (s := p) (l := l.map Fil.path) (i := i) (by simpa using hi) h
  rwa [List.getElem_map] at this
theorem lessF_at {p : List UInt8} {l : List Fil} (h : lessF p l < l.length) : Op.bytesLess l[lessF p l].path p = false := by
  have := lessN_at (s := p) (l := l.map Fil.path) (by rw [List.length_map]; exact h)
  rwa [List.getElem_map] at this
theorem flat_fils (x : List Fil) : flatA 3 (fils x) = celsF x := by
  induction x with
  | nil => rfl
  | cons f x ih =>
    show [AV.str f.path, .str f.text, .bool f.run] ++ flatA 3 (fils x) = [AV.str f.path, .str f.text, .bool f.run] ++ celsF x
    rw [ih]
theorem flat_one (x : List Fil) : ∀ y ∈ flatA 3 (fils x), y.one = true := by rw [flat_fils]; exact cels_one x
theorem AddFile_in {st fl : Bool} (l : List Fil) (f : Fil) (v0 v1 v2 : Nat) (hl : l.length ≤ 1000000000) (hlt : lessF f.path l < l.length) :
    CallOk cx 69 [.sl st fl 3 (fils l), filA f] [(v0, none), (v1, none), (v2, none)] (fun e s => e = .ret (.ms 2 (v2 + 1) 0 (l.length + 1) 3 false) ∧ s = [(v0 + 1, none), (v1 + 1, none), (v2 + 1, some (.cells (celsF (addF l f)) ⟨false, none⟩))]) :=
  callOk_intro (fun a w => Tryz.call69 a w) Tryz.func69 rfl Tryz.ntmps69 rfl fun B => by
    have htl := fils_len l
    have hle := lessF_le f.path l
    refine pB [] rfl ?_
    refine S_while (α := Nat) (fun i => [(0, .sl st fl 3 (fils l)), (3, .ptr 0 (v0 + 1) 0), (5, .int .i64 (i : Nat))]) (fun _ => [(v0 + 1, some (.cells [.str f.path, .str f.text, .bool f.run] ⟨false, some 48⟩)), (v1, none), (v2, none)]) (fun i => i ≤ lessF f.path l) (fun i => l.length - i) 0
      (Nat.zero_le _) (.cons rfl (.cons rfl (.cons rfl (.nil _)))) rfl ?_
    intro i hi
    have hi : i ≤ lessF f.path l := hi
    have hil : i < l.length := by omega
    have e1 : decide ((i : Int) < (((fils l).length : Nat) : Int)) = true := decide_eq_true (by omega)
    have g1 : (fils l)[(i : Int).toNat]? = some (filA l[i]) := fils_get hil
    have hT : cutL (some (i : Int)) none (fils l) = fils (l.drop i) := by simp [cutL, fils]
    have hD : cutL none (some (i : Int)) (fils l) = fils (l.take i) := by simp [cutL, fils]
    by_cases hk : i < lessF f.path l
    · have e2 := lessF_lt hil hk
      refine pB [.b true, .v (filA l[i]), .b true] rfl ?_
      exact S_round (i + 1) (by show l.length - (i + 1) < l.length - i; omega) hk (.cons rfl (.cons rfl (.cons (nX (by omega)) (.nil _)))) rfl
    · have hie : i = lessF f.path l := by omega
      have e2 : Op.bytesLess l[i].path f.path = false := by subst hie; exact lessF_at hlt
      refine pa [.b true, .v (filA l[i]), .b false, .d 9 10 [] (fun σ => σ.set 1 (v1 + 1, some (.cells (celsF (f :: l.drop i)) ⟨false, none⟩))) [.ms 1 (v1 + 1) 0 ((l.drop i).length + 1) 3 false]] rfl ?_ ?_
      · (repeat' with_reducible apply AllP_cons) <;> try exact aC
        · rw [hT]; exact flat_one _
        · rw [hT]; exact flat_one _
        · rw [hT, fils_len, List.length_drop]; left; omega
        · show (1 + (cutL (some (i : Int)) none (fils l)).length) * 40 ≤ 140737488355328
          rw [hT, fils_len, List.length_drop]; omega
        · show 1 + (cutL (some (i : Int)) none (fils l)).length ≤ 9223372036854775807
          rw [hT, fils_len, List.length_drop]; omega
        · show AV.ms 1 (v1 + 1) 0 (1 + (cutL (some (i : Int)) none (fils l)).length) 3 false = _
          rw [hT, fils_len, Nat.add_comm 1]
        · rw [hT]
          show [(v0 + 1, some (Box.cells [AV.str f.path, AV.str f.text, AV.bool f.run] ⟨false, some 48⟩)), (v1 + 1, some (Box.cells ([AV.str f.path, AV.str f.text, AV.bool f.run] ++ flatA 3 (fils (l.drop i))) ⟨false, none⟩)), (v2, none)] = _
          rw [flat_fils]; rfl
        · show 0 + ((l.drop i).length + 1) * 3 ≤ (celsF (f :: l.drop i)).length
          rw [cels_len, List.length_cons]; omega
        · intro y hy
          have hy : y ∈ celsF (f :: l.drop i) := List.mem_of_mem_take hy
          exact cels_one _ y hy
        · rw [hD]; exact flat_one _
        · show ((cutL none (some (i : Int)) (fils l)).length + ((l.drop i).length + 1)) * 40 ≤ 140737488355328
          rw [hD, fils_len, List.length_take, List.length_drop]; omega
        · rw [hD, fils_len, List.length_take, List.length_drop]; omega
      refine S_drop (id := 0) rfl ?_ ⟨_, _, .inl rfl⟩
      refine S_drop (id := 1) rfl ?_ ⟨_, _, .inl rfl⟩
      refine S_ret ⟨_, _, rfl, trivial, ?_, ?_⟩
      · show Out.ret (AV.ms 2 (v2 + 1) 0 ((cutL none (some (i : Int)) (fils l)).length + ((l.drop i).length + 1)) 3 false) = _
        rw [hD, fils_len, List.length_take, List.length_drop, show min i l.length + (l.length - i + 1) = l.length + 1 by omega]
      · show ([(v0 + 1, none), (v1 + 1, none), (v2 + 1, some (.cells (flatA 3 (cutL none (some (i : Int)) (fils l)) ++ (celsF (f :: l.drop i)).take (((l.drop i).length + 1) * 3)) ⟨false, none⟩))] : Heap) = _
        have htk : (celsF (f :: l.drop i)).take (((l.drop i).length + 1) * 3) = celsF (f :: l.drop i) := List.take_of_length_le (by rw [cels_len, List.length_cons]; omega)
        rw [hD, flat_fils, htk, ← celsF_app, hie]; rfl
theorem AddFile_end {st fl : Bool} (l : List Fil) (f : Fil) (v0 v1 v2 : Nat) (hl : l.length ≤ 1000000000) (hlt : lessF f.path l = l.length) :
    CallOk cx 69 [.sl st fl 3 (fils l), filA f] [(v0, none), (v1, none), (v2, none)] (fun e s => e = .ret (.ms 1 (v1 + 1) 0 (l.length + 1) 3 false) ∧ s = [(v0 + 1, none), (v1 + 1, some (.cells (celsF (addF l f)) ⟨false, none⟩)), (v2, none)]) :=
  callOk_intro (fun a w => Tryz.call69 a w) Tryz.func69 rfl Tryz.ntmps69 rfl fun B => by
    have htl := fils_len l
    refine pB [] rfl ?_
    refine S_while (α := Nat) (fun i => [(0, .sl st fl 3 (fils l)), (3, .ptr 0 (v0 + 1) 0), (5, .int .i64 (i : Nat))]) (fun _ => [(v0 + 1, some (.cells [.str f.path, .str f.text, .bool f.run] ⟨false, some 48⟩)), (v1, none), (v2, none)]) (fun i => i ≤ l.length) (fun i => l.length - i) 0
      (Nat.zero_le _) (.cons rfl (.cons rfl (.cons rfl (.nil _)))) rfl ?_
    intro i hi
    have hi : i ≤ l.length := hi
    have hT : cutL (some (i : Int)) none (fils l) = fils (l.drop i) := by simp [cutL, fils]
    have hD : cutL none (some (i : Int)) (fils l) = fils (l.take i) := by simp [cutL, fils]
    by_cases hk : i < l.length
    · have e1 : decide ((i : Int) < (((fils l).length : Nat) : Int)) = true := decide_eq_true (by omega)
      have g1 : (fils l)[(i : Int).toNat]? = some (filA l[i]) := fils_get hk
      have e2 := lessF_lt (p := f.path) hk (by omega)
      refine pB [.b true, .v (filA l[i]), .b true] rfl ?_
      exact S_round (i + 1) (by show l.length - (i + 1) < l.length - i; omega) hk (.cons rfl (.cons rfl (.cons (nX (by omega)) (.nil _)))) rfl
    · have hie : i = l.length := by omega
      have e1 : decide ((i : Int) < (((fils l).length : Nat) : Int)) = false := decide_eq_false (by omega)
      refine pa [.b false, .b false, .d 9 10 [1000001] (fun σ => σ) [.sl true true 3 [filA f]]] rfl ?_ ?_
      · (repeat' with_reducible apply AllP_cons) <;> try exact aC
        · exact OpSpec.append0 (st := true) (fl := true) (st' := st) (fl' := _) (sz := 3) rfl rfl rfl rfl (by show AV.sl st _ 3 (cutL (some (i : Int)) none (fils l)) = _; rw [hT, hie, List.drop_length]; rfl)
        · rw [hD]; exact flat_one _
        · show ((cutL none (some (i : Int)) (fils l)).length + 1) * 40 ≤ 140737488355328
          rw [hD, fils_len, List.length_take]; omega
        · show (cutL none (some (i : Int)) (fils l)).length + 1 ≤ 9223372036854775807
          rw [hD, fils_len, List.length_take]; omega
      refine S_drop (id := 0) rfl ?_ ⟨_, _, .inl rfl⟩
      refine S_ret ⟨_, _, rfl, trivial, ?_, ?_⟩
      · show Out.ret (AV.ms 1 (v1 + 1) 0 ((cutL none (some (i : Int)) (fils l)).length + 1) 3 false) = _
        rw [hD, fils_len, List.length_take, hie, Nat.min_self]
      · show ([(v0 + 1, none), (v1 + 1, some (.cells (flatA 3 (cutL none (some (i : Int)) (fils l)) ++ celsF [f]) ⟨false, none⟩)), (v2, none)] : Heap) = _
        rw [hD, flat_fils, ← celsF_app]
        unfold addF
        rw [hlt, hie, List.drop_length]
end Go.Proofs.YtpehmhlgldbeoaaGreatDoor
end
section
set_option linter.unusedVariables false
set_option linter.unusedSimpArgs false
set_option maxRecDepth 20000
set_option maxHeartbeats 4000000
namespace Go.Proofs.YtpehmhlgldbeoaaGreatDoor
open Go Go.Ab Go.Shelf Go.RowKit Go.Lib Go.Sort
instance : Inhabited Fil := ⟨⟨[], [], false⟩⟩
end Go.Proofs.YtpehmhlgldbeoaaGreatDoor
end
section
set_option linter.unusedVariables false
set_option linter.unusedSimpArgs false
set_option maxRecDepth 20000
set_option maxHeartbeats 4000000
namespace Go.Proofs.YtpehmhlgldbeoaaGreatDoor
open Go Go.Ab
def ksP (l : List Fil) : List (List UInt8) := l.foldl (fun ks f => addU ks f.path) []
def lastF (l : List Fil) (p : List UInt8) : Fil := (l.reverse.find? (fun f => f.path == p)).getD ⟨[], [], false⟩
def vaP (l : List Fil) : List UInt8 → AV := fun p => filA (lastF l p)
def ovT (c : List Fil) : List Fil := (sortT (ksP c)).map (lastF c)
def ovX (o : List Fil) : Nat := if (o.any fun f => o.any fun g => insT f.path g.path) = true then 6 else if 60 < o.length then 2 else 0
def ovE (a b : List Fil) : Nat := if (if chkT a = 0 then chkT b else chkT a) = 0 then ovX (ovT (a ++ b)) else (if chkT a = 0 then chkT b else chkT a)
theorem ksP_mem {l : List Fil} {p : List UInt8} : p ∈ ksP l ↔ ∃ f ∈ l, f.path = p := by
  unfold ksP; rw [addU_fold_mem]; simp
theorem ksP_nodup (l : List Fil) : (ksP l).Nodup := addU_fold_nodup _ l [] .nil
theorem ksP_len (l : List Fil) : (ksP l).length ≤ l.length := by
  have := addU_fold_len (fun f : Fil => f.path) l []
  simpa [ksP] using this
theorem ksP_step {l : List Fil} {i : Nat} (h : i < l.length) : ksP (l.take (i + 1)) = addU (ksP (l.take i)) l[i].path := by
  unfold ksP; rw [List.take_succ_eq_append_getElem h, List.foldl_append]; rfl
theorem lastF_step {l : List Fil} {i : Nat} (h : i < l.length) (p : List UInt8) : lastF (l.take (i + 1)) p = if p = l[i].path then l[i] else lastF (l.take i) p := by
  unfold lastF
  rw [List.take_succ_eq_append_getElem h, List.reverse_append]
  show ((l[i] :: (l.take i).reverse).find? _).getD _ = _
  rw [List.find?_cons]
  by_cases e : p = l[i].path
  · rw [if_pos e, show (l[i].path == p) = true by simp [e]]; rfl
  · rw [if_neg e, show (l[i].path == p) = false by simpa using Ne.symm e]
theorem lastF_mem {l : List Fil} {p : List UInt8} (h : p ∈ ksP l) : lastF l p ∈ l ∧ (lastF l p).path = p := by
  unfold lastF
  cases hq : l.reverse.find? (fun f => f.path == p) with
  | none =>
    rw [List.find?_eq_none] at hq
    obtain ⟨f, hf, e⟩ := ksP_mem.1 h
    exact absurd (by simpa using e) (hq f (by simpa using hf))
  | some f => exact ⟨by simpa using List.mem_of_find?_eq_some hq, by simpa using List.find?_some hq⟩
theorem mapP_step {l : List Fil} {i : Nat} (h : i < l.length) :
    mapBx (addK (ksP (l.take i)) l[i].path) (updF (vaP (l.take i)) l[i].path (filA l[i])) = mapBx (ksP (l.take (i + 1))) (vaP (l.take (i + 1))) := by
  unfold mapBx
  rw [ksP_step h]
  show some (Box.map (mapF (addU _ _) _) none) = some (Box.map (mapF (addU _ _) _) none)
  congr 2
  refine mapF_congr fun n _ => ?_
  unfold updF vaP
  rw [lastF_step h]
  split <;> rfl
theorem Over_ok {st fl st' fl' : Bool} (a b : List Fil) (ha : FilsOk a) (hb : FilsOk b) : Calc cx 39 [.sl st fl 3 (fils a), .sl st' fl' 3 (fils b)] (flatAV (ovT (a ++ b), ovE a b)) :=
  pure_intro (fun a w => Tryz.call39 a w) Tryz.func39 rfl Tryz.ntmps39 rfl (flatAV_free _) fun B => by
    have hB := both_ok (st := st) (fl := fl) (st' := st') (fl' := fl') a b ha hb
    have rt : ∀ (x : List Fil) (e : Nat), e ≠ 0 → flatAV (x, e) = .tup [.nils, .int .i64 (e : Nat)] := fun x e he => by unfold flatAV; rw [if_neg he]
    have rf : ∀ e : Int, Free true (.tup [.nils, .int .i64 e]) := fun e => .tup (by intro x hx; simp at hx; rcases hx with rfl | rfl; exact .nils; exact .int)
    have hfr : ∀ σ : Heap, Frzs σ [.sl st fl 3 (fils a), .sl st' fl' 3 (fils b)] [.sl st fl 3 (fils a), .sl st' fl' 3 (fils b)] := fun σ => .cons (.refl (.sl (fun h => by cases h) (fils_free a))) (.cons (.refl (.sl (fun h => by cases h) (fils_free b))) (.nil _))
    unfold ovE
    obtain ⟨e, he⟩ : ∃ e, e = if chkT a = 0 then chkT b else chkT a := ⟨_, rfl⟩
    rw [← he] at hB ⊢
    by_cases h0 : e = 0
    case neg =>
      rw [if_neg h0, rt _ _ h0]
      refine pa [.v (.int .i64 (e : Nat)), .b true] rfl ?_ ?_
      · (repeat' with_reducible apply AllP_cons) <;> try exact aC
        · exact ⟨_, hB, hfr _⟩
        · show (((e : Int)) != 0) = true
          rw [chk_bne]; simpa using h0
      exact S_retc (rf _) rfl trivial rfl
    rw [if_pos h0]
    rw [h0] at hB he
    have hca : chkT a = 0 := by
      by_cases h : chkT a = 0
      · exact h
      · rw [if_neg h] at he; exact absurd he.symm h
    have hcb : chkT b = 0 := by rw [if_pos hca] at he; exact he.symm
    have hda := DirOk.of hca
    have hdb := DirOk.of hcb
    have hCC := Concat_ok (st := st) (fl := fl) (st' := st') (fl' := fl') a b ha.len hb.len
    obtain ⟨c, hc⟩ : ∃ c, c = a ++ b := ⟨_, rfl⟩
    rw [← hc] at hCC ⊢
    have hcl : c.length ≤ 120 := by rw [hc, List.length_append]; have := hda.len; have := hdb.len; omega
    have hcp : ∀ f ∈ c, f.path.length ≤ 100 := by
      intro f hf
      rw [hc] at hf
      rcases List.mem_append.1 hf with hf | hf
      · exact (path_fst (hda.path f hf)).2.1
      · exact (path_fst (hdb.path f hf)).2.1
    have hcn := fils_len c
    refine pa [.v (.int .i64 ((0 : Nat) : Int)), .b false, .f (.map 0 0) (fun _ => [(0, some (.map [] (some ([], 0))))]), .v (.sl true false 3 (fils c))] rfl ?_ ?_
    · (repeat' with_reducible apply AllP_cons) <;> try exact aC
      · exact ⟨_, hB, hfr _⟩
      · exact OpSpec.mapN (C := []) rfl trivial
      · exact ⟨_, hCC, .cons (.refl (.sl (fun h => by cases h) (by intro x hx; simp at hx; rcases hx with rfl | rfl; exact .sl (fun h => by cases h) (fils_free a); exact .sl (fun h => by cases h) (fils_free b)))) (.nil _)⟩
    refine S_unstamp (id := 0) rfl ?_ ⟨_, _, .inl rfl⟩
    refine S_dead ?_ ⟨_, _, .inl rfl⟩
    refine S_while (α := Nat) (fun i => [(7, .map 0 0), (25, .sl true false 3 (fils c)), (26, .int .i64 (((fils c).length : Nat) : Int)), (27, .int .i64 (i : Nat))]) (fun i => [(0, mapBx (ksP (c.take i)) (vaP (c.take i))), (i, none)]) (fun i => i ≤ c.length) (fun i => c.length - i) 0
      (Nat.zero_le _) (.cons rfl (.cons rfl (.cons rfl (.cons rfl (.nil _))))) rfl ?_
    intro i hi
    have hi : i ≤ c.length := hi
    by_cases hlt : i < c.length
    · have e1 : decide ((i : Int) < (((fils c).length : Nat) : Int)) = true := decide_eq_true (by omega)
      have g1 : (fils c)[(i : Int).toNat]? = some (filA c[i]) := fils_get hlt
      refine pa [.b true, .v (filA c[i]), .f (.tup []) (fun σ => (0, mapBx (addK (ksP (c.take i)) c[i].path) (updF (vaP (c.take i)) c[i].path (filA c[i]))) :: σ.tail), .s] rfl ?_ ?_
      · (repeat' with_reducible apply AllP_cons) <;> try exact aC
        · exact OpSpec.mput (kt := 9) (et := 48) (ks := ksP (c.take i)) (val := vaP (c.take i)) (s := c[i].path) rfl (Tryz.underlying85) rfl rfl rfl rfl rfl (ksP_nodup _) rfl
      refine S_drop (id := 1) rfl ?_ ⟨.skip, _, .inr ⟨_, _, _, rfl⟩⟩
      refine S_heap [(0, mapBx (ksP (c.take (i + 1))) (vaP (c.take (i + 1)))), (i + 1, none)] ?_ ?_
      · rw [← mapP_step hlt]; rfl
      refine pB [] rfl ?_
      exact S_round (i + 1) (by show c.length - (i + 1) < c.length - i; omega) hlt (.cons rfl (.cons rfl (.cons rfl (.cons (nX (by omega)) (.nil _))))) rfl
    have hil : i = c.length := by omega
    subst hil
    have e1 : decide ((c.length : Int) < (((fils c).length : Nat) : Int)) = false := decide_eq_false (by omega)
    rw [List.take_length]
    generalize hu : c.length = u at *
    have hkn := ksP_nodup c
    have hkl := ksP_len c
    refine pa [.b false, .f (.func (.func 97) [] [.ptr 1 (u + 1) 0]) (fun σ => (0, mapBx (ksP c) (vaP c)) :: [(u + 1, some (.cells [.map 0 0] ⟨false, some 85⟩))]), .k (.sl true false 1 ((sortT (ksP c)).map AV.str)), .s] rfl ?_ ?_
    · (repeat' with_reducible apply AllP_cons) <;> try exact aC
      · exact KeysF_ok rfl
      · exact SortedF_ok (ks := ksP c) (val := vaP c) rfl rfl hkn (by omega) (fun p hp => by
          obtain ⟨f, hf, rfl⟩ := ksP_mem.1 hp
          have := hcp f hf; omega)
    refine S_drop (id := 1) rfl ?_ ⟨.skip, _, .inr ⟨_, _, _, rfl⟩⟩
    refine pB [] rfl ?_
    refine S_ghostF (t := 10) 3 ⟨false, none⟩ rfl rfl ⟨_, _, .inl rfl⟩ ?_
    have hsl : (sortT (ksP c)).length ≤ 120 := by rw [(sortT_perm _).length_eq]; omega
    have hkm : ∀ p ∈ sortT (ksP c), p ∈ ksP c := fun p hp => (sortT_perm _).mem_iff.1 hp
    have hov : ovT c = (sortT (ksP c)).map (lastF c) := rfl
    rw [hov]
    generalize hks : sortT (ksP c) = ks at *
    have hkt : (ks.map AV.str).length = ks.length := List.length_map ..
    refine S_while (α := Nat) (fun j => [(7, .map 0 0), (10, .ms 1 (u + 2 + j) 0 j 3 false), (38, .sl true false 1 (ks.map AV.str)), (39, .int .i64 (((ks.map AV.str).length : Nat) : Int)), (40, .int .i64 (j : Nat))]) (fun j => [(0, mapBx (ksP c) (vaP c)), (u + 2 + j, some (.cells (celsF ((ks.take j).map (lastF c))) ⟨false, none⟩))]) (fun j => j ≤ ks.length) (fun j => ks.length - j) 0
      (Nat.zero_le _) (.cons rfl (.cons rfl (.cons rfl (.cons rfl (.cons rfl (.nil _)))))) rfl ?_
    intro j hj
    have hj : j ≤ ks.length := hj
    by_cases hjt : j < ks.length
    · have e2 : decide ((j : Int) < (((ks.map AV.str).length : Nat) : Int)) = true := decide_eq_true (by omega)
      have g2 : (ks.map AV.str)[(j : Int).toNat]? = some (.str ks[j]) := by rw [Int.toNat_natCast, List.getElem?_map, List.getElem?_eq_getElem hjt]; rfl
      have hn := hkm _ (List.getElem_mem hjt)
      have hcl2 : (celsF ((ks.take j).map (lastF c))).length = j * 3 := by rw [cels_len, List.length_map, List.length_take, Nat.min_eq_left (by omega)]
      refine pa [.b true, .v (.str ks[j]), .v (filA (lastF c ks[j]))] rfl ?_ ?_
      · (repeat' with_reducible apply AllP_cons) <;> try exact aC
        · exact OpSpec.mget (kt := 9) (et := 48) (ks := ksP c) (val := vaP c) (s := ks[j]) (z := .agg [.str [], .str [], .bool false]) rfl (Tryz.underlying85) rfl rfl rfl rfl rfl (by rw [if_pos hn]; rfl)
        · show 0 + j * 3 = _
          omega
        · show (j + 1) * 40 ≤ 140737488355328
          omega
      refine S_round (j + 1) (by show ks.length - (j + 1) < ks.length - j; omega) hjt (.cons rfl (.cons rfl (.cons rfl (.cons rfl (.cons (nX (by omega)) (.nil _)))))) ?_
      rw [List.take_succ_eq_append_getElem hjt, List.map_append]
      show _ = [(0, mapBx (ksP c) (vaP c)), (u + 2 + (j + 1), some (.cells (celsF ((ks.take j).map (lastF c) ++ [lastF c ks[j]])) ⟨false, none⟩))]
      rw [celsF_add]; rfl
    have hje : j = ks.length := by omega
    subst hje
    have e2 : decide ((ks.length : Int) < (((ks.map AV.str).length : Nat) : Int)) = false := decide_eq_false (by omega)
    rw [List.take_length]
    obtain ⟨o, ho⟩ : ∃ o, o = ks.map (lastF c) := ⟨_, rfl⟩
    rw [← ho]
    have hol : o.length = ks.length := by rw [ho, List.length_map]
    have hop : ∀ f ∈ o, f.path.length ≤ 1000000000000 := by
      intro f hf
      rw [ho] at hf
      obtain ⟨p, hp, rfl⟩ := List.mem_map.1 hf
      have h1 := lastF_mem (hkm p hp)
      have := hcp _ h1.1; omega
    rw [← hol]
    generalize hw : u + 2 + o.length = w
    have hocl := cels_len o
    refine pan 6 [.b false] rfl ?_ ?_
    · (repeat' with_reducible apply AllP_cons) <;> try exact aC
    refine S_drop (id := 0) rfl ?_ ⟨_, _, .inl rfl⟩
    refine pB [] rfl ?_
    refine S_while (α := Nat) (fun k => [(10, .ms 1 w 0 o.length 3 false), (51, .ms 1 w 0 o.length 3 false), (52, .int .i64 (o.length : Nat)), (53, .int .i64 (k : Nat))]) (fun k => [(k, none), (w, some (.cells (celsF o) ⟨false, none⟩))]) (fun k => k ≤ o.length ∧ ∀ j (hj : j < o.length), j < k → (o.any fun g => insT o[j].path g.path) = false) (fun k => o.length - k) 0
      ⟨Nat.zero_le _, fun j hj h => absurd h (Nat.not_lt_zero _)⟩ (.cons rfl (.cons rfl (.cons rfl (.cons rfl (.nil _))))) rfl ?_
    rintro k ⟨hk, hK⟩
    have hk : k ≤ o.length := hk
    by_cases hkt : k < o.length
    · have e3 : decide ((k : Int) < (o.length : Int)) = true := decide_eq_true (by omega)
      have hF := ContainsFuncF_ok (k + 1) o[k] w o (hop _ (List.getElem_mem hkt)) (by omega)
      have c1 : 3 ≤ ((celsF o).drop (offN 0 (mulN (k : Int).toNat 3))).length := by
        rw [cels_off, List.length_drop, cels_len]; omega
      have c2 : filA o[k] = .agg (List.take 3 ((celsF o).drop (offN 0 (mulN (k : Int).toNat 3)))) := by
        obtain ⟨r, hr⟩ := cels_at hkt
        rw [cels_off, hr]; rfl
      cases hin : o.any fun g => insT o[k].path g.path with
      | true =>
        rw [hin] at hF
        have hX : ovX o = 6 := by
          unfold ovX
          rw [if_pos (List.any_eq_true.2 ⟨_, List.getElem_mem hkt, hin⟩)]
        rw [hX, rt _ _ (by decide)]
        refine pa [.b true, .v .top, .v (filA o[k]), .k (.bool true), .b true] rfl ?_ ?_
        · (repeat' with_reducible apply AllP_cons) <;> try exact aC
          all_goals first | exact c1 | exact c2 | exact hF
        exact S_retc (rf _) rfl trivial rfl
      | false =>
        rw [hin] at hF
        refine pa [.b true, .v .top, .v (filA o[k]), .k (.bool false), .b false, .s] rfl ?_ ?_
        · (repeat' with_reducible apply AllP_cons) <;> try exact aC
          all_goals first | exact c1 | exact c2 | exact hF
        refine S_drop (id := 0) rfl ?_ ⟨.skip, _, .inr ⟨_, _, _, rfl⟩⟩
        refine pB [] rfl ?_
        refine S_round (k + 1) (by show o.length - (k + 1) < o.length - k; omega) ⟨hkt, fun j hj h => ?_⟩ (.cons rfl (.cons rfl (.cons rfl (.cons (nX (by omega)) (.nil _))))) rfl
        have h : j < k + 1 := h
        by_cases hjk : j < k
        · exact hK j hj hjk
        · have : j = k := by omega
          subst this; exact hin
    · have e3 : decide ((k : Int) < (o.length : Int)) = false := decide_eq_false (by omega)
      have hno : (o.any fun f => o.any fun g => insT f.path g.path) = false := by
        rw [List.any_eq_false]
        intro f hf
        obtain ⟨j, hj, rfl⟩ := List.getElem_of_mem hf
        rw [hK j hj (by omega)]; simp
      by_cases h60 : 60 < o.length
      · have hX : ovX o = 2 := by unfold ovX; rw [hno, if_neg (by simp), if_pos h60]
        have e4 : decide ((o.length : Int) > 60) = true := decide_eq_true (by omega)
        rw [hX, rt _ _ (by decide)]
        refine pB [.b false, .b true] rfl ?_
        exact S_retc (rf _) rfl trivial rfl
      · have hX : ovX o = 0 := by unfold ovX; rw [hno, if_neg (by simp), if_neg h60]
        have e4 : decide ((o.length : Int) > 60) = false := decide_eq_false (by omega)
        rw [hX]
        refine pB [.b false, .b false] rfl ?_
        refine S_ret ⟨_, _, rfl, trivial, _, rfl, ?_⟩
        show Frz true [(k, none), (w, some (.cells (celsF o) ⟨false, none⟩))] (.tup [.ms 1 w 0 o.length 3 false, .int .i64 0]) (.tup [.sl true false 3 (fils o), .int .i64 0])
        exact Fzs.tup (.cons (.ms rfl (by omega) (by rw [List.drop_zero]; exact List.take_of_length_le (by omega)) (fil_size _) (fils_len _) (fils_free _)) (.cons (.refl .int) .nil))
end Go.Proofs.YtpehmhlgldbeoaaGreatDoor
end
section
set_option linter.unusedVariables false
set_option linter.unusedSimpArgs false
set_option maxRecDepth 20000
set_option maxHeartbeats 4000000
namespace Go.Proofs.YtpehmhlgldbeoaaGreatDoor
open Go Go.Ab
theorem ov_mem {c : List Fil} {f : Fil} : f ∈ ovT c ↔ ∃ p ∈ ksP c, lastF c p = f := by
  unfold ovT
  rw [List.mem_map]
  constructor
  · rintro ⟨p, hp, h⟩; exact ⟨p, (sortT_perm _).mem_iff.1 hp, h⟩
  · rintro ⟨p, hp, h⟩; exact ⟨p, (sortT_perm _).mem_iff.2 hp, h⟩
theorem ov_sub {c : List Fil} {f : Fil} (h : f ∈ ovT c) : f ∈ c := by
  obtain ⟨p, hp, rfl⟩ := ov_mem.1 h
  exact (lastF_mem hp).1
theorem ov_has {c : List Fil} {f : Fil} (h : f ∈ c) : ∃ g ∈ ovT c, g.path = f.path := by
  have hp : f.path ∈ ksP c := ksP_mem.2 ⟨f, h, rfl⟩
  exact ⟨_, ov_mem.2 ⟨_, hp, rfl⟩, (lastF_mem hp).2⟩
end Go.Proofs.YtpehmhlgldbeoaaGreatDoor
end
section
set_option linter.unusedVariables false
set_option linter.unusedSimpArgs false
set_option maxRecDepth 20000
set_option maxHeartbeats 4000000
namespace Go.Proofs.YtpehmhlgldbeoaaGreatDoor
open Go Go.Ab
theorem ok_le {l : List Fil} (h : okT l) : l.Pairwise fun f g => f.path ≤ g.path := h.1.imp fun {f g} h => by
  rw [bl_eq] at h
  exact List.le_of_lt (by simpa using h)
theorem ok_paths {l : List Fil} (h : okT l) : (l.map Fil.path).Nodup := by
  refine List.pairwise_map.2 (h.1.imp fun {f g} h e => ?_)
  rw [e, bl_irr] at h; cases h
end Go.Proofs.YtpehmhlgldbeoaaGreatDoor
end
section
set_option linter.unusedVariables false
set_option linter.unusedSimpArgs false
set_option maxRecDepth 20000
set_option maxHeartbeats 4000000
namespace Go.Proofs.YtpehmhlgldbeoaaGreatDoor
open Go Go.Ab
theorem lastF_app (u v : List Fil) (p : List UInt8) : lastF (u ++ v) p = if p ∈ ksP v then lastF v p else lastF u p := by
  have hf : ∀ (l : List Fil), p ∉ ksP l → l.reverse.find? (fun f => f.path == p) = none := fun l h => by
    rw [List.find?_eq_none]
    intro f hf e
    exact h (ksP_mem.2 ⟨f, by simpa using hf, by simpa using e⟩)
  have ht : ∀ (l : List Fil), p ∈ ksP l → ∃ f, l.reverse.find? (fun f => f.path == p) = some f := fun l h => by
    cases hq : l.reverse.find? (fun f => f.path == p) with
    | some f => exact ⟨f, rfl⟩
    | none =>
      rw [List.find?_eq_none] at hq
      obtain ⟨f, h1, h2⟩ := ksP_mem.1 h
      exact absurd (by simpa using h2) (hq f (by simpa using h1))
  unfold lastF
  rw [List.reverse_append, List.find?_append]
  by_cases h : p ∈ ksP v
  · rw [if_pos h]
    obtain ⟨f, hq⟩ := ht v h
    rw [hq]; rfl
  · rw [if_neg h, hf v h]; rfl
theorem ksP_ov {u : List Fil} {p : List UInt8} : p ∈ ksP (ovT u) ↔ p ∈ ksP u := by
  rw [ksP_mem, ksP_mem]
  constructor
  · rintro ⟨f, h, e⟩; exact ⟨f, ov_sub h, e⟩
  · rintro ⟨f, h, e⟩
    obtain ⟨g, h1, h2⟩ := ov_has h
    exact ⟨g, h1, h2.trans e⟩
theorem lastF_self {l : List Fil} (h : okT l) {f : Fil} (hf : f ∈ l) : lastF l f.path = f := by
  obtain ⟨h1, h2⟩ := lastF_mem (l := l) (ksP_mem.2 ⟨f, hf, rfl⟩)
  exact ok_path h h1 hf h2
end Go.Proofs.YtpehmhlgldbeoaaGreatDoor
end
section
set_option linter.unusedVariables false
set_option linter.unusedSimpArgs false
set_option maxRecDepth 20000
set_option maxHeartbeats 4000000
namespace Go.Proofs.YtpehmhlgldbeoaaGreatDoor
open Go Go.Ab
def stepF (o : List Fil) (f : Fil) : List Fil := match o.findIdx? (fun g => g.path == f.path) with
  | some j => o.set j f
  | none => addF o f
theorem ov_paths (c : List Fil) : (ovT c).map Fil.path = sortT (ksP c) := by
  unfold ovT
  rw [List.map_map]
  conv => rhs; rw [← List.map_id (sortT (ksP c))]
  refine List.map_congr_left fun p hp => ?_
  exact (lastF_mem ((sortT_perm _).mem_iff.1 hp)).2
theorem ov_self {l : List Fil} (h : okT l) : ovT l = l := by
  have hk : sortT (ksP l) = l.map Fil.path := by
    refine perm_sorted ?_ (sortT_pw _) (List.pairwise_map.2 (ok_le h))
    refine (sortT_perm _).trans (nodup_perm (ksP_nodup l) (ok_paths h) fun p => ?_)
    rw [ksP_mem, List.mem_map]
  unfold ovT
  rw [hk, List.map_map]
  conv => rhs; rw [← List.map_id l]
  exact List.map_congr_left fun f hf => lastF_self h hf
theorem ksP_add (c : List Fil) (f : Fil) : ksP (c ++ [f]) = addU (ksP c) f.path := by unfold ksP; rw [List.foldl_append]; rfl
theorem lastF_add (c : List Fil) (f : Fil) (p : List UInt8) : lastF (c ++ [f]) p = if p = f.path then f else lastF c p := by
  rw [lastF_app]
  have hk : p ∈ ksP [f] ↔ p = f.path := by rw [ksP_mem]; simp [eq_comm]
  by_cases h : p = f.path
  · rw [if_pos (hk.2 h), if_pos h]
    obtain ⟨h1, _⟩ := lastF_mem (hk.2 h)
    simpa using h1
  · rw [if_neg (fun e => h (hk.1 e)), if_neg h]
theorem step_ov (c : List Fil) (f : Fil) : stepF (ovT c) f = ovT (c ++ [f]) := by
  have hp := ov_paths c
  by_cases hk : f.path ∈ ksP c
  · have hs : sortT (ksP (c ++ [f])) = sortT (ksP c) := by rw [ksP_add, addU, if_pos hk]
    have hm : ∃ g ∈ ovT c, g.path = f.path := by
      obtain ⟨g, h1, h2⟩ := ksP_mem.1 (ksP_ov.2 hk)
      exact ⟨g, h1, h2⟩
    unfold stepF
    cases hq : (ovT c).findIdx? (fun g => g.path == f.path) with
    | none =>
      rw [List.findIdx?_eq_none_iff] at hq
      obtain ⟨g, h1, h2⟩ := hm
      have := hq g h1
      simp [h2] at this
    | some j =>
      rw [List.findIdx?_eq_some_iff_getElem] at hq
      obtain ⟨h1, h2, _⟩ := hq
      have h2 : (ovT c)[j].path = f.path := by simpa using h2
      have hlen : (ovT c).length = (sortT (ksP c)).length := by unfold ovT; rw [List.length_map]
      have hlen' : (ovT (c ++ [f])).length = (sortT (ksP c)).length := by unfold ovT; rw [List.length_map, hs]
      have hat : ∀ k (hk : k < (ovT c).length), (ovT c)[k].path = (sortT (ksP c))[k]'(by omega) := by
        intro k hk
        have : ((ovT c).map Fil.path)[k]'(by simpa using hk) = (sortT (ksP c))[k]'(by omega) := by simp only [hp]
        rw [List.getElem_map] at this; exact this
      apply List.ext_getElem
      · rw [List.length_set]; omega
      · intro k k1 k2
        have e2 : (ovT (c ++ [f]))[k] = lastF (c ++ [f]) ((sortT (ksP c))[k]'(by omega)) := by
          have : (ovT (c ++ [f]))[k] = ((sortT (ksP (c ++ [f]))).map (lastF (c ++ [f])))[k]'(by rw [List.length_map, hs]; omega) := rfl
          rw [this, List.getElem_map]
          simp only [hs]
        have e1 : (ovT c)[k]'(by rw [List.length_set] at k1; exact k1) = lastF c ((sortT (ksP c))[k]'(by omega)) := List.getElem_map (lastF c)
        rw [List.getElem_set, e2, lastF_add]
        by_cases hjk : j = k
        · subst hjk
          rw [if_pos rfl, if_pos]
          rw [← hat j h1]; exact h2
        · rw [if_neg hjk, if_neg, e1]
          intro e
          rw [← hat k (by omega), ← h2, hat k (by omega), hat j h1] at e
          exact hjk ((List.getElem_inj (sort_nodup (ksP_nodup c))).1 e).symm
  · unfold stepF
    have hq : (ovT c).findIdx? (fun g => g.path == f.path) = none := by
      rw [List.findIdx?_eq_none_iff]
      intro g hg
      have : g.path ≠ f.path := fun e => hk (ksP_ov.1 (ksP_mem.2 ⟨g, hg, e⟩))
      simpa using this
    rw [hq]
    show addF (ovT c) f = _
    unfold addF lessF
    rw [hp]
    have hs : sortT (ksP (c ++ [f])) = (sortT (ksP c)).take (lessN f.path (sortT (ksP c))) ++ f.path :: (sortT (ksP c)).drop (lessN f.path (sortT (ksP c))) := by
      rw [ksP_add, ← addT_sort (ksP_nodup c), addT, if_neg]
      intro e
      exact hk ((sortT_perm _).mem_iff.1 (List.mem_of_getElem? e))
    have hl : ∀ l : List (List UInt8), (∀ p ∈ l, p ∈ ksP c) → l.map (lastF (c ++ [f])) = l.map (lastF c) := fun l h => List.map_congr_left fun p hp => by
      rw [lastF_add, if_neg (fun e : p = f.path => hk (e ▸ h p hp))]
    have h1 : ovT (c ++ [f]) = (sortT (ksP (c ++ [f]))).map (lastF (c ++ [f])) := rfl
    have h2 : ovT c = (sortT (ksP c)).map (lastF c) := rfl
    rw [h1, hs, List.map_append, List.map_cons, hl _ (fun p h => (sortT_perm _).mem_iff.1 (List.mem_of_mem_take h)), hl _ (fun p h => (sortT_perm _).mem_iff.1 (List.mem_of_mem_drop h)), lastF_add, if_pos rfl, h2, List.map_take, List.map_drop]
end Go.Proofs.YtpehmhlgldbeoaaGreatDoor
end
section
set_option linter.unusedVariables false
set_option linter.unusedSimpArgs false
set_option maxRecDepth 20000
set_option maxHeartbeats 4000000
namespace Go.Proofs.YtpehmhlgldbeoaaGreatDoor
open Go Go.Ab
theorem msFs (v : Nat) (o : List Fil) (τ : Heap) (g : Tag) : Frz false ((v, some (.cells (celsF o) g)) :: τ) (.ms 0 v 0 o.length 3 false) (.sl false false 3 (fils o)) :=
  .ms rfl (by rw [cels_len]; omega) (by rw [List.drop_zero]; exact List.take_of_length_le (by rw [cels_len]; omega)) (fil_size _) (fils_len _) (fils_free _)
theorem atF_step (o : List Fil) (f : Fil) : (atF o f.path = -1 ∧ stepF o f = addF o f) ∨ ∃ j, j < o.length ∧ atF o f.path = (j : Nat) ∧ stepF o f = o.set j f := by
  unfold atF stepF
  cases hq : o.findIdx? (fun g => g.path == f.path) with
  | none => exact .inl ⟨rfl, rfl⟩
  | some j =>
    have := (List.findIdx?_eq_some_iff_getElem.1 hq).1
    exact .inr ⟨j, this, rfl, rfl⟩
theorem addF_len (o : List Fil) (f : Fil) : (addF o f).length = o.length + 1 := by
  have := lessF_le f.path o
  unfold addF
  rw [List.length_append, List.length_cons, List.length_take, List.length_drop]; omega
theorem cels_set {o : List Fil} {j : Nat} {f : Fil} (hj : j < o.length) : setRange (celsF o) (offN 0 (mulN (j : Int).toNat 3)) [.str f.path, .str f.text, .bool f.run] = celsF (o.set j f) := by
  rw [cels_off]
  show (celsF o).take (j * 3) ++ [.str f.path, .str f.text, .bool f.run] ++ (celsF o).drop (j * 3 + 3) = _
  have h1 : o = o.take j ++ o[j] :: o.drop (j + 1) := by rw [List.getElem_cons_drop, List.take_append_drop]
  have h2 : o.set j f = o.take j ++ f :: o.drop (j + 1) := by rw [List.set_eq_take_append_cons_drop, if_pos hj]
  have hl : (celsF (o.take j)).length = j * 3 := by rw [cels_len, List.length_take, Nat.min_eq_left (by omega)]
  have h3 : celsF o = celsF (o.take j) ++ ([.str o[j].path, .str o[j].text, .bool o[j].run] ++ celsF (o.drop (j + 1))) := by
    conv => lhs; rw [h1]
    rw [celsF_app]; rfl
  rw [h2, celsF_app, h3, List.take_left' hl, List.drop_append, List.drop_eq_nil_of_le (by omega), hl, show j * 3 + 3 - j * 3 = 3 by omega]
  simp [celsF, fils, filA, AV.cells]
theorem cels_path {o : List Fil} {i : Nat} (h : i < o.length) : ((celsF o).drop (offN 0 (mulN (i : Int).toNat 3) + 0))[0]? = some (.str o[i].path) := by
  obtain ⟨r, hr⟩ := cels_at h
  rw [Nat.add_zero, cels_off, hr]; rfl
theorem OverTree_ok {st fl st' fl' : Bool} (a b : List Fil) (ha : DirOk 101 a) (hb : DirOk 101 b) : Calc cx 40 [.sl st fl 3 (fils a), .sl st' fl' 3 (fils b)] (flatAV (ovT (a ++ b), ovX (ovT (a ++ b)))) :=
  pure_introB (fun a w => Tryz.call40 a w) Tryz.func40 rfl Tryz.ntmps40 rfl (flatAV_free _) fun B hB => by
    have hla := ha.len
    have hlb := hb.len
    have hna := fils_len a
    have hnb := fils_len b
    refine pa [] rfl ?_ ?_
    · (repeat' with_reducible apply AllP_cons) <;> try exact aC
      · exact flat_one a
      · exact flat_one a
      · exact .inr rfl
      · show (0 + (fils a).length) * 40 ≤ 140737488355328
        omega
    refine S_dead ?_ ⟨_, _, .inl rfl⟩
    refine S_dead ?_ ⟨_, _, .inl rfl⟩
    have hol : ∀ i, (ovT (a ++ b.take i)).length ≤ 120 := fun i => by
      have h1 : (ovT (a ++ b.take i)).length = (ksP (a ++ b.take i)).length := by unfold ovT; rw [List.length_map, (sortT_perm _).length_eq]
      have h2 := ksP_len (a ++ b.take i)
      rw [List.length_append, List.length_take] at h2
      omega
    refine S_while (α := Nat × Nat × Nat × Nat) (fun s => [(1, .sl st' fl' 3 (fils b)), (6, .ms 0 s.2.1 0 (ovT (a ++ b.take s.1)).length 3 false), (7, .int .i64 (s.1 : Nat))]) (fun s => [(s.2.1, some (.cells (celsF (ovT (a ++ b.take s.1))) ⟨false, none⟩)), (s.2.2.1, none), (s.2.2.2, none)]) (fun s => s.1 ≤ b.length) (fun s => b.length - s.1) (0, 0, 0, 0)
      (Nat.zero_le _) (.cons rfl (.cons (by
        show AV.ms 0 0 0 (0 + (fils a).length) 3 false = AV.ms 0 0 0 (ovT (a ++ [])).length 3 false
        rw [List.append_nil, ov_self ha.ok, Nat.zero_add, hna]) (.cons rfl (.nil _)))) (by
        show ([(0, some (.cells ([] ++ flatA 3 (fils a)) ⟨false, none⟩)), (0, none), (0, none)] : Heap) = [(0, some (.cells (celsF (ovT (a ++ []))) ⟨false, none⟩)), (0, none), (0, none)]
        rw [List.append_nil, ov_self ha.ok, flat_fils]; rfl) ?_
    rintro ⟨i, v0, v1, v2⟩ hi
    have hi : i ≤ b.length := hi
    show S _ _ _ _ _ [(1, .sl st' fl' 3 (fils b)), (6, .ms 0 v0 0 (ovT (a ++ b.take i)).length 3 false), (7, .int .i64 (i : Nat))] [(v0, some (.cells (celsF (ovT (a ++ b.take i))) ⟨false, none⟩)), (v1, none), (v2, none)]
    by_cases hlt : i < b.length
    · have e1 : decide ((i : Int) < (((fils b).length : Nat) : Int)) = true := decide_eq_true (by omega)
      have g1 : (fils b)[(i : Int).toNat]? = some (filA b[i]) := fils_get hlt
      have hst := step_ov (a ++ b.take i) b[i]
      rw [List.append_assoc, ← List.take_succ_eq_append_getElem hlt] at hst
      have hol1 := hol i
      obtain ⟨o, ho⟩ : ∃ o, o = ovT (a ++ b.take i) := ⟨_, rfl⟩
      rw [← ho] at hst hol1 ⊢
      have hF := FileAt_ok (st := false) (fl := false) o b[i].path (by omega)
      rcases atF_step o b[i] with ⟨k1, k2⟩ | ⟨j, hj, k1, k2⟩
      · rw [k1] at hF
        rw [k2] at hst
        refine pa [.b true, .v (filA b[i]), .v (.int .i64 (-1)), .b false, .v (filA b[i])] rfl ?_ ?_
        · (repeat' with_reducible apply AllP_cons) <;> try exact aC
          · exact ⟨_, hF, .cons (msFs _ _ _ _) (.cons (.refl .str) (.nil _))⟩
        refine S_freeze (t := 36) (fils o) rfl rfl (by rw [cels_len]; omega) (by rw [List.drop_zero]; exact List.take_of_length_le (by rw [cels_len]; omega)) (fil_size _) (fils_len _) (fils_free _) ⟨.skip, _, .inr ⟨_, _, _, rfl⟩⟩ ?_
        have hal := lessF_le b[i].path o
        by_cases hin : lessF b[i].path o < o.length
        · refine pa [.f (.ms 2 (v2 + 1) 0 (o.length + 1) 3 false) (fun _ => [(v0 + 1, none), (v1 + 1, none), (v2 + 1, some (.cells (celsF (addF o b[i])) ⟨false, none⟩))]), .s] rfl ?_ ?_
          · (repeat' with_reducible apply AllP_cons) <;> try exact aC
            · exact AddFile_in o b[i] v0 v1 v2 (by omega) hin
          refine S_move (t := 41) 2 0 rfl rfl rfl (fun ver y => hB _ _ _) ⟨.skip, _, .inr ⟨_, _, _, rfl⟩⟩ ?_
          refine pB [] rfl ?_
          exact S_round (i + 1, (v0 + 1 + 1, v1 + 1, v2 + 1)) (by show b.length - (i + 1) < b.length - i; omega) hlt (.cons rfl (.cons (by show AV.ms 0 (v0 + 1 + 1) 0 (o.length + 1) 3 false = AV.ms 0 (v0 + 1 + 1) 0 (ovT (a ++ b.take (i + 1))).length 3 false; rw [← hst, addF_len]) (.cons (nX (by omega)) (.nil _)))) (by
            show _ = [(_, some (Box.cells (celsF (ovT (a ++ b.take (i + 1)))) ⟨false, none⟩)), _, _]
            rw [← hst]; rfl)
        · refine pa [.f (.ms 1 (v1 + 1) 0 (o.length + 1) 3 false) (fun _ => [(v0 + 1, none), (v1 + 1, some (.cells (celsF (addF o b[i])) ⟨false, none⟩)), (v2, none)]), .s] rfl ?_ ?_
          · (repeat' with_reducible apply AllP_cons) <;> try exact aC
            · exact AddFile_end o b[i] v0 v1 v2 (by omega) (by omega)
          refine S_move (t := 41) 1 0 rfl rfl rfl (fun ver y => hB _ _ _) ⟨.skip, _, .inr ⟨_, _, _, rfl⟩⟩ ?_
          refine pB [] rfl ?_
          exact S_round (i + 1, (v0 + 1 + 1, v1 + 1, v2)) (by show b.length - (i + 1) < b.length - i; omega) hlt (.cons rfl (.cons (by show AV.ms 0 (v0 + 1 + 1) 0 (o.length + 1) 3 false = AV.ms 0 (v0 + 1 + 1) 0 (ovT (a ++ b.take (i + 1))).length 3 false; rw [← hst, addF_len]) (.cons (nX (by omega)) (.nil _)))) (by
            show _ = [(_, some (Box.cells (celsF (ovT (a ++ b.take (i + 1)))) ⟨false, none⟩)), _, _]
            rw [← hst]; rfl)
      · rw [k1] at hF
        rw [k2] at hst
        have e2 : decide ((j : Int) ≥ 0) = true := decide_eq_true (by omega)
        refine pa [.b true, .v (filA b[i]), .v (.int .i64 (j : Nat)), .b true, .v (filA b[i]), .v .top] rfl ?_ ?_
        · (repeat' with_reducible apply AllP_cons) <;> try exact aC
          · exact ⟨_, hF, .cons (msFs _ _ _ _) (.cons (.refl .str) (.nil _))⟩
          · show offN 0 (mulN (j : Int).toNat 3) + 3 ≤ (celsF o).length
            rw [cels_off, cels_len]; omega
        exact S_round (i + 1, (v0, v1, v2)) (by show b.length - (i + 1) < b.length - i; omega) hlt (.cons rfl (.cons (by show AV.ms 0 (v0) 0 o.length 3 false = AV.ms 0 (v0) 0 (ovT (a ++ b.take (i + 1))).length 3 false; rw [← hst, List.length_set]) (.cons (nX (by omega)) (.nil _)))) (by
          show _ = [(_, some (Box.cells (celsF (ovT (a ++ b.take (i + 1)))) ⟨false, none⟩)), _, _]
          rw [← hst]; rw [← cels_set hj]; rfl)
    have hil : i = b.length := by omega
    subst hil
    have e1 : decide ((b.length : Int) < (((fils b).length : Nat) : Int)) = false := decide_eq_false (by omega)
    have hol := hol b.length
    rw [List.take_length] at hol ⊢
    have hop : ∀ f ∈ ovT (a ++ b), f.path.length ≤ 100 := fun f hf => by
      rcases List.mem_append.1 (ov_sub hf) with h | h
      · exact (path_fst (ha.path f h)).2.1
      · exact (path_fst (hb.path f h)).2.1
    generalize ovT (a ++ b) = o at *
    have rt : ∀ (x : List Fil) (e : Nat), e ≠ 0 → flatAV (x, e) = .tup [.nils, .int .i64 (e : Nat)] := fun x e he => by unfold flatAV; rw [if_neg he]
    have rf : ∀ e : Int, Free true (.tup [.nils, .int .i64 e]) := fun e => .tup (by intro x hx; simp at hx; rcases hx with rfl | rfl; exact .nils; exact .int)
    have hocl := cels_len o
    refine pB [.b false] rfl ?_
    refine S_while (α := Nat) (fun i => [(6, .ms 0 v0 0 o.length 3 false), (9, .int .i64 (i : Nat))]) (fun _ => [(v0, some (.cells (celsF o) ⟨false, none⟩)), (v1, none), (v2, none)]) (fun i => i ≤ o.length ∧ ∀ j (hj : j < o.length), j < i → (o.any fun g => insT o[j].path g.path) = false) (fun i => o.length - i) 0
      ⟨Nat.zero_le _, fun j hj h => absurd h (Nat.not_lt_zero _)⟩ (.cons rfl (.cons rfl (.nil _))) rfl ?_
    rintro i ⟨hi, hI⟩
    have hi : i ≤ o.length := hi
    by_cases hit : i < o.length
    · have e3 : decide ((i : Int) < (o.length : Int)) = true := decide_eq_true (by omega)
      refine pB [.b true] rfl ?_
      refine S_while (α := Nat) (fun k => [(6, .ms 0 v0 0 o.length 3 false), (9, .int .i64 (i : Nat)), (10, .int .i64 (k : Nat))]) (fun _ => [(v0, some (.cells (celsF o) ⟨false, none⟩)), (v1, none), (v2, none)]) (fun k => k ≤ o.length ∧ ∀ j (hj : j < o.length), j < k → insT o[i].path o[j].path = false) (fun k => o.length - k) 0
        ⟨Nat.zero_le _, fun j hj h => absurd h (Nat.not_lt_zero _)⟩ (.cons rfl (.cons rfl (.cons rfl (.nil _)))) rfl ?_
      rintro k ⟨hk, hK⟩
      have hk : k ≤ o.length := hk
      by_cases hkt : k < o.length
      · have e4 : decide ((k : Int) < (o.length : Int)) = true := decide_eq_true (by omega)
        have hN := IsInside_ok o[i].path o[k].path (by have := hop _ (List.getElem_mem hit); omega) (by have := hop _ (List.getElem_mem hkt); omega)
        cases hin : insT o[i].path o[k].path with
        | true =>
          rw [hin] at hN
          have hX : ovX o = 6 := by
            unfold ovX
            rw [if_pos (List.any_eq_true.2 ⟨_, List.getElem_mem hit, List.any_eq_true.2 ⟨_, List.getElem_mem hkt, hin⟩⟩)]
          rw [hX, rt _ _ (by decide)]
          refine pa [.b true, .v .top, .v (.str o[i].path), .v .top, .v (.str o[k].path), .v (.bool true), .b true] rfl ?_ ?_
          · (repeat' with_reducible apply AllP_cons) <;> try exact aC
            all_goals first | exact cels_path hit | exact cels_path hkt | exact ⟨_, hN, .cons (.refl .str) (.cons (.refl .str) (.nil _))⟩
          exact S_retc (rf _) rfl trivial rfl
        | false =>
          rw [hin] at hN
          refine pa [.b true, .v .top, .v (.str o[i].path), .v .top, .v (.str o[k].path), .v (.bool false), .b false] rfl ?_ ?_
          · (repeat' with_reducible apply AllP_cons) <;> try exact aC
            all_goals first | exact cels_path hit | exact cels_path hkt | exact ⟨_, hN, .cons (.refl .str) (.cons (.refl .str) (.nil _))⟩
          exact S_round (k + 1) (by show o.length - (k + 1) < o.length - k; omega) ⟨hkt, fun j hj h => by
            by_cases hjk : j < k
            · exact hK j hj hjk
            · have : j = k := by omega
              subst this; exact hin⟩ (.cons rfl (.cons rfl (.cons (nX (by omega)) (.nil _)))) rfl
      · have hko : k = o.length := by omega
        have e4 : decide ((k : Int) < (o.length : Int)) = false := decide_eq_false (by omega)
        refine pB [.b false] rfl ?_
        exact S_round (i + 1) (by show o.length - (i + 1) < o.length - i; omega) ⟨hit, fun j hj h => by
          by_cases hjk : j < i
          · exact hI j hj hjk
          · have : j = i := by omega
            subst this
            rw [List.any_eq_false]
            intro g hg
            obtain ⟨m, hm, rfl⟩ := List.getElem_of_mem hg
            rw [hK m hm (by omega)]; simp⟩ (.cons rfl (.cons (nX (by omega)) (.nil _))) rfl
    · have e3 : decide ((i : Int) < (o.length : Int)) = false := decide_eq_false (by omega)
      have hno : (o.any fun f => o.any fun g => insT f.path g.path) = false := by
        rw [List.any_eq_false]
        intro f hf
        obtain ⟨j, hj, rfl⟩ := List.getElem_of_mem hf
        rw [hI j hj (by omega)]; simp
      by_cases h60 : 60 < o.length
      · have hX : ovX o = 2 := by unfold ovX; rw [hno, if_neg (by simp), if_pos h60]
        have e4 : decide ((o.length : Int) > 60) = true := decide_eq_true (by omega)
        rw [hX, rt _ _ (by decide)]
        refine pB [.b false, .b true] rfl ?_
        exact S_retc (rf _) rfl trivial rfl
      · have hX : ovX o = 0 := by unfold ovX; rw [hno, if_neg (by simp), if_neg h60]
        have e4 : decide ((o.length : Int) > 60) = false := decide_eq_false (by omega)
        rw [hX]
        refine pB [.b false, .b false] rfl ?_
        refine S_ret ⟨_, _, rfl, trivial, _, rfl, ?_⟩
        show Frz true [(v0, some (.cells (celsF o) ⟨false, none⟩)), (v1, none), (v2, none)] (.tup [.ms 0 v0 0 o.length 3 false, .int .i64 0]) (.tup [.sl true false 3 (fils o), .int .i64 0])
        exact Fzs.tup (.cons (.ms rfl (by omega) (by rw [List.drop_zero]; exact List.take_of_length_le (by omega)) (fil_size _) (fils_len _) (fils_free _)) (.cons (.refl .int) .nil))
theorem TreeOvers_ok (a b : List Fil) (hk : avB (.sl true false 3 (fils a)) ≤ 1048576) (hk' : avB (.sl true false 3 (fils b)) ≤ 1048576) : Calc cx 12 [.sl true false 3 (fils a), .sl true false 3 (fils b)] (.bool true) :=
  pure_intro (fun a w => Tryz.call12 a w) Tryz.func12 rfl Tryz.ntmps12 rfl .bool fun B => by
    have hA := fils_of hk
    have hB := fils_of hk'
    have hO := flatS (Over_ok (st := true) (fl := false) (st' := true) (fl' := false) a b hA hB)
    have hW := twoTrees_ok (st := true) (fl := false) (st' := true) (fl' := false) a b hA hB
    have hfr : ∀ σ : Heap, Frzs σ [.sl true false 3 (fils a), .sl true false 3 (fils b)] [.sl true false 3 (fils a), .sl true false 3 (fils b)] := fun σ => .cons (fsR a) (.cons (fsR b) (.nil _))
    by_cases hc : difE a b = 0
    · obtain ⟨h1, h2⟩ := dif_both hc
      have da := DirOk.of h1
      have db := DirOk.of h2
      rw [hc] at hW
      have hQ := flatS (OverTree_ok (st := true) (fl := false) (st' := true) (fl' := false) a b da db)
      have hE : ovE a b = ovX (ovT (a ++ b)) := by unfold ovE; rw [if_pos h1, if_pos h2]
      rw [hE] at hO
      have hol : (ovT (a ++ b)).length ≤ 1000 := by
        have k1 : (ovT (a ++ b)).length = (ksP (a ++ b)).length := by unfold ovT; rw [List.length_map, (sortT_perm _).length_eq]
        have k2 := ksP_len (a ++ b)
        have k3 := da.len
        have k4 := db.len
        rw [List.length_append] at k2
        omega
      generalize ovT (a ++ b) = o at *
      obtain ⟨e, he⟩ : ∃ e, e = ovX o := ⟨_, rfl⟩
      rw [← he] at hO hQ
      have hF := filesAre_ok (st := true) (fl := false) (st' := true) (fl' := false) (if e = 0 then o else []) (if e = 0 then o else []) e (by split <;> first | omega | decide) (by split <;> first | omega | decide) (fun _ => rfl) (fun h => if_neg h)
      refine pa [.v (flatSV (o, e)), .v (.int .i64 ((0 : Nat) : Int)), .b true, .v (flatSV (o, e)), .v (.bool true), .b true, .v (.bool true)] rfl ?_ ?_
      · (repeat' with_reducible apply AllP_cons) <;> try exact aC
        · exact ⟨_, hO, hfr _⟩
        · exact ⟨_, hW, hfr _⟩
        · exact ⟨_, hQ, hfr _⟩
        · exact ⟨_, treeBegun_ok, .nil _⟩
        · exact ⟨_, hF, .cons (fsR _) (.cons (.refl .int) (.cons (.refl .int) (.cons (fsR _) (.nil _))))⟩
      exact S_retc .bool rfl trivial rfl
    · have hE : ovE a b = difE a b := by
        unfold ovE difE
        unfold difE at hc
        rw [if_neg hc]
      rw [hE] at hO
      generalize difE a b = e at *
      have hF := filesAre_ok (st := true) (fl := false) (st' := false) (fl' := false) (if e = 0 then ovT (a ++ b) else []) [] e (by rw [if_neg hc]; decide) (by decide) (fun h => absurd h hc) (fun h => if_neg h)
      refine pa [.v (flatSV (ovT (a ++ b), e)), .v (.int .i64 (e : Nat)), .b false, .v (.bool true), .b true, .v (.bool true)] rfl ?_ ?_
      · (repeat' with_reducible apply AllP_cons) <;> try exact aC
        · exact ⟨_, hO, hfr _⟩
        · exact ⟨_, hW, hfr _⟩
        all_goals first | exact ⟨_, treeBegun_ok, .nil _⟩ | exact ⟨_, hF, .cons (fsR _) (.cons (.refl .int) (.cons (.refl .int) (.cons .nils (.nil _))))⟩ | (show (((e : Int) == 0) = false); simpa using hc)
      exact S_retc .bool rfl trivial rfl
end Go.Proofs.YtpehmhlgldbeoaaGreatDoor
end
section
set_option linter.unusedVariables false
set_option linter.unusedSimpArgs false
set_option maxRecDepth 20000
namespace Go.Proofs.YtpehmhlgldbeoaaGreatDoor
open Go Go.Ab
theorem open_file {H : Type} {d : DataW H} {a : AV} (h : RdD Tryz.prog 48 d a) : ∃ f : Fil, a = filA f := by
  obtain ⟨ds, xs, rfl, rfl, hall⟩ := h.inv_st Tryz.underlying48
  obtain ⟨d0, ds, x0, xs, rfl, rfl, h0, hall⟩ := hall.cons
  obtain ⟨d1, ds, x1, xs, rfl, rfl, h1, hall⟩ := hall.cons
  obtain ⟨d2, ds, x2, xs, rfl, rfl, h2, hall⟩ := hall.cons
  obtain ⟨rfl, rfl⟩ := hall.nil
  obtain ⟨s0, rfl, rfl, _⟩ := h0.inv_str Tryz.underlying9
  obtain ⟨s1, rfl, rfl, _⟩ := h1.inv_str Tryz.underlying9
  obtain ⟨b, rfl, rfl⟩ := h2.inv_bool Tryz.underlying4
  exact ⟨⟨s0, s1, b⟩, rfl⟩
theorem open_F {H : Type} {d : DataW H} {a : AV} (h : RdD Tryz.prog 22 d a) : ∃ l : List Fil, a = .sl true false 3 (fils l) := by
  obtain ⟨ds, xs, rfl, hl, hm, hall, _⟩ := h.inv_sl Tryz.underlying22
  obtain ⟨ys, rfl, hy, hg⟩ := RdD.each filA (fun _ _ => True) hl hall (fun d x h => by
    obtain ⟨f, rfl⟩ := open_file h
    exact ⟨f, rfl, trivial⟩)
  have hc : Tryz.prog.cellsOf 48 = 3 := by kernel_rfl
  exact ⟨ys, by rw [hc]; rfl⟩
end Go.Proofs.YtpehmhlgldbeoaaGreatDoor
end
