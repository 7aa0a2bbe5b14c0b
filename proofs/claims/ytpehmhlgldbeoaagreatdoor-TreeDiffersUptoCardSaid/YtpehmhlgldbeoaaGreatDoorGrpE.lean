/-
  Texts of our own, in one file.
-/
import Derived.Test.YtpehmhlgldbeoaaGreatDoorGrpD
import Derived.WideShapes
section
set_option linter.unusedVariables false
set_option linter.unusedSimpArgs false
set_option maxRecDepth 20000
set_option maxHeartbeats 4000000
namespace Go.Proofs.YtpehmhlgldbeoaaGreatDoor
open Go Go.Ab
def flatN (sub : List UInt8 → List UInt8 → List Fil → List Fil × Nat) (get : List UInt8 → Option (List UInt8)) (path : List UInt8) : List NodeV → List Fil → List Fil × Nat
  | [], out => (out, 0)
  | nd :: r, out =>
    if 100 < (path ++ nd.name).length then (out, 2)
    else if nd.kind = 3 then
      if (sub nd.dig (path ++ nd.name ++ [47]) out).2 = 0 then flatN sub get path r (sub nd.dig (path ++ nd.name ++ [47]) out).1 else sub nd.dig (path ++ nd.name ++ [47]) out
    else match get nd.dig with
      | none => (out, 5)
      | some t => if out.length = 60 then (out, 2) else flatN sub get path r (out ++ [⟨path ++ nd.name, t, nd.kind == 2⟩])
def flatD (get : List UInt8 → Option (List UInt8)) : Nat → List UInt8 → List UInt8 → List Fil → List Fil × Nat
  | 0, d, path, out => (out, 0)
  | n + 1, d, path, out => match get d with
    | none => (out, 5)
    | some s => if (readNd s).2 ≠ 0 then (out, 1) else if (readNd s).1 = [] ∧ path ≠ [] then (out, 4) else flatN (flatD get n) get path (readNd s).1 out
theorem cels_free {st : Bool} (g : List Fil) : ∀ x ∈ celsF g, Free st x := by
  intro x hx
  obtain ⟨y, hy, hx⟩ := List.mem_flatMap.1 hx
  obtain ⟨f, _, rfl⟩ := List.mem_map.1 hy
  have hx : x ∈ [AV.str f.path, .str f.text, .bool f.run] := hx
  simp at hx; rcases hx with rfl | rfl | rfl
  · exact .str
  · exact .str
  · exact .bool
theorem celsF_add (g : List Fil) (f : Fil) : celsF (g ++ [f]) = celsF g ++ [.str f.path, .str f.text, .bool f.run] := by
  unfold celsF fils
  rw [List.map_append, List.flatMap_append]; rfl
theorem flatN_len {sub : List UInt8 → List UInt8 → List Fil → List Fil × Nat} {get : List UInt8 → Option (List UInt8)} {path : List UInt8} (hs : ∀ d p o, o.length ≤ 60 → (sub d p o).1.length ≤ 60 ∧ o.length ≤ (sub d p o).1.length) :
    ∀ (l : List NodeV) (out : List Fil), out.length ≤ 60 → (flatN sub get path l out).1.length ≤ 60 ∧ out.length ≤ (flatN sub get path l out).1.length
  | [], out, h => ⟨h, Nat.le_refl _⟩
  | nd :: r, out, h => by
    rw [flatN]
    split
    · exact ⟨h, Nat.le_refl _⟩
    split
    · have h1 := hs nd.dig (path ++ nd.name ++ [47]) out h
      split
      · have h2 := flatN_len (get := get) (path := path) hs r _ h1.1
        exact ⟨h2.1, Nat.le_trans h1.2 h2.2⟩
      · exact h1
    split
    · exact ⟨h, Nat.le_refl _⟩
    · split
      · exact ⟨h, Nat.le_refl _⟩
      · have h2 := flatN_len (get := get) (path := path) hs r (out ++ [⟨path ++ nd.name, ‹_›, nd.kind == 2⟩]) (by simp; omega)
        rw [List.length_append] at h2
        exact ⟨h2.1, Nat.le_trans (Nat.le_add_right _ _) h2.2⟩
theorem flatD_len (get : List UInt8 → Option (List UInt8)) : ∀ (n : Nat) (d path : List UInt8) (out : List Fil), out.length ≤ 60 → (flatD get n d path out).1.length ≤ 60 ∧ out.length ≤ (flatD get n d path out).1.length
  | 0, d, path, out, h => ⟨h, Nat.le_refl _⟩
  | n + 1, d, path, out, h => by
    rw [flatD]
    split
    · exact ⟨h, Nat.le_refl _⟩
    · split
      · exact ⟨h, Nat.le_refl _⟩
      · split
        · exact ⟨h, Nat.le_refl _⟩
        · exact flatN_len (flatD_len get n) _ out h
theorem readNd_fit {s : List UInt8} (h : (readNd s).2 = 0) : chkN (readNd s).1 = 0 := by
  unfold readNd at h ⊢
  split at h
  · cases h
  · rename_i ts q hx
    split at h
    · rename_i hq
      rw [if_pos hq]
      unfold nodesOf at hq
      exact congrArg Prod.snd hq
    · cases h
theorem readNd_len {s : List UInt8} (h : (readNd s).2 = 0) : (readNd s).1.length ≤ 60 := (chk_fit (readNd_fit h)).len
theorem readNd_name {s : List UInt8} (h : (readNd s).2 = 0) : ∀ x ∈ (readNd s).1, x.name.length ≤ 20 := (chk_fit (readNd_fit h)).name
def getM (ks : List (List UInt8)) (tx : List UInt8 → List UInt8) : List UInt8 → Option (List UInt8) := fun d => if d ∈ ks then some (tx d) else none
def hpT (ks : List (List UInt8)) (tx : List UInt8 → List UInt8) (g : Nat) (out : List Fil) (τ : Heap) : Heap :=
  (0, mapBx ks fun d => .str (tx d)) :: (0, some (.cells [.map 0 0, .ms 2 (g + out.length) 0 out.length 3 false] ⟨false, some 61⟩)) :: (g + out.length, some (.cells (celsF out) ⟨false, none⟩)) :: τ
def hpF (ks : List (List UInt8)) (tx : List UInt8 → List UInt8) (g : Nat) (out : List Fil) : Heap := hpT ks tx g out []
theorem hpF_rn (ks : List (List UInt8)) (tx : List UInt8 → List UInt8) (g : Nat) (out : List Fil) : RnH (List.range 3) (hpF ks tx g out) (hpF ks tx g out) :=
  .cons (.live (.map rfl fun i h1 h2 => by simp only [mapF, List.getElem_map]; exact ⟨.free .str, .free .str⟩)) (.cons (.live (.cells (.cons (.map rfl) (.cons (.ms rfl) (.nil _))))) (.cons (.live (.cells ⟨rfl, fun i h1 h2 => .free (cels_free out _ (List.getElem_mem _))⟩)) (.nil _)))
theorem flatN_at {sub : List UInt8 → List UInt8 → List Fil → List Fil × Nat} {get : List UInt8 → Option (List UInt8)} {path : List UInt8} {l : List NodeV} {j : Nat} (h : j < l.length) (out : List Fil) : flatN sub get path (l.drop j) out =
    if 100 < (path ++ l[j].name).length then (out, 2)
    else if l[j].kind = 3 then
      if (sub l[j].dig (path ++ l[j].name ++ [47]) out).2 = 0 then flatN sub get path (l.drop (j + 1)) (sub l[j].dig (path ++ l[j].name ++ [47]) out).1 else sub l[j].dig (path ++ l[j].name ++ [47]) out
    else match get l[j].dig with
      | none => (out, 5)
      | some t => if out.length = 60 then (out, 2) else flatN sub get path (l.drop (j + 1)) (out ++ [⟨path ++ l[j].name, t, l[j].kind == 2⟩]) := by
  rw [List.drop_eq_getElem_cons h, flatN]
theorem dir_ok (ks : List (List UInt8)) (tx : List UInt8 → List UInt8) (htx : ∀ d ∈ ks, (tx d).length ≤ 1000000) (g : Nat) : ∀ (n : Nat) (d path : List UInt8) (out : List Fil), path.length ≤ 101 → 102 ≤ n + path.length → out.length ≤ 60 →
    CallOk cx 48 [.ptr 1 0 0, .str d, .str path] (hpF ks tx g out) (fun o s => o = .ret (.int .i64 ((flatD (getM ks tx) n d path out).2 : Nat)) ∧ s = hpF ks tx g (flatD (getM ks tx) n d path out).1)
  | 0, d, path, out, h1, h2, h3 => by omega
  | n + 1, d, path, out, h1, h2, h3 => callOk_introT (fun a w => Tryz.call48 a w) Tryz.func48 rfl Tryz.ntmps48 rfl fun B => by
    have ret : ∀ (o : List Fil) (e : Nat) (τ : Heap), (flatD (getM ks tx) (n + 1) d path out) = (o, e) → TR 3 (fun z s => z = .ret (.int .i64 ((flatD (getM ks tx) (n + 1) d path out).2 : Nat)) ∧ s = hpF ks tx g (flatD (getM ks tx) (n + 1) d path out).1) (.ret (.int .i64 (e : Nat))) (hpT ks tx g o τ) := by
      intro o e τ he
      rw [he]
      refine ⟨3, Nat.le_refl _, LowH.of (fun x hx y hy => ?_), _, .low .int, rfl, rfl⟩
      have hx : x ∈ hpF ks tx g o := hx
      unfold hpF hpT at hx
      simp only [List.mem_cons, List.not_mem_nil, or_false] at hx
      rcases hx with rfl | rfl | rfl
      · cases hy; exact .map fun p hp => by obtain ⟨t, _, rfl⟩ := List.mem_map.1 hp; exact ⟨.str, .str⟩
      · cases hy; exact .cells (by intro z hz; simp at hz; rcases hz with rfl | rfl; exact .map (by decide); exact .ms (by decide))
      · cases hy
        refine .cells fun z hz => ?_
        obtain ⟨y, hy, hz⟩ := List.mem_flatMap.1 hz
        obtain ⟨f, _, rfl⟩ := List.mem_map.1 hy
        have hz : z ∈ [AV.str f.path, .str f.text, .bool f.run] := hz
        simp at hz; rcases hz with rfl | rfl | rfl; exact .str; exact .str; exact .bool
    refine S_dead ?_ ⟨_, _, .inl rfl⟩
    by_cases hk : d ∈ ks
    case neg =>
      have hres : flatD (getM ks tx) (n + 1) d path out = (out, 5) := by rw [flatD, getM, if_neg hk]
      refine pa [.v (.tup [.str [], .bool false]), .b true] rfl ?_ ?_
      · (repeat' with_reducible apply AllP_cons) <;> try exact aC
        · exact OpSpec.mget (kt := 9) (et := 9) (ks := ks) (val := fun d => .str (tx d)) (s := d) (z := .str []) rfl (Tryz.underlying59) rfl rfl rfl rfl rfl (by rw [if_neg hk, decide_eq_false hk]; rfl)
      exact S_ret ⟨_, _, rfl, trivial, ret out 5 [(0, none)] hres⟩
    have hget : getM ks tx d = some (tx d) := if_pos hk
    have hsl := htx d hk
    have hR := ReadNodes_ok (tx d) (by omega)
    by_cases he : (readNd (tx d)).2 = 0
    case neg =>
      have hres : flatD (getM ks tx) (n + 1) d path out = (out, 1) := by rw [flatD, hget]; show (if (readNd (tx d)).2 ≠ 0 then _ else _) = _; rw [if_pos he]
      refine pa [.v (.tup [.str (tx d), .bool true]), .b false, .v (.tup [.sl true false 3 (nodes (readNd (tx d)).1), .int .i64 (((readNd (tx d)).2 : Nat) : Int)]), .b true] rfl ?_ ?_
      · (repeat' with_reducible apply AllP_cons) <;> try exact aC
        · exact OpSpec.mget (kt := 9) (et := 9) (ks := ks) (val := fun d => .str (tx d)) (s := d) (z := .str []) rfl (Tryz.underlying59) rfl rfl rfl rfl rfl (by rw [if_pos hk, decide_eq_true hk]; rfl)
        · exact ⟨_, hR, .cons (.refl .str) (.nil _)⟩
        · show (((((readNd (tx d)).2 : Nat) : Int)) != 0) = true
          rw [chk_bne]; simpa using he
      exact S_ret ⟨_, _, rfl, trivial, ret out 1 [(0, none)] hres⟩
    rw [he] at hR
    have hD : flatD (getM ks tx) (n + 1) d path out = if (readNd (tx d)).1 = [] ∧ path ≠ [] then (out, 4) else flatN (flatD (getM ks tx) n) (getM ks tx) path (readNd (tx d)).1 out := by
      rw [flatD, hget]; show (if (readNd (tx d)).2 ≠ 0 then _ else _) = _; rw [if_neg (by simp [he])]
    have hnl0 : (readNd (tx d)).1.length ≤ 60 := readNd_len he
    have hnm0 : ∀ x ∈ (readNd (tx d)).1, x.name.length ≤ 20 := readNd_name he
    generalize (readNd (tx d)).1 = nds at *
    have hnl := nodes_len nds
    by_cases hbad : nds = [] ∧ path ≠ []
    · rw [if_pos hbad] at hD
      obtain ⟨rfl, hp⟩ := hbad
      refine pa [.v (.tup [.str (tx d), .bool true]), .b false, .v (.tup [.sl true false 3 (nodes []), .int .i64 ((0 : Nat) : Int)]), .b false, .b true, .b true] rfl ?_ ?_
      · (repeat' with_reducible apply AllP_cons) <;> try exact aC
        · exact OpSpec.mget (kt := 9) (et := 9) (ks := ks) (val := fun d => .str (tx d)) (s := d) (z := .str []) rfl (Tryz.underlying59) rfl rfl rfl rfl rfl (by rw [if_pos hk, decide_eq_true hk]; rfl)
        · exact ⟨_, hR, .cons (.refl .str) (.nil _)⟩
        · show (!(path == [])) = true
          simp [hp]
      exact S_ret ⟨_, _, rfl, trivial, ret out 4 [(0, none)] hD⟩
    rw [if_neg hbad] at hD
    by_cases hem : nds = []
    case' pos =>
      have hp0 : path = [] := Classical.byContradiction fun hp => hbad ⟨hem, hp⟩
      have e1 : ((((nodes nds).length : Nat) : Int) == 0) = true := by rw [hnl, hem]; rfl
      have e2 : (!(path == [])) = false := by rw [hp0]; rfl
      refine pa [.v (.tup [.str (tx d), .bool true]), .b false, .v (.tup [.sl true false 3 (nodes nds), .int .i64 ((0 : Nat) : Int)]), .b false, .b true, .b false] rfl ?_ ?_
    case' neg =>
      have e1 : ((((nodes nds).length : Nat) : Int) == 0) = false := by
        have : nds.length ≠ 0 := fun h => hem (List.length_eq_zero_iff.1 h)
        rw [hnl]; simp; exact hem
      refine pa [.v (.tup [.str (tx d), .bool true]), .b false, .v (.tup [.sl true false 3 (nodes nds), .int .i64 ((0 : Nat) : Int)]), .b false, .b false, .b false] rfl ?_ ?_
    case pos.refine_1 | neg.refine_1 =>
      (repeat' with_reducible apply AllP_cons) <;> try exact aC
      · exact OpSpec.mget (kt := 9) (et := 9) (ks := ks) (val := fun d => .str (tx d)) (s := d) (z := .str []) rfl (Tryz.underlying59) rfl rfl rfl rfl rfl (by rw [if_pos hk, decide_eq_true hk]; rfl)
      · exact ⟨_, hR, .cons (.refl .str) (.nil _)⟩
    all_goals
      refine S_while (α := Nat × List Fil) (fun q => [(0, .ptr 1 0 0), (2, .str path), (42, .sl true false 3 (nodes nds)), (43, .int .i64 (((nodes nds).length : Nat) : Int)), (44, .int .i64 (q.1 : Nat))]) (fun q => hpT ks tx g q.2 [(q.1, none)]) (fun q => q.1 ≤ nds.length ∧ q.2.length ≤ 60 ∧ flatN (flatD (getM ks tx) n) (getM ks tx) path (nds.drop q.1) q.2 = flatN (flatD (getM ks tx) n) (getM ks tx) path nds out) (fun q => nds.length - q.1) (0, out)
        ⟨Nat.zero_le _, h3, rfl⟩ (.cons rfl (.cons rfl (.cons rfl (.cons rfl (.cons rfl (.nil _)))))) rfl ?_
      rintro ⟨j, o⟩ ⟨hj, ho, hI⟩
      have hj : j ≤ nds.length := hj
      have ho : o.length ≤ 60 := ho
      have hI : flatN (flatD (getM ks tx) n) (getM ks tx) path (nds.drop j) o = flatN (flatD (getM ks tx) n) (getM ks tx) path nds out := hI
      by_cases hjt : j < nds.length
      · have e1 : decide ((j : Int) < (((nodes nds).length : Nat) : Int)) = true := decide_eq_true (by omega)
        have g1 : (nodes nds)[(j : Int).toNat]? = some (nodeAV nds[j]) := nodes_get hjt
        have hnm := hnm0 _ (List.getElem_mem hjt)
        rw [flatN_at hjt] at hI
        generalize nds[j] = nd at *
        have hpl : (path ++ nd.name).length = path.length + nd.name.length := List.length_append ..
        by_cases hlong : 100 < (path ++ nd.name).length
        · rw [if_pos hlong] at hI
          rw [← hI] at hD
          have e2 : decide ((((path ++ nd.name).length : Nat) : Int) > 100) = true := decide_eq_true (by omega)
          refine pB [.b true, .v (nodeAV nd), .b true] rfl ?_
          exact S_ret ⟨_, _, rfl, trivial, ret o 2 _ hD⟩
        rw [if_neg hlong] at hI
        have e2 : decide ((((path ++ nd.name).length : Nat) : Int) > 100) = false := decide_eq_false (by omega)
        by_cases h3k : nd.kind = 3
        · rw [if_pos h3k] at hI
          have e3 : (nd.kind == 3) = true := by rw [h3k]; rfl
          have ih := dir_ok ks tx htx g n nd.dig (path ++ nd.name ++ [47]) o (by rw [List.length_append]; simp only [List.length_cons, List.length_nil]; omega) (by rw [List.length_append]; simp only [List.length_cons, List.length_nil]; omega) ho
          have hfl := flatD_len (getM ks tx) n nd.dig (path ++ nd.name ++ [47]) o ho
          generalize flatD (getM ks tx) n nd.dig (path ++ nd.name ++ [47]) o = y at *
          obtain ⟨o', e'⟩ := y
          by_cases he' : e' = 0
          · rw [if_pos he'] at hI
            subst he'
            refine pa [.b true, .v (nodeAV nd), .b false, .b true, .f (.int .i64 ((0 : Nat) : Int)) (fun σ => hpT ks tx g o' σ.tail.tail.tail), .b false, .s] rfl ?_ ?_
            · (repeat' with_reducible apply AllP_cons) <;> try exact aC
              · exact CallOk.pre1 (σ := hpF ks tx g o) (σ' := hpF ks tx g o') 3 _ ih rfl rfl (.cons (.ptr rfl) (.cons (.free .str) (.cons (.free .str) (.nil _)))) (hpF_rn _ _ _ _) (hpF_rn _ _ _ _) (.free .int)
            refine S_drop (id := 3) rfl ?_ ⟨.skip, _, .inr ⟨_, _, _, rfl⟩⟩
            refine pB [] rfl ?_
            exact S_round (j + 1, o') (by show nds.length - (j + 1) < nds.length - j; omega) ⟨hjt, hfl.1, hI⟩ (.cons rfl (.cons rfl (.cons rfl (.cons rfl (.cons (nX (by omega)) (.nil _)))))) rfl
          · rw [if_neg he'] at hI
            rw [← hI] at hD
            refine pa [.b true, .v (nodeAV nd), .b false, .b true, .f (.int .i64 (e' : Nat)) (fun σ => hpT ks tx g o' σ.tail.tail.tail), .b true] rfl ?_ ?_
            · (repeat' with_reducible apply AllP_cons) <;> try exact aC
              · exact CallOk.pre1 (σ := hpF ks tx g o) (σ' := hpF ks tx g o') 3 _ ih rfl rfl (.cons (.ptr rfl) (.cons (.free .str) (.cons (.free .str) (.nil _)))) (hpF_rn _ _ _ _) (hpF_rn _ _ _ _) (.free .int)
              · show ((((e' : Int)) != 0) = true)
                rw [chk_bne]; simpa using he'
            exact S_ret ⟨_, _, rfl, trivial, ret o' e' _ hD⟩
        · rw [if_neg h3k] at hI
          have e3 : (nd.kind == 3) = false := by simpa using h3k
          by_cases hkd : nd.dig ∈ ks
          case neg =>
            have hgn : getM ks tx nd.dig = none := if_neg hkd
            rw [hgn] at hI
            rw [← hI] at hD
            refine pa [.b true, .v (nodeAV nd), .b false, .b false, .v (.tup [.str [], .bool false]), .b true] rfl ?_ ?_
            · (repeat' with_reducible apply AllP_cons) <;> try exact aC
              all_goals exact OpSpec.mget (kt := 9) (et := 9) (ks := ks) (val := fun d => .str (tx d)) (s := nd.dig) (z := .str []) rfl (Tryz.underlying59) rfl rfl rfl rfl rfl (by rw [if_neg hkd, decide_eq_false hkd]; rfl)
            exact S_ret ⟨_, _, rfl, trivial, ret o 5 _ hD⟩
          have hgn : getM ks tx nd.dig = some (tx nd.dig) := if_pos hkd
          rw [hgn] at hI
          by_cases h60 : o.length = 60
          · have hI : (if o.length = 60 then (o, 2) else _) = _ := hI
            rw [if_pos h60] at hI
            rw [← hI] at hD
            have e4 : ((o.length : Int) == 60) = true := by rw [h60]; rfl
            refine pa [.b true, .v (nodeAV nd), .b false, .b false, .v (.tup [.str (tx nd.dig), .bool true]), .b false, .b true] rfl ?_ ?_
            · (repeat' with_reducible apply AllP_cons) <;> try exact aC
              all_goals exact OpSpec.mget (kt := 9) (et := 9) (ks := ks) (val := fun d => .str (tx d)) (s := nd.dig) (z := .str []) rfl (Tryz.underlying59) rfl rfl rfl rfl rfl (by rw [if_pos hkd, decide_eq_true hkd]; rfl)
            exact S_ret ⟨_, _, rfl, trivial, ret o 2 _ hD⟩
          · have hI : (if o.length = 60 then (o, 2) else _) = _ := hI
            rw [if_neg h60] at hI
            have e4 : ((o.length : Int) == 60) = false := by simp; omega
            have hcl := cels_len o
            refine pa [.b true, .v (nodeAV nd), .b false, .b false, .v (.tup [.str (tx nd.dig), .bool true]), .b false, .b false,
              .d 12 13 [] (fun σ => (0, mapBx ks fun d => .str (tx d)) :: (0, some (.cells [.map 0 0, .ms 2 (g + o.length) 0 o.length 3 false] ⟨false, some 61⟩)) :: (g + o.length + 1, some (.cells (celsF o ++ [.str (path ++ nd.name), .str (tx nd.dig), .bool (nd.kind == 2)]) ⟨false, none⟩)) :: σ.tail.tail.tail) [.ms 2 (g + o.length + 1) 0 (o.length + 1) 3 false], .s] rfl ?_ ?_
            · (repeat' with_reducible apply AllP_cons) <;> try exact aC
              · exact OpSpec.mget (kt := 9) (et := 9) (ks := ks) (val := fun d => .str (tx d)) (s := nd.dig) (z := .str []) rfl (Tryz.underlying59) rfl rfl rfl rfl rfl (by rw [if_pos hkd, decide_eq_true hkd]; rfl)
              · show 0 + o.length * 3 = _
                rw [hcl]; omega
              · show (o.length + 1) * 40 ≤ 140737488355328
                omega
            refine pan 5 [] rfl ?_ ?_
            · (repeat' with_reducible apply AllP_cons) <;> try exact aC
            refine S_drop (id := 3) rfl ?_ ⟨_, _, .inl rfl⟩
            refine S_heap (hpT ks tx g (o ++ [⟨path ++ nd.name, tx nd.dig, nd.kind == 2⟩]) [(j + 1, none)]) ?_ ?_
            · show [(0, mapBx ks fun d => .str (tx d)), (0, some (.cells [.map 0 0, .ms 2 (g + o.length + 1) 0 (o.length + 1) 3 false] ⟨false, some 61⟩)), (g + o.length + 1, some (.cells (celsF o ++ [.str (path ++ nd.name), .str (tx nd.dig), .bool (nd.kind == 2)]) ⟨false, none⟩)), (j + 1, none)] = _
              have hoa : (o ++ [(⟨path ++ nd.name, tx nd.dig, nd.kind == 2⟩ : Fil)]).length = o.length + 1 := by simp
              unfold hpT
              rw [celsF_add, hoa]; rfl
            refine pB [] rfl ?_
            exact S_round (j + 1, o ++ [⟨path ++ nd.name, tx nd.dig, nd.kind == 2⟩]) (by show nds.length - (j + 1) < nds.length - j; omega) ⟨hjt, by show (o ++ [_]).length ≤ 60; simp; omega, hI⟩ (.cons rfl (.cons rfl (.cons rfl (.cons rfl (.cons (nX (by omega)) (.nil _)))))) rfl
      · have e1 : decide ((j : Int) < (((nodes nds).length : Nat) : Int)) = false := decide_eq_false (by omega)
        rw [List.drop_eq_nil_of_le (by omega), flatN] at hI
        rw [← hI] at hD
        refine pB [.b false] rfl ?_
        exact S_ret ⟨_, _, rfl, trivial, ret o 0 _ hD⟩
end Go.Proofs.YtpehmhlgldbeoaaGreatDoor
end
section
set_option linter.unusedVariables false
set_option linter.unusedSimpArgs false
set_option maxRecDepth 20000
set_option maxHeartbeats 4000000
namespace Go.Proofs.YtpehmhlgldbeoaaGreatDoor
open Go Go.Ab
theorem Flat1_ok (s : List UInt8) : Calc cx 45 [.str s] (.bool (decide (100000 < s.length))) :=
  pure_intro (fun a w => Tryz.call45 a w) Tryz.func45 rfl Tryz.ntmps45 rfl .bool fun B => by
    refine pB [] rfl ?_
    refine S_retc .bool rfl trivial ?_
    show AV.bool (decide ((s.length : Int) > 100000)) = _
    congr 1
    rw [decide_eq_decide]; omega
def longT (l : List (List UInt8)) : Bool := l.any fun s => decide (100000 < s.length)
theorem IndexFuncS_ok {st fl : Bool} (l : List (List UInt8)) (hl : l.length ≤ 1000000000000) : Calc cx 73 [.sl st fl 1 (texts l), .func (.func 45) [] []] (.int .i64 (match l.findIdx? (fun s => decide (100000 < s.length)) with | some i => (i : Int) | none => -1)) :=
  pure_intro (fun a w => Tryz.call73 a w) Tryz.func73 rfl Tryz.ntmps73 rfl .int fun B => by
    have htl : (texts l).length = l.length := by simp [texts]
    refine pB [] rfl ?_
    refine S_while (α := Nat) (fun i => [(0, .sl st fl 1 (texts l)), (1, .func (.func 45) [] []), (7, .int .i64 (((texts l).length : Nat) : Int)), (8, .int .i64 (i : Nat))]) (fun _ => []) (fun i => i ≤ l.length ∧ ∀ k (hk : k < l.length), k < i → l[k].length ≤ 100000) (fun i => l.length - i) 0
      ⟨Nat.zero_le _, fun k hk h => absurd h (Nat.not_lt_zero _)⟩ (.cons rfl (.cons rfl (.cons rfl (.cons rfl (.nil _))))) rfl ?_
    rintro i ⟨hi, hN⟩
    have hi : i ≤ l.length := hi
    by_cases hlt : i < l.length
    · have e1 : decide ((i : Int) < (((texts l).length : Nat) : Int)) = true := decide_eq_true (by omega)
      have g1 : (texts l)[(i : Int).toNat]? = some (.str l[i]) := by rw [Int.toNat_natCast]; simp [texts, List.getElem?_eq_getElem hlt]
      have hF := Flat1_ok l[i]
      by_cases hb : 100000 < l[i].length
      · rw [decide_eq_true hb] at hF
        refine pa [.b true, .v (.str l[i]), .v (.bool true), .b true] rfl ?_ ?_
        · (repeat' with_reducible apply AllP_cons) <;> try exact aC
          · exact ⟨_, hF, .cons (.refl .str) (.nil _)⟩
        refine S_retc .int rfl trivial ?_
        have : l.findIdx? (fun s => decide (100000 < s.length)) = some i := by
          rw [List.findIdx?_eq_some_iff_getElem]
          exact ⟨hlt, by simpa using hb, fun j hj => by have := hN j (by omega) hj; simpa using this⟩
        rw [this]; rfl
      · rw [decide_eq_false hb] at hF
        refine pa [.b true, .v (.str l[i]), .v (.bool false), .b false] rfl ?_ ?_
        · (repeat' with_reducible apply AllP_cons) <;> try exact aC
          · exact ⟨_, hF, .cons (.refl .str) (.nil _)⟩
        refine S_round (i + 1) (by show l.length - (i + 1) < l.length - i; omega) ⟨hlt, fun k hk h => ?_⟩ (.cons rfl (.cons rfl (.cons rfl (.cons (nX (by omega)) (.nil _))))) rfl
        have h : k < i + 1 := h
        by_cases hki : k < i
        · exact hN k hk hki
        · have : k = i := by omega
          subst this; omega
    · have e1 : decide ((i : Int) < (((texts l).length : Nat) : Int)) = false := decide_eq_false (by omega)
      refine pB [.b false] rfl ?_
      refine S_retc .int rfl trivial ?_
      have : l.findIdx? (fun s => decide (100000 < s.length)) = none := by
        rw [List.findIdx?_eq_none_iff]
        intro x hx
        obtain ⟨k, hk, rfl⟩ := List.getElem_of_mem hx
        have := hN k hk (by omega)
        simpa using this
      rw [this]; rfl
theorem ContainsFuncS_ok {st fl : Bool} (l : List (List UInt8)) (hl : l.length ≤ 1000000000000) : Calc cx 44 [.sl st fl 1 (texts l), .func (.func 45) [] []] (.bool (longT l)) :=
  pure_intro (fun a w => Tryz.call44 a w) Tryz.func44 rfl Tryz.ntmps44 rfl .bool fun B => by
    have hI := IndexFuncS_ok (st := st) (fl := fl) l hl
    refine pa [.v (.int .i64 (match l.findIdx? (fun s => decide (100000 < s.length)) with | some i => (i : Int) | none => -1))] rfl ?_ ?_
    · (repeat' with_reducible apply AllP_cons) <;> try exact aC
      · exact ⟨_, hI, .cons (.refl (.sl (fun h => by cases h) (texts_any l))) (.cons (.refl (.func (fun x h => by cases h) (fun x h => by cases h))) (.nil _))⟩
    refine S_retc .bool rfl trivial ?_
    show AV.bool (decide ((match l.findIdx? (fun s => decide (100000 < s.length)) with | some i => (i : Int) | none => -1) ≥ 0)) = _
    congr 1
    unfold longT
    cases h : l.findIdx? (fun s => decide (100000 < s.length)) with
    | none =>
      rw [List.findIdx?_eq_none_iff] at h
      rw [List.any_eq_false.2 (fun x hx => by have := h x hx; rw [this]; simp)]; rfl
    | some i =>
      rw [List.findIdx?_eq_some_iff_getElem] at h
      obtain ⟨h1, h2, _⟩ := h
      rw [List.any_eq_true.2 ⟨_, List.getElem_mem h1, h2⟩]
      show decide ((i : Int) ≥ 0) = true
      exact decide_eq_true (by omega)
theorem Len1_ok : Calc cx 117 [.int .u64 1] (.int .i64 1) :=
  pure_intro (fun a w => Tryz.call117 a w) Tryz.func117 rfl Tryz.ntmps117 rfl .int fun B => by
    refine pa [.b false, .b false, .b false] rfl ?_ ?_
    · (repeat' with_reducible apply AllP_cons) <;> try exact aC
      all_goals decide +kernel
    refine S_retc .int rfl trivial ?_
    rfl
theorem LenU_ok : Calc cx 77 [.int .u64 1] (.int .i64 1) :=
  pure_intro (fun a w => Tryz.call77 a w) Tryz.func77 rfl Tryz.ntmps77 rfl .int fun B => by
    refine pa [.b false, .v (.int .i64 1)] rfl ?_ ?_
    · (repeat' with_reducible apply AllP_cons) <;> try exact aC
      · exact ⟨_, Len1_ok, .cons (.refl .int) (.nil _)⟩
    exact S_retc .int rfl trivial rfl
theorem Ins1_ok (σ : Heap) (v : Nat) : CallOk cx 108 [.ms 2 v 0 1 3 false, .int .i64 0, .int .i64 1, .func (.func 50) [] []] σ (fun o s => o = .ret (.tup []) ∧ s = σ) :=
  callOk_intro (fun a w => Tryz.call108 a w) Tryz.func108 rfl Tryz.ntmps108 rfl fun B => by
    refine pas [] rfl ?_ ?_
    · (repeat' with_reducible apply AllP_cons) <;> try exact aC
    refine S_while (α := Unit) (fun _ => [(2, .int .i64 1), (8, .int .i64 1)]) (fun _ => σ) (fun _ => True) (fun _ => 0) () trivial (.cons rfl (.cons rfl (.nil _))) rfl ?_
    rintro ⟨⟩ _
    refine pas [.b false] rfl ?_ ?_
    · (repeat' with_reducible apply AllP_cons) <;> try exact aC
    exact S_nil ⟨_, _, rfl, trivial, rfl, rfl⟩
theorem Pdq1_ok (σ : Heap) (v : Nat) : CallOk cx 76 [.ms 2 v 0 1 3 false, .int .i64 0, .int .i64 1, .int .i64 1, .func (.func 50) [] []] σ (fun o s => o = .ret (.tup []) ∧ s = σ) :=
  callOk_intro (fun a w => Tryz.call76 a w) Tryz.func76 rfl Tryz.ntmps76 rfl fun B => by
    refine pas [] rfl ?_ ?_
    · (repeat' with_reducible apply AllP_cons) <;> try exact aC
    refine S_while (α := Unit) (fun _ => [(0, .ms 2 v 0 1 3 false), (1, .int .i64 0), (2, .int .i64 1), (4, .func (.func 50) [] [])]) (fun _ => σ) (fun _ => True) (fun _ => 0) () trivial (.cons rfl (.cons rfl (.cons rfl (.cons rfl (.nil _))))) rfl ?_
    rintro ⟨⟩ _
    refine pas [.b true, .k (.tup [])] rfl ?_ ?_
    · (repeat' with_reducible apply AllP_cons) <;> try exact aC
      · exact Ins1_ok σ v
    exact S_ret ⟨_, _, rfl, trivial, rfl, rfl⟩
theorem Sort1_ok (ks : List (List UInt8)) (tx : List UInt8 → List UInt8) (g : Nat) (f : Fil) : CallOk cx 49 [.ms 2 (g + 1) 0 1 3 false, .func (.func 50) [] []] (hpF ks tx g [f]) (fun o s => o = .ret (.tup []) ∧ s = hpF ks tx g [f]) :=
  callOk_intro (fun a w => Tryz.call49 a w) Tryz.func49 rfl Tryz.ntmps49 rfl fun B => by
    refine pa [.v (.int .i64 1), .k (.tup [])] rfl ?_ ?_
    · (repeat' with_reducible apply AllP_cons) <;> try exact aC
      · exact ⟨_, LenU_ok, .cons (.refl .int) (.nil _)⟩
      · exact Pdq1_ok _ _
    exact S_nil ⟨_, _, rfl, trivial, rfl, rfl⟩
end Go.Proofs.YtpehmhlgldbeoaaGreatDoor
end
section
set_option linter.unusedVariables false
set_option linter.unusedSimpArgs false
set_option maxRecDepth 20000
set_option maxHeartbeats 4000000
namespace Go.Proofs.YtpehmhlgldbeoaaGreatDoor
open Go Go.Ab
def ksB (l : List (List UInt8)) : List (List UInt8) := l.foldl (fun ks s => addU ks (sha s)) []
def txB (l : List (List UInt8)) (d : List UInt8) : List UInt8 := (l.reverse.find? (fun s => sha s == d)).getD []
def flatY (root : List UInt8) (blobs : List (List UInt8)) : List Fil × Nat := flatD (getM (ksB blobs) (txB blobs)) 102 root [] []
def flatT (S : List Fil → List Fil) (root : List UInt8) (blobs : List (List UInt8)) : List Fil × Nat :=
  if 2000 < blobs.length ∨ longT blobs = true then ([], 2) else if isDig root = true then (if (flatY root blobs).2 = 0 then (S (flatY root blobs).1, 0) else ([], (flatY root blobs).2)) else ([], 1)
def flatAV (y : List Fil × Nat) : AV := .tup [if y.2 = 0 then .sl true false 3 (fils y.1) else .nils, .int .i64 (y.2 : Nat)]
theorem flatAV_free (y : List Fil × Nat) : Free true (flatAV y) := .tup (by
  intro x hx; simp at hx
  rcases hx with rfl | rfl
  · split
    · exact .sl (fun _ => rfl) (fils_free _)
    · exact .nils
  · exact .int)
theorem ksB_step {l : List (List UInt8)} {i : Nat} (h : i < l.length) : ksB (l.take (i + 1)) = addU (ksB (l.take i)) (sha l[i]) := by
  unfold ksB; rw [List.take_succ_eq_append_getElem h, List.foldl_append]; rfl
theorem txB_step {l : List (List UInt8)} {i : Nat} (h : i < l.length) (d : List UInt8) : txB (l.take (i + 1)) d = if d = sha l[i] then l[i] else txB (l.take i) d := by
  unfold txB
  rw [List.take_succ_eq_append_getElem h, List.reverse_append]
  show ((l[i] :: (l.take i).reverse).find? _).getD [] = _
  rw [List.find?_cons]
  by_cases e : d = sha l[i]
  · rw [if_pos e, show (sha l[i] == d) = true by simp [e]]; rfl
  · rw [if_neg e, show (sha l[i] == d) = false by simpa using Ne.symm e]
theorem txB_len {l : List (List UInt8)} (h : longT l = false) (d : List UInt8) : (txB l d).length ≤ 1000000 := by
  unfold txB
  cases hf : l.reverse.find? (fun s => sha s == d) with
  | none => exact Nat.zero_le _
  | some s =>
    have hm := List.mem_of_find?_eq_some hf
    unfold longT at h
    rw [List.any_eq_false] at h
    have := h s (by simpa using hm)
    simp at this
    show s.length ≤ _; omega
theorem mapB_step {l : List (List UInt8)} {i : Nat} (h : i < l.length) :
    mapBx (addK (ksB (l.take i)) (sha l[i])) (updF (fun d => .str (txB (l.take i) d)) (sha l[i]) (.str l[i])) = mapBx (ksB (l.take (i + 1))) fun d => .str (txB (l.take (i + 1)) d) := by
  unfold mapBx
  rw [ksB_step h]
  show some (Box.map (mapF (addU _ _) _) none) = some (Box.map (mapF (addU _ _) _) none)
  congr 2
  refine mapF_congr fun n _ => ?_
  unfold updF
  rw [txB_step h]
  split <;> rfl
theorem Flat_gen {st fl : Bool} (S : List Fil → List Fil) (root : List UInt8) (blobs : List (List UInt8)) (hr : root.length ≤ 9223372036854775807) (hbl : blobs.length ≤ 1000000000000) (hS0 : ∀ out, (S out).length = out.length)
    (hsort : (flatY root blobs).2 = 0 → CallOk cx 49 [.ms 2 (0 + (flatY root blobs).1.length) 0 (flatY root blobs).1.length 3 false, .func (.func 50) [] []] (hpF (ksB blobs) (txB blobs) 0 (flatY root blobs).1) (fun o s => o = .ret (.tup []) ∧ s = hpF (ksB blobs) (txB blobs) 0 (S (flatY root blobs).1))) :
    Calc cx 18 [.str root, .sl st fl 1 (texts blobs)] (flatAV (flatT S root blobs)) :=
  pure_intro (fun a w => Tryz.call18 a w) Tryz.func18 rfl Tryz.ntmps18 rfl (flatAV_free _) fun B => by
    have htl : (texts blobs).length = blobs.length := by simp [texts]
    have hI := ContainsFuncS_ok (st := st) (fl := fl) blobs hbl
    have hD := digestIs_ok root hr
    unfold flatT
    have rt : ∀ e : Nat, e ≠ 0 → flatAV ([], e) = .tup [.nils, .int .i64 (e : Nat)] := fun e he => by unfold flatAV; rw [if_neg he]
    have rf : ∀ e : Int, Free true (.tup [.nils, .int .i64 e]) := fun e => .tup (by intro x hx; simp at hx; rcases hx with rfl | rfl; exact .nils; exact .int)
    by_cases hmany : 2000 < blobs.length
    · rw [if_pos (.inl hmany), rt 2 (by decide)]
      have e1 : decide ((((texts blobs).length : Nat) : Int) > 2000) = true := decide_eq_true (by omega)
      refine pB [.b true, .b true] rfl ?_
      exact S_retc (rf _) rfl trivial rfl
    have e1 : decide ((((texts blobs).length : Nat) : Int) > 2000) = false := decide_eq_false (by omega)
    cases hlg : longT blobs with
    | true =>
      rw [hlg] at hI
      rw [if_pos (.inr rfl), rt 2 (by decide)]
      refine pa [.b false, .v (.bool true), .b true] rfl ?_ ?_
      · (repeat' with_reducible apply AllP_cons) <;> try exact aC
        · exact ⟨_, hI, .cons (.refl (.sl (fun h => by cases h) (texts_any _))) (.cons (.refl (.func (fun x h => by cases h) (fun x h => by cases h))) (.nil _))⟩
      exact S_retc (rf _) rfl trivial rfl
    | false =>
      rw [hlg] at hI
      rw [if_neg (by simp; omega)]
      cases hdg : isDig root with
      | false =>
        rw [hdg] at hD
        rw [if_neg (by simp), rt 1 (by decide)]
        refine pa [.b false, .v (.bool false), .b false, .v (.bool false), .b true] rfl ?_ ?_
        · (repeat' with_reducible apply AllP_cons) <;> try exact aC
          · exact ⟨_, hI, .cons (.refl (.sl (fun h => by cases h) (texts_any _))) (.cons (.refl (.func (fun x h => by cases h) (fun x h => by cases h))) (.nil _))⟩
          · exact ⟨_, hD, .cons (.refl .str) (.nil _)⟩
        exact S_retc (rf _) rfl trivial rfl
      | true =>
        rw [hdg] at hD
        rw [if_pos rfl]
        refine pa [.b false, .v (.bool false), .b false, .v (.bool true), .b false, .f (.map 0 0) (fun _ => [(0, some (.map [] (some ([], 0))))])] rfl ?_ ?_
        · (repeat' with_reducible apply AllP_cons) <;> try exact aC
          · exact ⟨_, hI, .cons (.refl (.sl (fun h => by cases h) (texts_any _))) (.cons (.refl (.func (fun x h => by cases h) (fun x h => by cases h))) (.nil _))⟩
          · exact ⟨_, hD, .cons (.refl .str) (.nil _)⟩
          · exact OpSpec.mapN (C := []) rfl trivial
        refine S_unstamp (id := 0) rfl ?_ ⟨_, _, .inl rfl⟩
        refine S_ghost 3 ⟨false, none⟩ (id := 1) (j := 1) rfl rfl rfl (show (1 : Nat) ≠ 2 by decide) ⟨_, _, .inl rfl⟩ ?_
        refine S_while (α := Nat) (fun i => [(0, .str root), (6, .ptr 1 0 0), (23, .sl st fl 1 (texts blobs)), (24, .int .i64 (((texts blobs).length : Nat) : Int)), (25, .int .i64 (i : Nat))]) (fun i => hpT (ksB (blobs.take i)) (txB (blobs.take i)) 0 [] []) (fun i => i ≤ blobs.length) (fun i => blobs.length - i) 0
          (Nat.zero_le _) (.cons rfl (.cons rfl (.cons rfl (.cons rfl (.cons rfl (.nil _)))))) rfl ?_
        intro i hi
        have hi : i ≤ blobs.length := hi
        by_cases hlt : i < blobs.length
        · have e2 : decide ((i : Int) < (((texts blobs).length : Nat) : Int)) = true := decide_eq_true (by omega)
          have g1 : (texts blobs)[(i : Int).toNat]? = some (.str blobs[i]) := by rw [Int.toNat_natCast]; simp [texts, List.getElem?_eq_getElem hlt]
          have hbz : blobs[i].length ≤ 100000 := by
            unfold longT at hlg
            rw [List.any_eq_false] at hlg
            have := hlg _ (List.getElem_mem hlt)
            simpa using this
          have hS := Sum_ok blobs[i] (by omega)
          refine pa [.b true, .v (.str blobs[i]), .v (.str (sha blobs[i])), .f (.tup []) (fun σ => (0, mapBx (addK (ksB (blobs.take i)) (sha blobs[i])) (updF (fun d => .str (txB (blobs.take i) d)) (sha blobs[i]) (.str blobs[i]))) :: σ.tail), .s] rfl ?_ ?_
          · (repeat' with_reducible apply AllP_cons) <;> try exact aC
            · exact ⟨_, hS, .cons (.refl .str) (.nil _)⟩
            · exact OpSpec.mput (kt := 9) (et := 9) (ks := ksB (blobs.take i)) (val := fun d => .str (txB (blobs.take i) d)) (s := sha blobs[i]) rfl (Tryz.underlying59) rfl rfl rfl rfl rfl (addU_fold_nodup sha _ [] .nil) rfl
          refine S_heap (hpT (ksB (blobs.take (i + 1))) (txB (blobs.take (i + 1))) 0 [] []) ?_ ?_
          · rw [mapB_step hlt]; rfl
          refine pB [] rfl ?_
          exact S_round (i + 1) (by show blobs.length - (i + 1) < blobs.length - i; omega) hlt (.cons rfl (.cons rfl (.cons rfl (.cons rfl (.cons (nX (by omega)) (.nil _)))))) rfl
        · have hil : i = blobs.length := by omega
          subst hil
          have e2 : decide ((blobs.length : Int) < (((texts blobs).length : Nat) : Int)) = false := decide_eq_false (by omega)
          rw [List.take_length]
          have hdir := dir_ok (ksB blobs) (txB blobs) (fun d _ => txB_len hlg d) 0 102 root [] [] (by decide) (by decide) (by decide)
          have hfl := flatD_len (getM (ksB blobs) (txB blobs)) 102 root [] [] (by decide)
          change CallOk _ _ _ _ (fun o s => o = .ret (.int .i64 ((flatY root blobs).2 : Nat)) ∧ s = hpF (ksB blobs) (txB blobs) 0 (flatY root blobs).1) at hdir
          change (flatY root blobs).1.length ≤ 60 ∧ _ at hfl
          generalize flatY root blobs = y at *
          obtain ⟨out, e⟩ := y
          by_cases he : e = 0
          · subst he
            rw [if_pos rfl]
            have hso := hsort rfl
            have hSl := hS0 out
            have hcl := cels_len (S out)
            simp only at hso hdir hfl
            refine pB [.b false, .f (.int .i64 ((0 : Nat) : Int)) (fun _ => hpT (ksB blobs) (txB blobs) 0 out []), .b false, .f (.tup []) (fun _ => hpT (ksB blobs) (txB blobs) 0 (S out) [])] rfl ?_
            refine S_ret ⟨_, _, rfl, trivial, _, rfl, ?_⟩
            show Frz true _ (.tup [.ms 2 (0 + (S out).length) 0 (S out).length 3 false, .int .i64 0]) (.tup [.sl true false 3 (fils (S out)), .int .i64 0])
            exact Fzs.tup (.cons (.ms rfl (by show 0 + (S out).length * 3 ≤ (celsF (S out)).length; omega) (by rw [List.drop_zero]; exact List.take_of_length_le (by omega)) (fil_size _) (fils_len _) (fils_free _)) (.cons (.refl .int) .nil))
          · rw [if_neg he, rt e he]
            refine pa [.b false, .f (.int .i64 (e : Nat)) (fun _ => hpT (ksB blobs) (txB blobs) 0 out []), .b true] rfl ?_ ?_
            · (repeat' with_reducible apply AllP_cons) <;> try exact aC
              · show ((((e : Int)) != 0) = true)
                rw [chk_bne]; simpa using he
            exact S_retc (rf _) rfl trivial rfl
end Go.Proofs.YtpehmhlgldbeoaaGreatDoor
end
section
set_option linter.unusedVariables false
set_option linter.unusedSimpArgs false
set_option maxRecDepth 20000
set_option maxHeartbeats 4000000
namespace Go.Proofs.YtpehmhlgldbeoaaGreatDoor
open Go Go.Ab
def h1T : List UInt8 := [50, 100, 55, 49, 49, 54, 52, 50, 98, 55, 50, 54, 98, 48, 52, 52, 48, 49, 54, 50, 55, 99, 97, 57, 102, 98, 97, 99, 51, 50, 102, 53, 99, 56, 53, 51, 48, 102, 98, 49, 57, 48, 51, 99, 99, 52, 100, 98, 48, 50, 50, 53, 56, 55, 49, 55, 57, 50, 49, 97, 52, 56, 56, 49]
def t1T : List UInt8 := [1, 1, 98, 1, 64, 50, 100, 55, 49, 49, 54, 52, 50, 98, 55, 50, 54, 98, 48, 52, 52, 48, 49, 54, 50, 55, 99, 97, 57, 102, 98, 97, 99, 51, 50, 102, 53, 99, 56, 53, 51, 48, 102, 98, 49, 57, 48, 51, 99, 99, 52, 100, 98, 48, 50, 50, 53, 56, 55, 49, 55, 57, 50, 49, 97, 52, 56, 56, 49]
def h2T : List UInt8 := [100, 56, 98, 99, 99, 98, 53, 99, 97, 99, 48, 101, 52, 50, 49, 101, 97, 52, 101, 49, 55, 99, 50, 49, 50, 49, 102, 51, 56, 55, 52, 51, 48, 57, 102, 98, 51, 101, 51, 100, 48, 50, 48, 53, 52, 97, 48, 54, 48, 101, 102, 50, 101, 48, 48, 49, 99, 56, 53, 97, 53, 99, 48, 99]
def t2T : List UInt8 := [1, 1, 97, 3, 64, 100, 56, 98, 99, 99, 98, 53, 99, 97, 99, 48, 101, 52, 50, 49, 101, 97, 52, 101, 49, 55, 99, 50, 49, 50, 49, 102, 51, 56, 55, 52, 51, 48, 57, 102, 98, 51, 101, 51, 100, 48, 50, 48, 53, 52, 97, 48, 54, 48, 101, 102, 50, 101, 48, 48, 49, 99, 56, 53, 97, 53, 99, 48, 99]
def h3T : List UInt8 := [48, 54, 55, 52, 52, 101, 54, 57, 101, 102, 98, 53, 56, 53, 102, 48, 50, 54, 48, 51, 98, 101, 52, 48, 57, 102, 56, 98, 101, 55, 51, 100, 50, 54, 51, 53, 50, 55, 56, 51, 50, 102, 55, 52, 54, 55, 50, 97, 51, 55, 57, 98, 53, 101, 52, 101, 55, 101, 102, 49, 50, 50, 99, 98]
def l0T : List Fil := [⟨[97, 47, 98], [120], false⟩]
theorem sha1T : sha [120] = h1T := by decide +kernel
theorem sha2T : sha t1T = h2T := by decide +kernel
theorem sha3T : sha t2T = h3T := by decide +kernel
theorem pk1T : packNs [⟨[98], 1, h1T⟩] = t1T := by decide +kernel
theorem pk2T : packNs [⟨[97], 3, h2T⟩] = t2T := by decide +kernel
theorem rd1T : readNd t1T = ([⟨[98], 1, h1T⟩], 0) := by kernel_rfl
theorem rd2T : readNd t2T = ([⟨[97], 3, h2T⟩], 0) := by kernel_rfl
theorem chk0T : chkT l0T = 0 := by decide +kernel
theorem sort_one (n : List UInt8) : sortT [n] = [n] := by unfold sortT; rw [List.mergeSort_singleton]
theorem dir0T : dirT 101 l0T = (t2T, [[120], t1T]) := by
  have a1 : nmsT l0T = [[97]] := by decide +kernel
  have a2 : grT l0T [97] = [⟨[98], [120], false⟩] := by decide +kernel
  have a3 : nmsT [⟨[98], [120], false⟩] = [[98]] := by decide +kernel
  have a4 : grT [⟨[98], [120], false⟩] [98] = [⟨[], [120], false⟩] := by decide +kernel
  have e1 : dirT 100 [⟨[98], [120], false⟩] = (t1T, [[120]]) := by
    rw [dirT, a3, sort_one]
    unfold nodsT blbsT
    simp only [List.map_cons, List.map_nil, List.flatMap_cons, List.flatMap_nil, List.append_nil, a4, entT, if_pos, sha1T]
    exact Prod.ext pk1T rfl
  rw [dirT, a1, sort_one]
  unfold nodsT blbsT
  simp only [List.map_cons, List.map_nil, List.flatMap_cons, List.flatMap_nil, List.append_nil, a2, entT, e1]
  rw [if_neg (by decide), sha2T]
  exact Prod.ext pk2T rfl
theorem root0T : rootT l0T = h3T := by unfold rootT; rw [dir0T]; exact sha3T
theorem blob0T : blobT l0T = [t2T, t1T, [120]] := by
  unfold blobT
  rw [dir0T]
  have : addU ([[120], t1T].foldl addU []) t2T = [[120], t1T, t2T] := by decide +kernel
  show sortT (addU ([[120], t1T].foldl addU []) t2T) = _
  rw [this]
  refine perm_sorted ((sortT_perm _).trans ?_) (sortT_pw _) ?_
  · exact (List.reverse_perm [[120], t1T, t2T]).symm
  · decide +kernel
theorem ks0T : ksB [t2T, t1T, [120]] = [h3T, h2T, h1T] := by
  unfold ksB
  simp only [List.foldl_cons, List.foldl_nil, sha1T, sha2T, sha3T]
  decide +kernel
theorem tx3T : txB [t2T, t1T, [120]] h3T = t2T := by
  have b1 : (h1T == h3T) = false := by decide +kernel
  have b2 : (h2T == h3T) = false := by decide +kernel
  have b3 : (h3T == h3T) = true := by decide +kernel
  unfold txB
  simp only [List.reverse_cons, List.reverse_nil, List.nil_append, List.cons_append, List.find?_cons, sha1T, sha2T, sha3T, b1, b2, b3]
  rfl
theorem tx2T : txB [t2T, t1T, [120]] h2T = t1T := by
  have b1 : (h1T == h2T) = false := by decide +kernel
  have b2 : (h2T == h2T) = true := by decide +kernel
  unfold txB
  simp only [List.reverse_cons, List.reverse_nil, List.nil_append, List.cons_append, List.find?_cons, sha1T, sha2T, sha3T, b1, b2]
  rfl
theorem tx1T : txB [t2T, t1T, [120]] h1T = [120] := by
  have b1 : (h1T == h1T) = true := by decide +kernel
  unfold txB
  simp only [List.reverse_cons, List.reverse_nil, List.nil_append, List.cons_append, List.find?_cons, sha1T, b1]
  rfl
theorem flat0T : flatY h3T [t2T, t1T, [120]] = (l0T, 0) := by
  have g3 : getM (ksB [t2T, t1T, [120]]) (txB [t2T, t1T, [120]]) h3T = some t2T := by unfold getM; rw [ks0T, if_pos (by simp), tx3T]
  have g2 : getM (ksB [t2T, t1T, [120]]) (txB [t2T, t1T, [120]]) h2T = some t1T := by unfold getM; rw [ks0T, if_pos (by simp), tx2T]
  have g1 : getM (ksB [t2T, t1T, [120]]) (txB [t2T, t1T, [120]]) h1T = some [120] := by unfold getM; rw [ks0T, if_pos (by simp), tx1T]
  unfold flatY
  generalize getM (ksB [t2T, t1T, [120]]) (txB [t2T, t1T, [120]]) = get at *
  have e1 : flatD get 101 h2T [97, 47] [] = (l0T, 0) := by
    rw [flatD, g2]
    simp only [rd1T]
    rw [if_neg (by decide), if_neg (by simp), flatN]
    rw [if_neg (by decide), if_neg (by decide)]
    simp only [g1]
    rw [if_neg (by decide), flatN]; rfl
  rw [flatD, g3]
  simp only [rd2T]
  rw [if_neg (by decide), if_neg (by simp), flatN]
  rw [if_neg (by decide), if_pos rfl]
  show (if (flatD get 101 h2T [97, 47] []).2 = 0 then _ else _) = _
  rw [e1, if_pos rfl, flatN]
  show ((flatD get 101 h2T [97, 47] []).1, 0) = _
  rw [e1]
theorem treeBegun_ok : Calc cx 15 [] (.bool true) :=
  pure_intro (fun a w => Tryz.call15 a w) Tryz.func15 rfl Tryz.ntmps15 rfl .bool fun B => by
    have hl0 : FilsOk l0T := ⟨by decide, by intro f hf; simp [l0T] at hf; subst hf; decide, by intro f hf; simp [l0T] at hf; subst hf; decide⟩
    have hB := Blobs_ok (st := true) (fl := true) l0T hl0
    have hR := Root_ok (st := true) (fl := true) l0T hl0
    have hF := Flat_gen (st := true) (fl := false) id h3T [t2T, t1T, [120]] (by decide) (by decide) (fun _ => rfl) (fun _ => by
      rw [flat0T]
      exact Sort1_ok (ksB [t2T, t1T, [120]]) (txB [t2T, t1T, [120]]) 0 ⟨[97, 47, 98], [120], false⟩)
    have hS := SameFiles_ok (st := true) (st' := true) (fl := true) (fl' := false) l0T l0T (by decide) (by decide)
    rw [decide_eq_true rfl] at hS
    unfold blobAV at hB
    unfold rootAV at hR
    rw [chk0T, if_pos rfl, blob0T] at hB
    rw [chk0T, if_pos rfl, root0T] at hR
    have hft : flatT id h3T [t2T, t1T, [120]] = (l0T, 0) := by
      unfold flatT
      rw [if_neg (by decide +kernel), if_pos (by decide +kernel), flat0T, if_pos rfl]; rfl
    rw [hft] at hF
    refine pa [.v (.tup [.sl true false 1 (texts [t2T, t1T, [120]]), .int .i64 ((0 : Nat) : Int)]), .v (.tup [.str h3T, .int .i64 ((0 : Nat) : Int)]), .v (.tup [.sl true false 3 (fils l0T), .int .i64 ((0 : Nat) : Int)]), .b true, .b true, .b true, .v (.bool true)] rfl ?_ ?_
    · (repeat' with_reducible apply AllP_cons) <;> try exact aC
      · exact ⟨_, hB, .cons (.refl (.sl (fun _ => rfl) (fils_free l0T))) (.nil _)⟩
      · exact ⟨_, hR, .cons (.refl (.sl (fun _ => rfl) (fils_free l0T))) (.nil _)⟩
      · exact ⟨_, hF, .cons (.refl .str) (.cons (.refl (.sl (fun _ => rfl) (texts_any _))) (.nil _))⟩
      · exact ⟨_, hS, .cons (.refl (.sl (fun _ => rfl) (fils_free l0T))) (.cons (.refl (.sl (fun _ => rfl) (fils_free l0T))) (.nil _))⟩
    exact S_retc .bool rfl trivial rfl
end Go.Proofs.YtpehmhlgldbeoaaGreatDoor
end
section
set_option linter.unusedVariables false
set_option linter.unusedSimpArgs false
namespace Go.Ab
open Go Go.WideShapes
def laidB (P : Program) : List Field → Nat → Option Nat
  | [], o => some o
  | f :: r, o => match Nat.beq f.offset o with
    | true => laidB P r (o + P.cellsOf f.type)
    | false => none
mutual
def plainB (P : Program) : Nat → TypeId → Bool
  | 0, _ => false
  | n + 1, t => match P.underlying t with
    | some .bool => Nat.beq (P.cellsOf t) 1
    | some (.int _) => Nat.beq (P.cellsOf t) 1
    | some .string => Nat.beq (P.cellsOf t) 1
    | some (.slice e) => match Nat.beq (P.cellsOf t) 1, Nat.beq (P.cellsOf e) 0 with
      | true, false => plainB P n e
      | _, _ => false
    | some (.struct fs) => match laidB P fs.toList 0 with
      | some m => match Nat.beq (P.cellsOf t) m with
        | true => plainAll P n fs.toList
        | false => false
      | none => false
    | _ => false
def plainAll (P : Program) : Nat → List Field → Bool
  | 0, _ => false
  | n + 1, fs => match fs with
    | [] => true
    | f :: r => match plainB P n f.type with
      | true => plainAll P n r
      | false => false
end
inductive RdD (P : Program) {H : Type} : TypeId → DataW H → AV → Prop
  | bool {t b} (ht : P.underlying t = some .bool) : RdD P t (.lit (.bool b)) (.bool b)
  | int {t k n} (ht : P.underlying t = some (.int k)) (hw : (Lit.int k n).wf = true) : RdD P t (.lit (.int k n)) (.int k n)
  | str {t s} (ht : P.underlying t = some .string) (hs : s.length ≤ maxLen) : RdD P t (.lit (.string s)) (.str s)
  | nils {t e} (ht : P.underlying t = some (.slice e)) : RdD P t .nil (.sl true false (P.cellsOf e) [])
  | sl {t e} {ds rest : List (DataW H)} {xs : List AV} (ht : P.underlying t = some (.slice e)) (hl : xs.length = ds.length) (hm : xs.length ≤ maxLen) (h : ∀ i (h1 : i < ds.length) (h2 : i < xs.length), RdD P e ds[i] xs[i]) : RdD P t (.slice ds rest) (.sl true false (P.cellsOf e) xs)
  | st {t} {fs : Array Field} {ds : List (DataW H)} {xs : List AV} (ht : P.underlying t = some (.struct fs)) (hd : ds.length = fs.size) (hx : xs.length = fs.size) (h : ∀ i (h1 : i < ds.length) (h2 : i < xs.length) (h3 : i < fs.size), RdD P fs[i].type ds[i] xs[i]) : RdD P t (.agg ds) (.agg (xs.flatMap AV.cells))
def CellsV (w : World) (cs : List Value) (az : List AV) : Prop := cs.length = az.length ∧ ∀ i (h1 : i < cs.length) (h2 : i < az.length), VRel (Rl.old w) w cs[i] az[i]
theorem CellsV.one {w : World} {v : Value} {a : AV} (h : VRel (Rl.old w) w v a) : CellsV w [v] [a] := by
  refine ⟨rfl, fun i h1 h2 => ?_⟩
  obtain rfl : i = 0 := by simpa using h1
  exact h
theorem laidB_flat {P : Program} : ∀ (fs : List Field) (o m : Nat) (w : World) (cs : List Value) (xs : List AV), laidB P fs o = some m → xs.length = fs.length → (∀ i (h1 : i < fs.length) (h2 : i < xs.length), CellsV w ((cs.drop fs[i].offset).take (P.cellsOf fs[i].type)) xs[i].cells ∧ xs[i].cells.length = P.cellsOf fs[i].type) →
    cs.length = m → o ≤ m ∧ CellsV w (cs.drop o) (xs.flatMap AV.cells)
  | [], o, m, w, cs, xs, h, hl, hc, hm => by
    simp only [laidB, Option.some.injEq] at h
    obtain rfl : xs = [] := List.eq_nil_of_length_eq_zero hl
    subst h
    refine ⟨Nat.le_refl _, ?_⟩
    rw [List.drop_of_length_le (by omega)]
    exact ⟨rfl, fun i h => absurd h (by simp)⟩
  | f :: r, o, m, w, cs, xs, h, hl, hc, hm => by
    rw [laidB] at h
    split at h
    case h_2 => cases h
    rename_i hb
    have ho := Nat.eq_of_beq_eq_true hb
    obtain ⟨x, xs, rfl⟩ : ∃ x xs', xs = x :: xs' := by
      cases xs with
      | nil => simp at hl
      | cons x xs => exact ⟨x, xs, rfl⟩
    have h0 := hc 0 (by simp) (by simp)
    simp only [List.getElem_cons_zero] at h0
    obtain ⟨h1, h2⟩ := laidB_flat r (o + P.cellsOf f.type) m w cs xs h (by simpa using hl) (fun i k1 k2 => hc (i + 1) (Nat.succ_lt_succ k1) (Nat.succ_lt_succ k2)) hm
    refine ⟨by omega, ?_⟩
    obtain ⟨⟨e1, e2⟩, e3⟩ := h0
    rw [ho] at e1 e2
    rw [List.flatMap_cons]
    have hsplit : cs.drop o = (cs.drop o).take (P.cellsOf f.type) ++ cs.drop (o + P.cellsOf f.type) := by
      rw [← List.drop_drop, List.take_append_drop]
    rw [hsplit]
    refine ⟨by rw [List.length_append, List.length_append, e1, h2.1], fun i k1 k2 => ?_⟩
    by_cases hi : i < x.cells.length
    · rw [List.getElem_append_left (by omega), List.getElem_append_left hi]
      exact e2 i (by omega) hi
    · rw [List.getElem_append_right (by omega), List.getElem_append_right (by omega)]
      have : i - ((cs.drop o).take (P.cellsOf f.type)).length = i - x.cells.length := by omega
      simp only [this]
      exact h2.2 _ _ _
theorem read_cells {H : Type} {enc : TypeId × Value → H} {P : Program} {W : World} : ∀ (fuel n : Nat) (t : TypeId) (cs : List Value) (d : DataW H) (ps : List MemPlace), DataW.trod enc P W 0 (fun _ => true) true fuel t cs = some (d, ps) → plainB P n t = true →
    ∃ a, RdD P t d a ∧ a.cells.length = P.cellsOf t ∧ CellsV W cs a.cells ∧ (∀ v, (∃ xs, v = .agg xs ∧ xs.toList = cs ∧ aggT P t = some true) ∨ ([v] = cs ∧ aggT P t = some false) → VRel (Rl.old W) W v a) := by
  intro fuel
  induction fuel with
  | zero => intro n t cs d ps h _; simp [DataW.trod] at h
  | succ fuel ih =>
    intro n t cs d ps h hp
    have hall : ∀ (n : Nat) (fs : List Field), plainAll P n fs = true → ∀ i (hi : i < fs.length), ∃ m, plainB P m fs[i].type = true := by
      intro n
      induction n with
      | zero => intro fs h; simp [plainAll] at h
      | succ n ihn =>
        intro fs h i hi
        cases fs with
        | nil => simp at hi
        | cons f r =>
          rw [plainAll] at h
          split at h
          · rename_i hb
            cases i with
            | zero => exact ⟨n, hb⟩
            | succ i => exact ihn r h i (by simpa using hi)
          · cases h
    cases n with
    | zero => simp [plainB] at hp
    | succ n =>
      rw [plainB] at hp
      split at hp
      ·
        rename_i ht
        obtain ⟨b, rfl, hx⟩ := DataW.trod_bool ht h
        cases hx
        refine ⟨.bool b, .bool ht, (Nat.eq_of_beq_eq_true hp).symm, .one .bool, ?_⟩
        rintro v (⟨xs, rfl, h1, h2⟩ | ⟨h1, h2⟩)
        · simp [aggT, ht] at h2
        · cases h1; exact .bool
      · rename_i k ht
        obtain ⟨m, rfl, hx, hw⟩ := DataW.trod_int ht h
        cases hx
        refine ⟨.int _ m, .int ht hw, (Nat.eq_of_beq_eq_true hp).symm, .one .int, ?_⟩
        rintro v (⟨xs, rfl, h1, h2⟩ | ⟨h1, h2⟩)
        · simp [aggT, ht] at h2
        · cases h1; exact .int
      · rename_i ht
        obtain ⟨s, rfl, hx, hw⟩ := DataW.trod_string ht h
        cases hx
        refine ⟨.str s.data.toList, .str ht (by rw [Array.length_toList]; exact hw), (Nat.eq_of_beq_eq_true hp).symm, .one (.str rfl), ?_⟩
        rintro v (⟨xs, rfl, h1, h2⟩ | ⟨h1, h2⟩)
        · simp [aggT, ht] at h2
        · cases h1; exact .str rfl
      ·
        rename_i e ht
        split at hp
        case h_2 => cases hp
        rename_i hc1 hc0
        have hc1 := Nat.eq_of_beq_eq_true hc1
        have hpos : 0 < P.cellsOf e := by
          rcases Nat.eq_zero_or_pos (P.cellsOf e) with h0 | h0
          · rw [h0] at hc0; cases hc0
          · exact h0
        rcases DataW.trod_slice ht h with ⟨rfl, hx⟩ | ⟨a, len, cap, elems, rest, fu, hfu, rfl, hx, _, hl, hm, hlen, hel, hsp, hns⟩
        · cases hx
          refine ⟨_, .nils ht, hc1.symm, .one (.sl0 (fun h => by cases h)), ?_⟩
          rintro v (⟨xs, rfl, h1, h2⟩ | ⟨h1, h2⟩)
          · simp [aggT, ht] at h2
          · cases h1; exact .sl0 (fun h => by cases h)
        · cases hx
          obtain rfl : fuel = fu := by omega
          have each : ∀ i (hi : i < elems.length), ∃ x, RdD P e (elems[i]).1 x ∧ x.cells.length = P.cellsOf e ∧ ∃ ecs : List Value, W.cells? 0 (a.add (i * P.cellsOf e)) (P.cellsOf e) = some ecs ∧ CellsV W ecs x.cells := by
            intro i hi
            have h1 := hel i (by omega)
            rw [List.getElem?_eq_getElem hi, Option.bind_eq_some_iff] at h1
            obtain ⟨ecs, h2, h3⟩ := h1
            obtain ⟨x, k1, k2, k3, _⟩ := ih n e ecs (elems[i]).1 (elems[i]).2 h3 hp
            exact ⟨x, k1, k2, ecs, h2, k3⟩
          have : ∃ xs : List AV, xs.length = elems.length ∧ ∀ i (hi : i < elems.length) (hx : i < xs.length), RdD P e (elems[i]).1 xs[i] ∧ xs[i].cells.length = P.cellsOf e ∧ ∃ ecs : List Value, W.cells? 0 (a.add (i * P.cellsOf e)) (P.cellsOf e) = some ecs ∧ CellsV W ecs xs[i].cells := by
            refine ⟨(List.finRange elems.length).map fun i => Classical.choose (each i.1 i.2), by simp, fun i hi hx => ?_⟩
            simp only [List.getElem_map, List.getElem_finRange]
            exact Classical.choose_spec (each i hi)
          obtain ⟨xs, hxl, hxs⟩ := this
          have hv : VRel (Rl.old W) W (.slice (some a) len cap) (.sl true false (P.cellsOf e) xs) := by
            rcases Nat.eq_zero_or_pos len with h0 | h0
            · subst h0
              obtain rfl : xs = [] := List.eq_nil_of_length_eq_zero (by omega)
              exact .sl0 (fun h => by cases h)
            · obtain ⟨b, o, sp⟩ := a
              obtain ⟨_, _, ecs0, hc, _⟩ := hxs 0 (by omega) (by omega)
              obtain ⟨_, hcl, hcc⟩ := World.cells?_some hc
              have hcell0 := hcc 0 hpos
              rw [List.getElem?_eq_getElem (by omega)] at hcell0
              have hsp : sp = none := by
                cases sp with
                | none => rfl
                | some s =>
                  simp [Addr.add, World.cell?] at hcell0
                  split at hcell0 <;> cases hcell0
              subst hsp
              have hb : b < W.heap.size := by
                rw [Addr.add_lit] at hcell0
                rcases Nat.lt_or_ge b W.heap.size with h | h
                · exact h
                · simp [World.cell?, Addr.add, Array.getElem?_eq_none h] at hcell0
              have hcel : ∀ i, i < xs.length → ∀ j, j < P.cellsOf e → ∃ v, W.cell? ⟨b, o + i * P.cellsOf e + j, none⟩ = some v ∧ ∀ (hi : i < xs.length) (hj : j < (AV.cells xs[i]).length), VRel (Rl.old W) W v (AV.cells xs[i])[j] := by
                intro i hi j hj
                obtain ⟨_, hxc, ecs, hc, hcv⟩ := hxs i (by omega) hi
                obtain ⟨_, hcl, hcc⟩ := World.cells?_some hc
                have h1 := hcc j hj
                rw [List.getElem?_eq_getElem (by omega)] at h1
                rw [Addr.add_lit, Addr.add_lit] at h1
                refine ⟨ecs[j], h1, fun _ hj' => hcv.2 j _ hj'⟩
              refine .sl (by omega) hl (fun h => by cases h) hb (fun _ => hb) (fun x hx => ?_) (fun i j => (W.cell? ⟨b, o + i * P.cellsOf e + j, none⟩).getD undef) (fun i hi j hj => ?_) (fun i hi j hj => ?_)
              · obtain ⟨i, hi, rfl⟩ := List.getElem_of_mem hx
                exact (hxs i (by omega) hi).2.1
              · obtain ⟨v, h1, _⟩ := hcel i hi j hj
                rw [h1]; rfl
              · obtain ⟨v, h1, h2⟩ := hcel i hi j (by rw [(hxs i (by omega) hi).2.1] at hj; exact hj)
                rw [h1]
                exact h2 hi hj
          refine ⟨.sl true false (P.cellsOf e) xs, .sl ht (by simp [hxl]) (by omega) (fun i h1 h2 => by simpa using (hxs i (by simpa using h1) h2).1), hc1.symm, .one hv, ?_⟩
          rintro v (⟨ys, rfl, h1, h2⟩ | ⟨h1, h2⟩)
          · simp [aggT, ht] at h2
          · cases h1; exact hv
      ·
        rename_i fs ht
        split at hp
        case h_2 => cases hp
        rename_i m hm
        split at hp
        case h_2 => cases hp
        rename_i hcm
        have hcm := Nat.eq_of_beq_eq_true hcm
        obtain ⟨ys, fu, hfu, hx, hl, hyl, hy⟩ := DataW.trod_struct ht h
        obtain rfl : fuel = fu := by omega
        cases hx
        have each : ∀ i (hi : i < fs.toList.length) (hi' : i < ys.length), ∃ x, RdD P (fs.toList[i]).type (ys[i]).1 x ∧ x.cells.length = P.cellsOf (fs.toList[i]).type ∧ CellsV W ((cs.drop (fs.toList[i]).offset).take (P.cellsOf (fs.toList[i]).type)) x.cells := by
          intro i hi hi'
          have h1 := hy i (fs.toList[i]) (by simp at hi; simp [hi])
          rw [List.getElem?_eq_getElem hi'] at h1
          obtain ⟨k, hk⟩ := hall n fs.toList hp i hi
          obtain ⟨x, k1, k2, k3, _⟩ := ih k _ _ (ys[i]).1 (ys[i]).2 h1 hk
          exact ⟨x, k1, k2, k3⟩
        have hfl : fs.toList.length = ys.length := by simp [hyl]
        have : ∃ xs : List AV, xs.length = fs.toList.length ∧ ∀ i (hi : i < fs.toList.length) (hi' : i < ys.length) (hx : i < xs.length), RdD P (fs.toList[i]).type (ys[i]).1 xs[i] ∧ xs[i].cells.length = P.cellsOf (fs.toList[i]).type ∧ CellsV W ((cs.drop (fs.toList[i]).offset).take (P.cellsOf (fs.toList[i]).type)) xs[i].cells := by
          refine ⟨(List.finRange fs.toList.length).map fun i => Classical.choose (each i.1 i.2 (by omega)), by simp, fun i hi hi' hx => ?_⟩
          simp only [List.getElem_map, List.getElem_finRange]
          exact Classical.choose_spec (each i hi hi')
        obtain ⟨xs, hxl, hxs⟩ := this
        obtain ⟨_, hcv⟩ := laidB_flat fs.toList 0 m W cs xs hm hxl (fun i h1 h2 => ⟨(hxs i h1 (by omega) h2).2.2, (hxs i h1 (by omega) h2).2.1⟩) (by omega)
        rw [List.drop_zero] at hcv
        refine ⟨.agg (xs.flatMap AV.cells), .st ht (by simp [hyl]) (by simpa using hxl) (fun i h1 h2 h3 => by
          have := (hxs i (by simpa using h3) (by simpa using h1) h2).1
          simp only [Array.getElem_toList, List.getElem_map] at this ⊢
          exact this), by show (xs.flatMap AV.cells).length = _; rw [← hcv.1]; omega, hcv, ?_⟩
        rintro v (⟨zs, rfl, h1, h2⟩ | ⟨h1, h2⟩)
        · refine .agg (by rw [← hcv.1, ← h1]; simp) (fun i hi => ?_)
          have h3 : i < cs.length := by rw [hcv.1]; exact hi
          have := hcv.2 i h3 hi
          subst h1
          rw [Array.getD_eq_getD_getElem?, Array.getElem?_eq_getElem (by simpa using h3)]
          simpa using this
        · simp [aggT, ht] at h2
      · cases hp
theorem read_plain {H : Type} {enc : TypeId × Value → H} {P : Program} {W : World} {r : Reach} {base : Nat} {n : Nat} {t : TypeId} {v : Value} {d : DataW H} {ps : List MemPlace} (hp : plainB P n t = true) (hv : Value.okWide P W r base t v)
    (h : DataW.Trod enc P W 0 (fun _ => true) true t v d ps) : ∃ a, VRel (Rl.old W) W v a ∧ RdD P t d a := by
  obtain ⟨fuel, hf⟩ := h
  obtain ⟨a, h1, _, _, h2⟩ := read_cells fuel n t _ d ps hf hp
  refine ⟨a, h2 v ?_, h1⟩
  cases n with
  | zero => simp [plainB] at hp
  | succ n =>
    rw [plainB] at hp
    split at hp
    · rename_i ht
      obtain ⟨b, rfl⟩ := okWide_bool ht hv
      exact .inr ⟨rfl, by simp [aggT, ht]⟩
    · rename_i k ht
      obtain ⟨b, rfl⟩ := okWide_int ht hv
      exact .inr ⟨rfl, by simp [aggT, ht]⟩
    · rename_i ht
      obtain ⟨b, rfl⟩ := okWide_string ht hv
      exact .inr ⟨rfl, by simp [aggT, ht]⟩
    · rename_i e ht
      obtain ⟨a, len, cap, rfl⟩ := okWide_slice ht hv
      exact .inr ⟨rfl, by simp [aggT, ht]⟩
    · rename_i fs ht
      obtain ⟨cs, rfl, _⟩ := okWide_struct ht hv
      exact .inl ⟨cs, rfl, rfl, by simp [aggT, ht]⟩
    · cases hp
def RdDAll (P : Program) {H : Type} : List Field → List (DataW H) → List AV → Prop
  | [], [], [] => True
  | f :: fs, d :: ds, x :: xs => RdD P f.type d x ∧ RdDAll P fs ds xs
  | _, _, _ => False
theorem RdDAll.of {P : Program} {H : Type} : ∀ {fs : List Field} {ds : List (DataW H)} {xs : List AV}, ds.length = fs.length → xs.length = fs.length → (∀ i (h1 : i < ds.length) (h2 : i < xs.length) (h3 : i < fs.length), RdD P fs[i].type ds[i] xs[i]) → RdDAll P fs ds xs
  | [], ds, xs, h1, h2, _ => by
    obtain rfl : ds = [] := List.eq_nil_of_length_eq_zero h1
    obtain rfl : xs = [] := List.eq_nil_of_length_eq_zero h2
    trivial
  | f :: fs, ds, xs, h1, h2, h => by
    cases ds with
    | nil => simp at h1
    | cons d ds =>
      cases xs with
      | nil => simp at h2
      | cons x xs =>
        exact ⟨h 0 (by simp) (by simp) (by simp), RdDAll.of (by simpa using h1) (by simpa using h2) (fun i k1 k2 k3 => h (i + 1) (Nat.succ_lt_succ k1) (Nat.succ_lt_succ k2) (Nat.succ_lt_succ k3))⟩
theorem RdDAll.cons {P : Program} {H : Type} {f : Field} {fs : List Field} {ds : List (DataW H)} {xs : List AV} (h : RdDAll P (f :: fs) ds xs) : ∃ d ds' x xs', ds = d :: ds' ∧ xs = x :: xs' ∧ RdD P f.type d x ∧ RdDAll P fs ds' xs' := by
  match ds, xs, h with
  | d :: ds', x :: xs', ⟨h1, h2⟩ => exact ⟨d, ds', x, xs', rfl, rfl, h1, h2⟩
theorem RdDAll.nil {P : Program} {H : Type} {ds : List (DataW H)} {xs : List AV} (h : RdDAll P [] ds xs) : ds = [] ∧ xs = [] := by
  match ds, xs, h with
  | [], [], _ => exact ⟨rfl, rfl⟩
section
variable {P : Program} {H : Type} {t : TypeId} {d : DataW H} {a : AV}
theorem RdD.inv_st {fs : Array Field} (h : RdD P t d a) (ht : P.underlying t = some (.struct fs)) : ∃ ds xs, d = .agg ds ∧ a = .agg (xs.flatMap AV.cells) ∧ RdDAll P fs.toList ds xs := by
  cases h with
  | st ht' hd hx h =>
    rw [ht] at ht'
    cases ht'
    exact ⟨_, _, rfl, rfl, .of (by simpa using hd) (by simpa using hx) (fun i h1 h2 h3 => by simpa using h i h1 h2 (by simpa using h3))⟩
  | bool ht' => rw [ht] at ht'; cases ht'
  | str ht' => rw [ht] at ht'; cases ht'
  | int ht' => rw [ht] at ht'; cases ht'
  | nils ht' => rw [ht] at ht'; cases ht'
  | sl ht' => rw [ht] at ht'; cases ht'
theorem RdD.inv_str (h : RdD P t d a) (ht : P.underlying t = some .string) : ∃ s, d = .lit (.string s) ∧ a = .str s ∧ s.length ≤ maxLen := by
  cases h with
  | str ht' hs => exact ⟨_, rfl, rfl, hs⟩
  | bool ht' => rw [ht] at ht'; cases ht'
  | int ht' => rw [ht] at ht'; cases ht'
  | nils ht' => rw [ht] at ht'; cases ht'
  | sl ht' => rw [ht] at ht'; cases ht'
  | st ht' => rw [ht] at ht'; cases ht'
theorem RdD.inv_bool (h : RdD P t d a) (ht : P.underlying t = some .bool) : ∃ b, d = .lit (.bool b) ∧ a = .bool b := by
  cases h with
  | bool ht' => exact ⟨_, rfl, rfl⟩
  | int ht' => rw [ht] at ht'; cases ht'
  | str ht' => rw [ht] at ht'; cases ht'
  | nils ht' => rw [ht] at ht'; cases ht'
  | sl ht' => rw [ht] at ht'; cases ht'
  | st ht' => rw [ht] at ht'; cases ht'
theorem RdD.inv_sl {e : TypeId} (h : RdD P t d a) (ht : P.underlying t = some (.slice e)) :
    ∃ (ds : List (DataW H)) (xs : List AV), a = .sl true false (P.cellsOf e) xs ∧ xs.length = ds.length ∧ xs.length ≤ maxLen ∧ (∀ i (h1 : i < ds.length) (h2 : i < xs.length), RdD P e ds[i] xs[i]) ∧ ((d = .nil ∧ ds = []) ∨ ∃ rest, d = .slice ds rest) := by
  cases h with
  | nils ht' => rw [ht] at ht'; cases ht'; exact ⟨[], [], rfl, rfl, Nat.zero_le _, fun i h => absurd h (by simp), .inl ⟨rfl, rfl⟩⟩
  | sl ht' hl hm h => rw [ht] at ht'; cases ht'; exact ⟨_, _, rfl, hl, hm, h, .inr ⟨_, rfl⟩⟩
  | bool ht' => rw [ht] at ht'; cases ht'
  | int ht' => rw [ht] at ht'; cases ht'
  | str ht' => rw [ht] at ht'; cases ht'
  | st ht' => rw [ht] at ht'; cases ht'
theorem RdD.each {α : Type} {e : TypeId} (f : α → AV) (g : α → DataW H → Prop) {ds : List (DataW H)} {xs : List AV} (hl : xs.length = ds.length) (h : ∀ i (h1 : i < ds.length) (h2 : i < xs.length), RdD P e ds[i] xs[i])
    (hf : ∀ d x, RdD P e d x → ∃ y, x = f y ∧ g y d) : ∃ ys : List α, xs = ys.map f ∧ ys.length = ds.length ∧ ∀ i (h1 : i < ds.length) (h2 : i < ys.length), g ys[i] ds[i] := by
  induction xs generalizing ds with
  | nil =>
    obtain rfl : ds = [] := List.eq_nil_of_length_eq_zero (by simpa using hl.symm)
    exact ⟨[], rfl, rfl, fun i h => absurd h (by simp)⟩
  | cons x xs ih =>
    cases ds with
    | nil => simp at hl
    | cons d ds =>
      obtain ⟨y, hy, hg⟩ := hf d x (h 0 (by simp) (by simp))
      obtain ⟨ys, h1, h2, h3⟩ := ih (ds := ds) (by simpa using hl) (fun i k1 k2 => h (i + 1) (Nat.succ_lt_succ k1) (Nat.succ_lt_succ k2))
      refine ⟨y :: ys, by rw [hy, h1]; rfl, by simp [h2], fun i k1 k2 => ?_⟩
      cases i with
      | zero => exact hg
      | succ i => exact h3 i (Nat.lt_of_succ_lt_succ k1) (Nat.lt_of_succ_lt_succ k2)
end
end Go.Ab
end
section
set_option linter.unusedVariables false
set_option linter.unusedSimpArgs false
namespace Go.Ab
open Go Go.WideShapes
mutual
def avB : AV → Nat
  | .str s => s.length
  | .sl _ _ _ xs => avS xs
  | .agg cs => avC cs
  | _ => 0
def avS : List AV → Nat
  | [] => 0
  | x :: r => avB x + 1 + avS r
def avC : List AV → Nat
  | [] => 0
  | x :: r => avB x + avC r
end
theorem avC_append (a b : List AV) : avC (a ++ b) = avC a + avC b := by
  induction a with
  | nil => simp [avC]
  | cons x a ih => simp only [List.cons_append, avC, ih]; omega
theorem avC_cells (x : AV) : avC x.cells ≤ avB x := by
  cases x <;> simp [AV.cells, avC, avB]
theorem avC_flat (xs : List AV) : avC (xs.flatMap AV.cells) ≤ avC xs := by
  induction xs with
  | nil => simp
  | cons x xs ih =>
    have := avC_cells x
    simp only [List.flatMap_cons, avC_append, avC]; omega
theorem avC_le_avS (xs : List AV) : avC xs ≤ avS xs := by
  induction xs with
  | nil => simp [avC, avS]
  | cons x xs ih => simp only [avC, avS]; omega
theorem bulk_all {P : Program} {H : Type} {B : DataW H → Nat} {BA : List (DataW H) → Nat} (hn : BA [] = 0) (hc : ∀ d r, BA (d :: r) = B d + BA r) : ∀ {ds : List (DataW H)} {xs : List AV}, xs.length = ds.length →
    (∀ i (h1 : i < ds.length) (h2 : i < xs.length), avB xs[i] + 1 ≤ B ds[i]) → avS xs ≤ BA ds
  | [], xs, hl, h => by
    obtain rfl : xs = [] := List.eq_nil_of_length_eq_zero (by simpa using hl)
    simp [avS]
  | d :: ds, xs, hl, h => by
    cases xs with
    | nil => simp at hl
    | cons x xs =>
      have h0 := h 0 (by simp) (by simp)
      have := bulk_all (P := P) (B := B) hn hc (ds := ds) (xs := xs) (by simpa using hl) (fun i h1 h2 => h (i + 1) (Nat.succ_lt_succ h1) (Nat.succ_lt_succ h2))
      simp only [avS, hc]
      simp only [List.getElem_cons_zero] at h0
      omega
theorem RdD.bulk {P : Program} {H : Type} {B : DataW H → Nat} {BA : List (DataW H) → Nat} (hn : BA [] = 0) (hc : ∀ d r, BA (d :: r) = B d + BA r) (h1 : ∀ d, 1 ≤ B d) (hs : ∀ s, B (.lit (.string s)) = s.length + 1)
    (hsl : ∀ a b, B (.slice a b) = BA a + BA b + 1) (hag : ∀ a, B (.agg a) = BA a + 1) {t : TypeId} {d : DataW H} {a : AV} (h : RdD P t d a) : avB a + 1 ≤ B d := by
  induction h with
  | bool => simpa [avB] using h1 _
  | int => simpa [avB] using h1 _
  | str => simp [avB, hs]
  | nils => simpa [avB, avS] using h1 _
  | sl ht hl hm h ih =>
    have := bulk_all (P := P) (B := B) hn hc hl ih
    rw [hsl]; simp only [avB]; omega
  | st ht hd hx h ih =>
    have := bulk_all (P := P) (B := B) hn hc (by omega) (fun i a b => ih i a b (by omega))
    rw [hag]; simp only [avB]
    rename_i t fs ds xs
    have k1 := avC_flat xs
    have k2 := avC_le_avS xs
    omega
end Go.Ab
end
section
set_option linter.unusedVariables false
set_option linter.unusedSimpArgs false
set_option maxRecDepth 20000
set_option maxHeartbeats 4000000
namespace Go.Proofs.YtpehmhlgldbeoaaGreatDoor
open Go Go.Ab
theorem avS_fils (l : List Fil) : l.length ≤ avS (fils l) ∧ ∀ f ∈ l, f.path.length + f.text.length ≤ avS (fils l) := by
  induction l with
  | nil => exact ⟨Nat.zero_le _, fun f hf => by cases hf⟩
  | cons g r ih =>
    have e : avS (fils (g :: r)) = (g.path.length + (g.text.length + (0 + 0))) + 1 + avS (fils r) := by
      show avS (filA g :: fils r) = _
      simp only [avS, filA, avB, avC]
    rw [e]
    refine ⟨by rw [List.length_cons]; omega, fun f hf => ?_⟩
    rcases List.mem_cons.1 hf with rfl | hf
    · omega
    · have := ih.2 f hf; omega
theorem fils_of {l : List Fil} (hk : avB (.sl true false 3 (fils l)) ≤ 1048576) : FilsOk l := by
  have h : avS (fils l) ≤ 1048576 := by simpa only [avB] using hk
  have := avS_fils l
  exact ⟨by omega, fun f hf => by have := this.2 f hf; omega, fun f hf => by have := this.2 f hf; omega⟩
end Go.Proofs.YtpehmhlgldbeoaaGreatDoor
end
section
set_option linter.unusedVariables false
set_option linter.unusedSimpArgs false
set_option maxRecDepth 20000
set_option maxHeartbeats 4000000
namespace Go.Proofs.YtpehmhlgldbeoaaGreatDoor
open Go Go.Ab
theorem both_ok {st fl st' fl' : Bool} (a b : List Fil) (ha : FilsOk a) (hb : FilsOk b) : Calc cx 64 [.sl st fl 3 (fils a), .sl st' fl' 3 (fils b)] (.int .i64 ((if chkT a = 0 then chkT b else chkT a : Nat) : Int)) :=
  pure_intro (fun a w => Tryz.call64 a w) Tryz.func64 rfl Tryz.ntmps64 rfl .int fun B => by
    have hA := Check_ok (st := st) (fl := fl) a ha
    have hB := Check_ok (st := st') (fl := fl') b hb
    by_cases hc : chkT a = 0
    · rw [hc] at hA
      rw [if_pos hc]
      refine pa [.v (.int .i64 ((0 : Nat) : Int)), .b false, .v (.int .i64 (chkT b : Nat))] rfl ?_ ?_
      · (repeat' with_reducible apply AllP_cons) <;> try exact aC
        · exact ⟨_, hA, .cons (.refl (.sl (fun h => by cases h) (fils_free a))) (.nil _)⟩
        · exact ⟨_, hB, .cons (.refl (.sl (fun h => by cases h) (fils_free b))) (.nil _)⟩
      exact S_retc .int rfl trivial rfl
    · rw [if_neg hc]
      refine pa [.v (.int .i64 (chkT a : Nat)), .b true] rfl ?_ ?_
      · (repeat' with_reducible apply AllP_cons) <;> try exact aC
        · exact ⟨_, hA, .cons (.refl (.sl (fun h => by cases h) (fils_free a))) (.nil _)⟩
        · show ((((chkT a : Nat) : Int)) != 0) = true
          rw [chk_bne]; simpa using hc
      exact S_retc .int rfl trivial rfl
end Go.Proofs.YtpehmhlgldbeoaaGreatDoor
end
section
set_option linter.unusedVariables false
set_option linter.unusedSimpArgs false
set_option maxRecDepth 20000
set_option maxHeartbeats 4000000
namespace Go.Proofs.YtpehmhlgldbeoaaGreatDoor
open Go Go.Ab
def lessN (s : List UInt8) : List (List UInt8) → Nat
  | [] => 0
  | x :: r => if Op.bytesLess x s = true then lessN s r + 1 else 0
def addT (l : List (List UInt8)) (s : List UInt8) : List (List UInt8) := if l[lessN s l]? = some s then l else l.take (lessN s l) ++ s :: l.drop (lessN s l)
theorem lessN_le (s : List UInt8) : ∀ l : List (List UInt8), lessN s l ≤ l.length
  | [] => Nat.le_refl _
  | x :: r => by
    rw [lessN]
    split
    · have := lessN_le s r; rw [List.length_cons]; omega
    · exact Nat.zero_le _
theorem lessN_lt {s : List UInt8} : ∀ {l : List (List UInt8)} {i : Nat} (hi : i < l.length), i < lessN s l → Op.bytesLess l[i] s = true
  | x :: r, i, hi, h => by
    rw [lessN] at h
    split at h
    · rename_i hx
      cases i with
      | zero => exact hx
      | succ i => exact lessN_lt (l := r) (by simpa using hi) (by omega)
    · omega
theorem lessN_at {s : List UInt8} : ∀ {l : List (List UInt8)} (h : lessN s l < l.length), Op.bytesLess l[lessN s l] s = false
  | x :: r, h => by
    by_cases hx : Op.bytesLess x s = true
    · have e : lessN s (x :: r) = lessN s r + 1 := by rw [lessN, if_pos hx]
      have h' : lessN s r < r.length := by rw [e, List.length_cons] at h; omega
      have := lessN_at h'
      simp only [e, List.getElem_cons_succ]
      exact this
    · have e : lessN s (x :: r) = 0 := by rw [lessN, if_neg hx]
      simp only [e, List.getElem_cons_zero]
      simpa using hx
theorem txl (x : List (List UInt8)) : (texts x).length = x.length := List.length_map ..
theorem AddText_ok {fl : Bool} (l : List (List UInt8)) (s : List UInt8) (hl : l.length ≤ 1000000000) : Calc cx 60 [.sl true fl 1 (texts l), .str s] (.sl true false 1 (texts (addT l s))) :=
  pure_intro (fun a w => Tryz.call60 a w) Tryz.func60 rfl Tryz.ntmps60 rfl (.sl (fun _ => rfl) (texts_any _)) fun B => by
    have htl : (texts l).length = l.length := by simp [texts]
    have hle := lessN_le s l
    refine pB [] rfl ?_
    refine S_while (α := Nat) (fun i => [(0, .sl true fl 1 (texts l)), (1, .str s), (5, .int .i64 (i : Nat))]) (fun _ => []) (fun i => i ≤ lessN s l) (fun i => l.length - i) 0
      (Nat.zero_le _) (.cons rfl (.cons rfl (.cons rfl (.nil _)))) rfl ?_
    intro i hi
    have hi : i ≤ lessN s l := hi
    have hT : cutL (some (i : Int)) none (texts l) = texts (l.drop i) := by simp [cutL, texts]
    have hD : cutL none (some (i : Int)) (texts l) = texts (l.take i) := by simp [cutL, texts]
    have hone' : ∀ (x : List (List UInt8)), ∀ y ∈ texts x, y.one = true := by
      intro x y hy
      obtain ⟨t, _, rfl⟩ := List.mem_map.1 hy; rfl
    have hone : ∀ {xs : List AV} (x : List (List UInt8)), xs = texts x → ∀ y ∈ flatA 1 xs, y.one = true := by
      intro xs x hx y hy
      have hy : y ∈ xs := hy
      rw [hx] at hy
      exact hone' x y hy
    by_cases hlt : i < l.length
    · have e1 : decide ((i : Int) < (((texts l).length : Nat) : Int)) = true := decide_eq_true (by omega)
      have g1 : (texts l)[(i : Int).toNat]? = some (.str l[i]) := by rw [Int.toNat_natCast]; simp [texts, List.getElem?_eq_getElem hlt]
      by_cases hil : i < lessN s l
      · have e2 := lessN_lt hlt hil
        refine pB [.b true, .v (.str l[i]), .b true] rfl ?_
        exact S_round (i + 1) (by show l.length - (i + 1) < l.length - i; omega) hil (.cons rfl (.cons rfl (.cons (nX (by omega)) (.nil _)))) rfl
      · have hie : i = lessN s l := by omega
        have e2 : Op.bytesLess l[i] s = false := by subst hie; exact lessN_at hlt
        by_cases heq : l[i] = s
        · have e3 : (l[i] == s) = true := by simpa using heq
          have hres : addT l s = l := by unfold addT; rw [← hie, List.getElem?_eq_getElem hlt, heq, if_pos rfl]
          rw [hres]
          refine pB [.b true, .v (.str l[i]), .b false, .b true, .v (.str l[i]), .b true] rfl ?_
          refine S_ret ⟨_, _, rfl, trivial, _, rfl, ?_⟩
          show Frz true [] (.sl true fl 1 (texts l)) (.sl true false 1 (texts l))
          exact .full (fun _ => rfl) (texts_any l)
        · have e3 : (l[i] == s) = false := by simpa using heq
          have hres : addT l s = l.take i ++ s :: l.drop i := by unfold addT; rw [← hie, List.getElem?_eq_getElem hlt, if_neg (fun h => heq (Option.some.inj h))]
          rw [hres]
          refine pa [.b true, .v (.str l[i]), .b false, .b true, .v (.str l[i]), .b false, .d 9 10 [] (fun _ => [(0, some (.cells (.str s :: texts (l.drop i)) ⟨false, none⟩))]) [.ms 0 0 0 ((l.drop i).length + 1) 1 false]] rfl ?_ ?_
          · (repeat' with_reducible apply AllP_cons) <;> try exact aC
            · exact hone _ hT
            · exact hone _ hT
            · rw [hT, txl, List.length_drop]; left; omega
            · show (1 + (cutL (some (i : Int)) none (texts l)).length) * 16 ≤ 140737488355328
              rw [hT, txl, List.length_drop]; omega
            · show 1 + (cutL (some (i : Int)) none (texts l)).length ≤ 9223372036854775807
              rw [hT, txl, List.length_drop]; omega
            · show AV.ms 0 0 0 (1 + (cutL (some (i : Int)) none (texts l)).length) 1 false = _
              rw [hT, txl, Nat.add_comm]
            · show ([(0, some (.cells ([.str s] ++ cutL (some (i : Int)) none (texts l)) ⟨false, none⟩))] : Heap) = _
              rw [hT]; rfl
            · show 0 + ((l.drop i).length + 1) * 1 ≤ (AV.str s :: texts (l.drop i)).length
              rw [List.length_cons, txl]; omega
            · intro y hy
              have hy : y ∈ (AV.str s :: texts (l.drop i)) := List.mem_of_mem_take hy
              rcases List.mem_cons.1 hy with rfl | hy
              · rfl
              · obtain ⟨t, _, rfl⟩ := List.mem_map.1 hy; rfl
            · exact hone _ hD
            · show ((cutL none (some (i : Int)) (texts l)).length + ((l.drop i).length + 1)) * 16 ≤ 140737488355328
              rw [hD, txl, List.length_take, List.length_drop]; omega
            · rw [hD, txl, List.length_take, List.length_drop]; omega
          refine S_ret ⟨_, _, rfl, trivial, _, rfl, ?_⟩
          show Frz true [(0, some (.cells (.str s :: texts (l.drop i)) ⟨false, none⟩)), (0, some (.cells (cutL none (some (i : Int)) (texts l) ++ (AV.str s :: texts (l.drop i)).take (((l.drop i).length + 1) * 1)) ⟨false, none⟩))] (.ms 1 0 0 ((cutL none (some (i : Int)) (texts l)).length + ((l.drop i).length + 1)) 1 false) _
          have hxs : texts (l.take i ++ s :: l.drop i) = texts (l.take i) ++ (AV.str s :: texts (l.drop i)) := by simp [texts]
          rw [hD, List.take_of_length_le (l := (AV.str s :: texts (l.drop i))) (by rw [List.length_cons, txl]; omega), ← hxs]
          exact Frz.ms1 rfl (hone' _) (by rw [hxs, List.length_append, List.length_cons, txl, txl]) (texts_any _)
    · have hie : i = l.length := by omega
      have hin : lessN s l = l.length := by omega
      have e1 : decide ((i : Int) < (((texts l).length : Nat) : Int)) = false := decide_eq_false (by omega)
      have hres : addT l s = l ++ [s] := by unfold addT; rw [hin, List.getElem?_eq_none (Nat.le_refl _), if_neg (by simp), List.take_length, List.drop_length]
      rw [hres]
      refine pa [.b false, .b false, .b false, .b false, .d 9 10 [1000001] (fun σ => σ) [.sl true true 1 [.str s]]] rfl ?_ ?_
      · (repeat' with_reducible apply AllP_cons) <;> try exact aC
        · exact OpSpec.append0 (st := true) (fl := true) (st' := true) (fl' := _) (sz := 1) rfl rfl rfl rfl (by show AV.sl true _ 1 (cutL (some (i : Int)) none (texts l)) = _; rw [hT, hie, List.drop_length]; rfl)
        · exact hone _ hD
        · show ((cutL none (some (i : Int)) (texts l)).length + 1) * 16 ≤ 140737488355328
          rw [hD, txl, List.length_take]; omega
        · show (cutL none (some (i : Int)) (texts l)).length + 1 ≤ 9223372036854775807
          rw [hD, txl, List.length_take]; omega
      refine S_ret ⟨_, _, rfl, trivial, _, rfl, ?_⟩
      show Frz true [(0, some (.cells (cutL none (some (i : Int)) (texts l) ++ [.str s]) ⟨false, none⟩))] (.ms 0 0 0 ((cutL none (some (i : Int)) (texts l)).length + 1) 1 false) _
      have hxs : texts (l ++ [s]) = texts l ++ [.str s] := by simp [texts]
      rw [hD, hie, List.take_length, ← hxs]
      exact Frz.ms1 rfl (hone' _) (by rw [hxs, List.length_append]; rfl) (texts_any _)
end Go.Proofs.YtpehmhlgldbeoaaGreatDoor
end
section
set_option linter.unusedVariables false
set_option linter.unusedSimpArgs false
set_option maxRecDepth 20000
set_option maxHeartbeats 4000000
namespace Go.Proofs.YtpehmhlgldbeoaaGreatDoor
open Go Go.Ab
def setT (l : List (List UInt8)) : List (List UInt8) := sortT (l.foldl addU [])
theorem fold_mem {x : List UInt8} (l a : List (List UInt8)) : x ∈ l.foldl addU a ↔ x ∈ a ∨ x ∈ l := by
  have := addU_fold_mem (fun t : List UInt8 => t) (x := x) l a
  rw [this]
  constructor
  · rintro (h | ⟨f, h, rfl⟩)
    · exact .inl h
    · exact .inr h
  · rintro (h | h)
    · exact .inl h
    · exact .inr ⟨x, h, rfl⟩
theorem nodup_perm {a b : List (List UInt8)} (ha : a.Nodup) (hb : b.Nodup) (h : ∀ x, x ∈ a ↔ x ∈ b) : a.Perm b := by
  exact (List.perm_ext_iff_of_nodup ha hb).2 h
theorem setT_ext {a b : List (List UInt8)} (h : ∀ x, x ∈ a ↔ x ∈ b) : setT a = setT b :=
  sortT_eq (nodup_perm (foldU_nodup .nil) (foldU_nodup .nil) fun x => by rw [fold_mem, fold_mem, h x])
theorem setT_of {l : List (List UInt8)} (h : l.Nodup) : setT l = sortT l :=
  sortT_eq (nodup_perm (foldU_nodup .nil) h fun x => by rw [fold_mem]; simp)
theorem setT_len (l : List (List UInt8)) : (setT l).length ≤ l.length := by
  unfold setT
  rw [(sortT_perm _).length_eq]
  have := addU_fold_len (fun t : List UInt8 => t) l []
  simpa using this
theorem addT_sort {m : List (List UInt8)} (hm : m.Nodup) (s : List UInt8) : addT (sortT m) s = sortT (addU m s) := by
  obtain ⟨l, hl⟩ : ∃ l, l = sortT m := ⟨_, rfl⟩
  have hlt : ∀ (i j : Nat) (hij : i < j) (hj : j < l.length), l[i]'(by omega) < l[j] := by
    subst hl; exact fun i j hij hj => sort_lt hm hij hj
  have hmem : ∀ x, x ∈ l ↔ x ∈ m := fun x => by rw [hl]; exact (sortT_perm m).mem_iff
  rw [← hl]
  have hk := lessN_le s l
  by_cases hs : l[lessN s l]? = some s
  · rw [addT, if_pos hs, addU, if_pos ((hmem s).1 (List.mem_of_getElem? hs)), hl]
  · have hbefore : ∀ i (hi : i < l.length), i < lessN s l → l[i] < s := fun i hi h => by
      have := lessN_lt hi h
      rw [bl_eq] at this; simpa using this
    have hafter : ∀ i (hi : i < l.length), lessN s l ≤ i → s < l[i] := by
      intro i hi h
      have hk2 : lessN s l < l.length := by omega
      have h1 := lessN_at hk2
      rw [bl_eq] at h1
      have h1 : ¬ l[lessN s l] < s := by simpa using h1
      have h2 : l[lessN s l] ≠ s := fun e => hs (by rw [List.getElem?_eq_getElem hk2, e])
      have h3 : s < l[lessN s l] := by
        rcases Std.lt_trichotomy l[lessN s l] s with h | h | h
        · exact absurd h h1
        · exact absurd h h2
        · exact h
      rcases Nat.lt_or_ge (lessN s l) i with h4 | h4
      · exact List.lt_trans h3 (hlt _ _ h4 hi)
      · have : lessN s l = i := by omega
        simpa only [this] using h3
    have hns : s ∉ m := by
      intro h
      obtain ⟨i, hi, e⟩ := List.getElem_of_mem ((hmem s).2 h)
      rcases Nat.lt_or_ge i (lessN s l) with h1 | h1
      · have := hbefore i hi h1; rw [e] at this; exact List.lt_irrefl _ this
      · have := hafter i hi h1; rw [e] at this; exact List.lt_irrefl _ this
    rw [addT, if_neg hs, addU, if_neg hns]
    refine perm_sorted ?_ ?_ (sortT_pw _)
    · refine List.perm_middle.trans ?_
      rw [List.take_append_drop]
      refine List.Perm.trans ?_ (sortT_perm _).symm
      rw [hl]
      refine ((sortT_perm m).cons s).trans ?_
      exact (List.perm_append_singleton s m).symm
    · rw [List.pairwise_append]
      have hpw : l.Pairwise (fun x y => x ≤ y) := by rw [hl]; exact sortT_pw m
      refine ⟨hpw.sublist (List.take_sublist _ _), ?_, ?_⟩
      · rw [List.pairwise_cons]
        refine ⟨fun x hx => ?_, hpw.sublist (List.drop_sublist _ _)⟩
        obtain ⟨i, hi, rfl⟩ := List.getElem_of_mem hx
        rw [List.getElem_drop]
        rw [List.length_drop] at hi
        exact List.le_of_lt (hafter _ (by omega) (by omega))
      · intro x hx y hy
        obtain ⟨i, hi, rfl⟩ := List.getElem_of_mem hx
        rw [List.length_take] at hi
        rw [List.getElem_take]
        have h1 := hbefore i (by omega) (by omega)
        rcases List.mem_cons.1 hy with rfl | hy
        · exact List.le_of_lt h1
        · obtain ⟨j, hj, rfl⟩ := List.getElem_of_mem hy
          rw [List.length_drop] at hj
          rw [List.getElem_drop]
          exact List.le_of_lt (List.lt_trans h1 (hafter _ (by omega) (by omega)))
theorem addT_set (l : List (List UInt8)) (s : List UInt8) : addT (setT l) s = setT (l ++ [s]) := by
  unfold setT
  rw [addT_sort (foldU_nodup .nil), List.foldl_append]; rfl
end Go.Proofs.YtpehmhlgldbeoaaGreatDoor
end
section
set_option linter.unusedVariables false
set_option linter.unusedSimpArgs false
namespace Go.Ab
open Go
structure KeyLaw {α : Type} [DecidableEq α] (cx : Cx) (kt : TypeId) (key : α → AV) : Prop where
  check : ∀ (e : Bool) (r : Rl) (w : World) (v : Value) (a : α), VRel r w v (key a) → (Instr.checkKey e 10000 kt v).run cx.P w = .ok () w
  equal : ∀ (r : Rl) (w : World) (u v : Value) (a b : α), VRel r w u (key a) → VRel r w v (key b) → (Op.equal kt u v).run cx.P w = .ok (decide (a = b)) w
  bits : ∀ (r : Rl) (w : World) (u v : Value) (a : α), VRel r w u (key a) → VRel r w v (key a) → Instr.sameBits 10000 u v = true
  slow : ∃ d, cx.P.underlying kt = some d ∧ ∀ k e l i, Instr.findNow d k (e :: l) i = none
def fieldsFit (P : Program) : List Field → List AV → Bool
  | [], _ => true
  | f :: fs, xs => match aLoad P f.type (xs.drop f.offset) with
    | some y => keyFits P f.type y && fieldsFit P fs xs
    | none => false
theorem checkKey_one {P : Program} {w : World} {k : TypeId} {key : Value} {r : Rl} {a : AV} (e : Bool) (d : Nat) (h : keyFits P k a = true) (ha : VRel r w key a) : (Instr.checkKey e (d + 1) k key).run P w = .ok () w := by
  obtain ⟨q, hu, hd⟩ := keyFits_spec h
  unfold Instr.checkKey
  rcases hd with ⟨rfl, s, rfl⟩ | ⟨j, rfl, n, m, rfl⟩ | ⟨rfl, x, rfl⟩ <;> cases ha <;> simp [run_underlying hu]
theorem checkKey_struct {P : Program} {w : World} {k : TypeId} {v : Value} {r : Rl} {az : List AV} {fs : Array Field} (e : Bool) (hu : P.underlying k = some (.struct fs)) (hf : fieldsFit P fs.toList az = true) (ha : VRel r w v (.agg az)) : (Instr.checkKey e 10000 k v).run P w = .ok () w := by
  have hva : ∃ xs, v = .agg xs := by cases ha; exact ⟨_, rfl⟩
  obtain ⟨xs, rfl⟩ := hva
  show (Instr.checkKey e (9998 + 1 + 1) k (.agg xs)).run P w = _
  rw [Instr.checkKey]
  simp only [Sem.run_bind, run_underlying hu, Result.andThen_ok]
  rw [← Array.forIn_toList]
  generalize fs.toList = L at hf
  induction L with
  | nil => simp
  | cons f L ih =>
    rw [fieldsFit] at hf
    split at hf
    case h_2 => cases hf
    rename_i y hy
    rw [Bool.and_eq_true] at hf
    obtain ⟨z, p1, p2⟩ := part_run ha hy
    have p3 := checkKey_one e 9998 hf.1 p2
    by_cases hn : f.name = "_"
    · simp only [List.forIn_cons, Sem.run_bind, hn, ne_eq, not_true_eq_false, if_false, Result.andThen_ok, Sem.run_pure]
      exact ih hf.2
    · simp only [List.forIn_cons, Sem.run_bind, hn, ne_eq, not_false_eq_true, if_true, Result.andThen_ok, p1, p3, Sem.run_pure]
      exact ih hf.2
theorem equal_struct {P : Program} {w : World} {t : TypeId} {u v : Value} {r : Rl} {az bs : List AV} {fs : Array Field} {b : Bool} (ht : P.underlying t = some (.struct fs)) (hc : cmpOk P t = true) (hb : eqFs P fs.toList az bs = some b) (hx : VRel r w u (.agg az)) (hy : VRel r w v (.agg bs)) :
    (Op.equal t u v).run P w = .ok b w := by
  have hxa : ∃ xs, u = .agg xs := by cases hx; exact ⟨_, rfl⟩
  have hya : ∃ xs, v = .agg xs := by cases hy; exact ⟨_, rfl⟩
  obtain ⟨xs, rfl⟩ := hxa
  obtain ⟨ys, rfl⟩ := hya
  have hfo : P.fieldsOf t = fs := by simp [Program.fieldsOf, ht]
  unfold cmpOk at hc
  rw [ht] at hc
  simp only [Bool.and_eq_true, Bool.not_eq_true', List.all_eq_true, bne_iff_ne] at hc
  show (Op.equalIn (9998 + 1 + 1) t _ _).run P w = _
  rw [run_equalIn_struct w (9998 + 1) t xs ys (by rw [hfo]; exact ht) hc.1.1, hfo]
  exact eqFs_run 9998 hx hy fs.toList hb hc.2
def plainA : AV → Bool
  | .str _ => true
  | .int _ _ => true
  | .bool _ => true
  | _ => false
theorem bits_one {r : Rl} {w : World} {u v : Value} {a : AV} (d : Nat) (h : plainA a = true) (hu : VRel r w u a) (hv : VRel r w v a) : Instr.sameBits d u v = true := by
  cases a <;> first | cases h | skip
  · cases hu; cases hv; unfold Instr.sameBits; simp
  · cases hu; cases hv; unfold Instr.sameBits; simp
  · cases hu with
    | str h1 =>
      cases hv with
      | str h2 =>
        unfold Instr.sameBits
        exact (MapKept.bytes_beq _ _).2 (ByteArray.ext (Array.toList_inj.1 (h1.trans h2.symm)))
theorem bits_struct {r : Rl} {w : World} {u v : Value} {az : List AV} (h : az.all plainA = true) (hu : VRel r w u (.agg az)) (hv : VRel r w v (.agg az)) : Instr.sameBits 10000 u v = true := by
  cases hu with
  | agg hn h1 =>
    cases hv with
    | agg hm h2 =>
      rename_i xs ys
      unfold Instr.sameBits
      rw [Bool.and_eq_true]
      refine ⟨by simp [hn, hm], ?_⟩
      rw [List.all_eq_true]
      rintro ⟨x, y⟩ hxy
      obtain ⟨i, hi, e⟩ := List.getElem_of_mem hxy
      rw [List.length_zip, Array.length_toList, Array.length_toList] at hi
      rw [List.getElem_zip] at e
      have hia : i < az.length := by omega
      have k1 := h1 i hia
      have k2 := h2 i hia
      have e1 : xs.getD i undef = x := by
        rw [Array.getD_eq_getD_getElem?, Array.getElem?_eq_getElem (by omega)]
        exact (congrArg Prod.fst e)
      have e2 : ys.getD i undef = y := by
        rw [Array.getD_eq_getD_getElem?, Array.getElem?_eq_getElem (by omega)]
        exact (congrArg Prod.snd e)
      rw [e1] at k1; rw [e2] at k2
      exact bits_one _ (List.all_eq_true.1 h _ (List.getElem_mem hia)) k1 k2
theorem KeyLaw.struct {α : Type} [DecidableEq α] {cx : Cx} {kt : TypeId} {fs : Array Field} {parts : α → List AV} (hu : cx.P.underlying kt = some (.struct fs)) (hc : cmpOk cx.P kt = true) (hf : ∀ a, fieldsFit cx.P fs.toList (parts a) = true) (hp : ∀ a, (parts a).all plainA = true)
    (he : ∀ a b, eqFs cx.P fs.toList (parts a) (parts b) = some (decide (a = b))) : KeyLaw cx kt (fun a => .agg (parts a)) where
  check := fun e r w v a h => checkKey_struct e hu (hf a) h
  equal := fun r w u v a b h1 h2 => equal_struct hu hc (he a b) h1 h2
  bits := fun r w u v a h1 h2 => bits_struct (hp a) h1 h2
  slow := ⟨_, hu, fun k e l i => rfl⟩
section
variable {α : Type} [DecidableEq α]
def mapG (key : α → AV) (ks : List α) (val : α → AV) : List (AV × AV) := ks.map fun k => (key k, val k)
def addG (l : List α) (s : α) : List α := if s ∈ l then l else l ++ [s]
def updG (val : α → AV) (t : α) (v : AV) : α → AV := fun k => if k = t then v else val k
def mapGx (key : α → AV) (ks : List α) (val : α → AV) : Option Box := some (.map (mapG key ks val) (some (List.range ks.length, ks.length)))
theorem addG_mem {l : List α} {s x : α} : x ∈ addG l s ↔ x ∈ l ∨ x = s := by
  unfold addG
  split
  · rename_i h
    exact ⟨.inl, fun h' => h'.elim id fun e => e ▸ h⟩
  · simp
theorem addG_nodup {l : List α} {s : α} (h : l.Nodup) : (addG l s).Nodup := by
  unfold addG
  split
  · exact h
  · rename_i hs
    exact List.nodup_append.2 ⟨h, by simp, fun a ha b hb => by simp at hb; subst hb; exact fun e => hs (e ▸ ha)⟩
theorem KeyLaw.find {cx : Cx} {kt : TypeId} {key : α → AV} (L : KeyLaw cx kt key) {r : Rl} {w : World} {a : α} {k : Value} (hk : VRel r w k (key a)) : ∀ (es : List MapEntry) (ks : List α) (i : Nat), es.length = ks.length → (∀ j (h : j < ks.length), ∃ e, es[j]? = some e ∧ VRel r w e.key (key ks[j])) →
    (a ∉ ks ∧ (Instr.findAsking kt k es i).run cx.P w = .ok none w) ∨ (a ∈ ks ∧ ∃ e, es[ks.idxOf a]? = some e ∧ (Instr.findAsking kt k es i).run cx.P w = .ok (some (i + ks.idxOf a, e.val)) w)
  | [], [], i, _, _ => .inl ⟨by simp, by simp [Instr.findAsking]⟩
  | [], _ :: _, _, hl, _ => by simp at hl
  | _ :: _, [], _, hl, _ => by simp at hl
  | e :: es, x :: ks, i, hl, hr => by
    obtain ⟨e0, q1, q2⟩ := hr 0 (by simp)
    simp only [List.getElem?_cons_zero, Option.some.injEq, List.getElem_cons_zero] at q1 q2
    subst q1
    have heq := L.equal r w k e.key a x hk q2
    by_cases hax : a = x
    · subst hax
      refine .inr ⟨by simp, e, by simp, ?_⟩
      rw [decide_eq_true rfl] at heq
      rw [Instr.findAsking]
      simp only [Sem.run_bind, heq, Result.andThen_ok, if_true, Sem.run_pure, List.idxOf_cons_self, Nat.add_zero]
    · rw [decide_eq_false hax] at heq
      have hf : (Instr.findAsking kt k (e :: es) i).run cx.P w = (Instr.findAsking kt k es (i + 1)).run cx.P w := by
        conv => lhs; rw [Instr.findAsking]
        simp [heq]
      have hx : (x == a) = false := by simpa using Ne.symm hax
      rcases KeyLaw.find L hk es ks (i + 1) (by simpa using hl) (fun j hj => by
        obtain ⟨e', m1, m2⟩ := hr (j + 1) (by simp; omega)
        exact ⟨e', by simpa using m1, by simpa using m2⟩) with ⟨h1, h2⟩ | ⟨h1, e', h2, h3⟩
      · exact .inl ⟨by simp [hax, h1], by rw [hf]; exact h2⟩
      · refine .inr ⟨List.mem_cons_of_mem _ h1, e', ?_, ?_⟩
        · rw [List.idxOf_cons, hx]; simpa using h2
        · rw [hf, h3, List.idxOf_cons, hx]
          simp only [cond_false]
          rw [show i + 1 + ks.idxOf a = i + (ks.idxOf a + 1) by omega]
theorem KeyLaw.findKey {cx : Cx} {kt : TypeId} {key : α → AV} (L : KeyLaw cx kt key) {r : Rl} {w : World} {a : α} {k : Value} (hk : VRel r w k (key a)) {es : Array MapEntry} {clock : Nat} {ks : List α} {val : α → AV} {st : Option (List Nat × Nat)} (hm : MapIs r w es clock (mapG key ks val) st) :
    (a ∉ ks ∧ (Instr.findKey kt k es.toList).run cx.P w = .ok none w) ∨ (a ∈ ks ∧ ∃ e, es[ks.idxOf a]? = some e ∧ VRel r w e.val (val a) ∧ VRel r w e.key (key a) ∧ (Instr.findKey kt k es.toList).run cx.P w = .ok (some (ks.idxOf a, e.val)) w) := by
  have hlen : (mapG key ks val).length = ks.length := by simp [mapG]
  have hat : ∀ j (h : j < ks.length), ∃ e, es[j]? = some e ∧ VRel r w e.key (key ks[j]) ∧ VRel r w e.val (val ks[j]) := by
    intro j hj
    obtain ⟨e, h1, h2, h3⟩ := hm.2.1 j (by omega)
    refine ⟨e, h1, ?_, ?_⟩
    · simpa [mapG] using h2
    · simpa [mapG] using h3
  obtain ⟨d, hd, hs⟩ := L.slow
  have h := L.find hk es.toList ks 0 (by rw [Array.length_toList, hm.1, hlen]) (fun j hj => by
    obtain ⟨e, h1, h2, _⟩ := hat j hj
    exact ⟨e, by rw [Array.getElem?_toList]; exact h1, h2⟩)
  have hfk : (Instr.findKey kt k es.toList).run cx.P w = (Instr.findAsking kt k es.toList 0).run cx.P w := by
    unfold Instr.findKey
    cases hes : es.toList with
    | nil => simp [run_underlying hd, Instr.findNow, Instr.findAsking]
    | cons e l => simp [run_underlying hd, hs]
  rw [hfk]
  rcases h with h | ⟨h1, e, h2, h3⟩
  · exact .inl h
  · refine .inr ⟨h1, e, by rw [← Array.getElem?_toList]; exact h2, ?_, ?_, by rw [h3, Nat.zero_add]⟩
    · obtain ⟨e', m1, m2, m3⟩ := hat _ (List.idxOf_lt_length_of_mem h1)
      rw [Array.getElem?_toList, m1] at h2
      obtain rfl := Option.some.inj h2
      rw [List.getElem_idxOf] at m3; exact m3
    · obtain ⟨e', m1, m2, m3⟩ := hat _ (List.idxOf_lt_length_of_mem h1)
      rw [Array.getElem?_toList, m1] at h2
      obtain rfl := Option.some.inj h2
      rw [List.getElem_idxOf] at m2; exact m2
variable {cx : Cx} {n : Nat} {fr : Fr} {σ : Heap}
theorem OpSpec.gget {o : Oper} {t kt et : TypeId} {m key : Operand} {id ver : Nat} {kf : α → AV} {ks : List α} {val : α → AV} {st : Option (List Nat × Nat)} {z : AV} {s : α} (L : KeyLaw cx kt kf) (ho : o.op = .lookup t m key false) (ht : cx.P.underlying t = some (.map kt et))
    (hm : ev cx fr m = .map id ver) (hkey : ev cx fr key = kf s) (hσ : σ[id]? = some (ver, some (.map (mapG kf ks val) st))) (hz : zeroV cx.P et = some z) (hv : s ∉ ks → val s = z) :
    OpSpec cx n fr σ o (val s) σ := by
  intro r a w hi hf
  have he : ∀ x, VRel r w (a.eval x) (ev cx fr x) := fun x => ev_rel hi hf x
  have hmv := he m
  have hkv := he key
  rw [hm] at hmv
  rw [hkey] at hkv
  obtain ⟨b, es, clock, hzz, hρ, hb, hmi⟩ := hi.mapAt hσ hmv
  obtain ⟨dst, op, ty, pos, after, guard⟩ := o
  simp only at ho
  subst ho
  have hck := L.check es.isEmpty r w _ s hkv
  rcases L.findKey hkv hmi with ⟨h1, h2⟩ | ⟨h1, e, h2, h3, _, h4⟩
  · obtain ⟨z', hz1, hz2⟩ := zeroV_run hz r w
    refine ⟨r, w, z', .inl ?_, by rw [hv h1]; exact hz2, hi, Ext.refl _ _ _⟩
    simp [execOp, Instr.lookup, run_underlying ht, hzz, MapKept.run_getObj_map hb, hck, h2, hz1]
  · refine ⟨r, w, e.val, .inl ?_, h3, hi, Ext.refl _ _ _⟩
    simp [execOp, Instr.lookup, run_underlying ht, hzz, MapKept.run_getObj_map hb, hck, h4]
theorem mapG_push (kf : α → AV) {ks : List α} (val : α → AV) {s : α} (h : s ∉ ks) : mapG kf (addG ks s) val = mapG kf ks val ++ [(kf s, val s)] := by
  unfold addG mapG; rw [if_neg h, List.map_append]; rfl
theorem OpSpec.gentry {o : Oper} {t kt et : TypeId} {m key : Operand} {id ver : Nat} {kf : α → AV} {ks : List α} {val : α → AV} {z : AV} {s : α} (L : KeyLaw cx kt kf) (ho : o.op = .mapEntry t m key) (ht : cx.P.underlying t = some (.map kt et))
    (hm : ev cx fr m = .map id ver) (hkey : ev cx fr key = kf s) (hσ : σ[id]? = some (ver, mapGx kf ks val)) (hz : zeroV cx.P et = some z) (hv : s ∉ ks → val s = z) {σ' : Heap} (hσ' : σ.set id (ver, mapGx kf (addG ks s) val) = σ') :
    OpSpec cx n fr σ o (.tup [val s, .int .i64 ((addG ks s).idxOf s : Nat)]) σ' := by
  subst hσ'
  intro r a w hi hf
  have he : ∀ x, VRel r w (a.eval x) (ev cx fr x) := fun x => ev_rel hi hf x
  have hmv := he m
  have hkv := he key
  rw [hm] at hmv
  rw [hkey] at hkv
  obtain ⟨b, es, clock, hzz, hρ, hb, hmi⟩ := hi.mapAt hσ hmv
  obtain ⟨dst, op, ty, pos, after, guard⟩ := o
  simp only at ho
  subst ho
  have hck := L.check false r w _ s hkv
  obtain ⟨hbs, hcl⟩ := hmi.2.2.2.2 _ _ rfl
  have tup2 : ∀ {r' : Rl} {w' : World} {x y : Value} {p q : AV}, VRel r' w' x p → VRel r' w' y q → VRel r' w' (.tuple #[x, y]) (.tup [p, q]) := fun h1 h2 => .tup rfl (fun i hi => by
    simp only [List.length_cons, List.length_nil] at hi
    rcases i with _ | _ | i
    · exact h1
    · exact h2
    · omega)
  rcases L.findKey hkv hmi with ⟨h1, h2⟩ | ⟨h1, e, h2, h3, h5, h4⟩
  · obtain ⟨z', hz1, hz2⟩ := zeroV_run hz r w
    have hm' := hmi.pushK hkv (x := val s) (by rw [hv h1]; exact hz2)
    have hk' : setK (mapG kf ks val) (kf s) (val s) none = mapG kf (addG ks s) val := (mapG_push kf val h1).symm
    have hlen : (addG ks s).length = ks.length + 1 := by unfold addG; rw [if_neg h1]; simp
    have hst : setB (some (List.range ks.length, ks.length)) none = some (List.range (addG ks s).length, (addG ks s).length) := by
      rw [hlen]; show some (List.range ks.length ++ [ks.length], ks.length + 1) = _
      rw [List.range_succ]
    rw [hk', hst] at hm'
    obtain ⟨r', k1, k2⟩ := hi.mapSet hσ hρ hb hm'
    have hix : (addG ks s).idxOf s = ks.length := by
      unfold addG; rw [if_neg h1, List.idxOf_append, if_neg h1]; simp
    refine ⟨r', _, .tuple #[z', goInt clock], .inl ?_, tup2 ?_ ?_, k1, k2⟩
    · simp [execOp, Instr.mapEntry, run_underlying ht, hzz, MapKept.run_getObj_map hb, hck, h2, hz1, MapKept.run_setObj_map _ hb]
    · rw [hv h1]; exact hz2.mono (k2.grow hi)
    · rw [hix, hcl]; exact .int
  · have hj := List.idxOf_lt_length_of_mem h1
    have hadd : addG ks s = ks := if_pos h1
    have hm0 : MapIs r w (es.modify (ks.idxOf s) fun e => { e with key := a.eval key }) clock (mapG kf ks val) (some (List.range ks.length, ks.length)) := by
      have hq := hmi.setK hkv h3 (j := ks.idxOf s) (v := val s) (by simpa [mapG] using hj)
      have e1 : setK (mapG kf ks val) (kf s) (val s) (some (ks.idxOf s, val s)) = mapG kf ks val := by
        show (mapG kf ks val).set (ks.idxOf s) (kf s, val s) = _
        have : (mapG kf ks val)[ks.idxOf s]'(by simpa [mapG] using hj) = (kf s, val s) := by simp [mapG]
        rw [← this, List.set_getElem_self]
      rw [e1] at hq
      have e2 : (es.modify (ks.idxOf s) fun e' => { e' with key := a.eval key, val := e.val }) = es.modify (ks.idxOf s) fun e => { e with key := a.eval key } := by
        apply Array.ext_getElem?
        intro i
        rw [Array.getElem?_modify, Array.getElem?_modify]
        split
        · rename_i hii
          rw [← hii, h2]; rfl
        · rfl
      rw [e2] at hq
      exact hq
    obtain ⟨r', k1, k2⟩ := hi.mapSet hσ hρ hb hm0
    have hborn : e.born = ks.idxOf s := by
      have : (es.toList.map MapEntry.born)[ks.idxOf s]? = some e.born := by rw [List.getElem?_map, Array.getElem?_toList, h2]; rfl
      rw [hbs, List.getElem?_range hj] at this
      exact (Option.some.inj this).symm
    rw [hadd]
    refine ⟨r', _, .tuple #[e.val, goInt e.born], .inl ?_, tup2 (h3.mono (k2.grow hi)) ?_, k1, k2⟩
    · have hbits := L.bits r w _ _ s h5 hkv
      simp [execOp, Instr.mapEntry, run_underlying ht, hzz, MapKept.run_getObj_map hb, hck, h4, h2, Instr.keyThatStays, hbits, MapKept.run_setObj_map _ hb]
    · rw [hborn]; exact .int
theorem OpSpec.gstore {o : Oper} {t : TypeId} {m st x : Operand} {id ver : Nat} {kf : α → AV} {ks : List α} {val : α → AV} {s : α} {v : AV} (ho : o.op = .entryStore t m st x)
    (hm : ev cx fr m = .map id ver) (hst : ev cx fr st = .int .i64 (ks.idxOf s : Nat)) (hx : ev cx fr x = v) (hσ : σ[id]? = some (ver, mapGx kf ks val)) (hs : s ∈ ks) (hn : ks.Nodup) {σ' : Heap} (hσ' : σ.set id (ver, mapGx kf ks (updG val s v)) = σ') :
    OpSpec cx n fr σ o (.tup []) σ' := by
  subst hσ'
  intro r a w hi hf
  have he : ∀ x, VRel r w (a.eval x) (ev cx fr x) := fun x => ev_rel hi hf x
  have hmv := he m
  have hsv := he st
  have hxv := he x
  rw [hm] at hmv
  rw [hst] at hsv
  rw [hx] at hxv
  obtain ⟨b, es, clock, hzz, hρ, hb, hmi⟩ := hi.mapAt hσ hmv
  obtain ⟨dst, op, ty, pos, after, guard⟩ := o
  simp only at ho
  subst ho
  obtain ⟨hbs, hcl⟩ := hmi.2.2.2.2 _ _ rfl
  have hj := List.idxOf_lt_length_of_mem hs
  have hlen : (mapG kf ks val).length = ks.length := by simp [mapG]
  obtain ⟨e, m1, m2, m3⟩ := hmi.2.1 (ks.idxOf s) (by omega)
  have hborn : ∀ (i : Nat) (e : MapEntry), es[i]? = some e → e.born = i := by
    intro i e h
    have h2 : (es.toList.map MapEntry.born)[i]? = some e.born := by rw [List.getElem?_map, Array.getElem?_toList, h]; rfl
    have hi' : i < ks.length := by
      rcases Nat.lt_or_ge i ks.length with h' | h'
      · exact h'
      · rw [hbs, List.getElem?_eq_none (by simpa using h')] at h2; cases h2
    rw [hbs, List.getElem?_range hi'] at h2
    exact (Option.some.inj h2).symm
  have hfi : es.findIdx? (fun e => (e.born : Int) == ((ks.idxOf s : Nat) : Int)) = some (ks.idxOf s) := by
    rw [Array.findIdx?_eq_some_iff_getElem]
    have hjs : ks.idxOf s < es.size := by rw [hmi.1, hlen]; exact hj
    refine ⟨hjs, ?_, fun i hi' => ?_⟩
    · rw [hborn _ _ (Array.getElem?_eq_getElem hjs)]; simp
    · rw [hborn _ _ (Array.getElem?_eq_getElem (by omega))]
      simp; omega
  have hset : setK (mapG kf ks val) (kf s) v (some (ks.idxOf s, v)) = mapG kf ks (updG val s v) := by
    show (mapG kf ks val).set (ks.idxOf s) (kf s, v) = _
    have hat : ks[ks.idxOf s] = s := List.getElem_idxOf hj
    unfold mapG
    apply List.ext_getElem
    · simp
    · intro i h1 h2
      rw [List.getElem_set, List.getElem_map, List.getElem_map]
      by_cases hi2 : ks.idxOf s = i
      · subst hi2
        rw [if_pos rfl, hat]; unfold updG; rw [if_pos rfl]
      · rw [if_neg hi2]
        unfold updG
        rw [if_neg]
        intro e
        exact hi2 ((List.getElem_inj hn).1 (hat.trans e.symm))
  have hkey : VRel r w e.key (kf s) := by
    have : (mapG kf ks val)[ks.idxOf s]'(by omega) = (kf s, val s) := by simp [mapG]
    rw [this] at m2; exact m2
  have hm' := hmi.setK hkey hxv (j := ks.idxOf s) (v := v) (by omega)
  rw [hset] at hm'
  have e2 : (es.modify (ks.idxOf s) fun e' => { e' with key := e.key, val := a.eval x }) = es.modify (ks.idxOf s) fun e => { e with val := a.eval x } := by
    apply Array.ext_getElem?
    intro i
    rw [Array.getElem?_modify, Array.getElem?_modify]
    split
    · rename_i hii
      rw [← hii, m1]; rfl
    · rfl
  rw [e2] at hm'
  obtain ⟨r', k1, k2⟩ := hi.mapSet hσ hρ hb hm'
  refine ⟨r', _, undef, .inr ⟨?_, rfl⟩, .tup rfl (fun i h => absurd h (by simp)), k1, k2⟩
  have hsi : a.eval st = .int .i64 ((ks.idxOf s : Nat) : Int) := by
    generalize a.eval st = y at hsv
    cases hsv; rfl
  simp [execOp, Instr.entryStore, hzz, hsi, asInt, asIntOf, MapKept.run_getObj_map hb, hfi, MapKept.run_setObj_map _ hb]
theorem OpSpec.entryG {o : Oper} {x : Operand} {id ver mid mver since c i b : Nat} {seen bs : List Nat} {kvs : List (AV × AV)} {p q : AV} (ho : o.op = .entry x) (hx0 : ev cx fr x = .ptr id ver 0) (hσ : σ[id]? = some (ver, some (.miter mid mver since (seen ++ [b]) c)))
    (hσm : σ[mid]? = some (mver, some (.map kvs (some (bs, c))))) (hb : bs[i]? = some b) (hk : kvs[i]? = some (p, q)) : OpSpec cx n fr σ o (.tup [p, q]) σ := by
  have hik : i < kvs.length := by
    rcases Nat.lt_or_ge i kvs.length with h | h
    · exact h
    · rw [List.getElem?_eq_none h] at hk; cases hk
  have h := OpSpec.entry (n := n) ho hx0 hσ hσm hb hik
  rw [List.getElem?_eq_getElem hik] at hk
  rw [Option.some.inj hk] at h
  exact h
end
end Go.Ab
end
section
set_option linter.unusedVariables false
set_option linter.unusedSimpArgs false
set_option maxRecDepth 20000
set_option maxHeartbeats 4000000
namespace Go.Proofs.YtpehmhlgldbeoaaGreatDoor
open Go Go.Ab
def ksG (c : List Fil) : List Fil := c.foldl addG []
def cntV (c : List Fil) : Fil → AV := fun f => .int .i64 (c.count f : Nat)
def difT (c : List Fil) : List (List UInt8) := setT ((c.filter fun f => c.count f == 1).map Fil.path)
theorem ksG_add (c : List Fil) (f : Fil) : ksG (c ++ [f]) = addG (ksG c) f := by unfold ksG; rw [List.foldl_append]; rfl
theorem foldG_nodup : ∀ (c a : List Fil), a.Nodup → (c.foldl addG a).Nodup
  | [], a, h => h
  | f :: c, a, h => foldG_nodup c _ (addG_nodup h)
theorem ksG_nodup (c : List Fil) : (ksG c).Nodup := foldG_nodup c [] .nil
theorem foldG_mem {f : Fil} : ∀ (c a : List Fil), f ∈ c.foldl addG a ↔ f ∈ a ∨ f ∈ c
  | [], a => by simp
  | x :: c, a => by
    rw [List.foldl_cons, foldG_mem c, addG_mem, List.mem_cons]
    exact or_assoc
theorem ksG_mem {c : List Fil} {f : Fil} : f ∈ ksG c ↔ f ∈ c := by unfold ksG; rw [foldG_mem]; simp
theorem cntV_no {c : List Fil} {f : Fil} (h : f ∉ ksG c) : cntV c f = .int .i64 0 := by
  unfold cntV; rw [List.count_eq_zero_of_not_mem (fun e => h (ksG_mem.2 e))]; rfl
theorem cntV_add {c : List Fil} (f : Fil) (h : c.length ≤ 1000000) : updG (cntV c) f (.int .i64 (IntKind.i64.wrap (((c.count f : Nat) : Int) + 1))) = cntV (c ++ [f]) := by
  funext k
  unfold updG cntV
  have h1 := List.count_le_length (a := f) (l := c)
  by_cases hk : k = f
  · subst hk
    have hw : IntKind.i64.wrap (((c.count k : Nat) : Int) + 1) = ((c.count k + 1 : Nat) : Int) := w64 (by omega) (by omega)
    rw [if_pos rfl, List.count_append, List.count_singleton_self, hw]
  · rw [if_neg hk, List.count_append, List.count_singleton, if_neg (by simpa using Ne.symm hk)]; rfl
theorem ksG_len (c : List Fil) : (ksG c).length ≤ c.length := by
  exact List.Nodup.length_le_of_subset (ksG_nodup c) fun f hf => ksG_mem.1 hf
theorem fileKey : KeyLaw cx 48 filA :=
  KeyLaw.struct (parts := fun f : Fil => [.str f.path, .str f.text, .bool f.run]) Tryz.underlying48 (by kernel_rfl) (fun a => rfl) (fun a => rfl) (fun a b => by
    show some ((a.path == b.path) && ((a.text == b.text) && ((a.run == b.run) && true))) = _
    congr 1
    obtain ⟨p, t, r⟩ := a
    obtain ⟨p', t', r'⟩ := b
    show ((p == p') && ((t == t') && ((r == r') && true))) = _
    by_cases h1 : p = p' <;> by_cases h2 : t = t' <;> by_cases h3 : r = r' <;> simp [h1, h2, h3])
theorem mapG_step {c : List Fil} (f : Fil) (h : c.length ≤ 1000000) : mapGx filA (addG (ksG c) f) (updG (cntV c) f (.int .i64 (IntKind.i64.wrap (((c.count f : Nat) : Int) + 1)))) = mapGx filA (ksG (c ++ [f])) (cntV (c ++ [f])) := by
  rw [ksG_add, cntV_add f h]
def ksD (c : List Fil) (sn : List Nat) : List (List UInt8) := sn.foldl (fun l i => match (ksG c)[i]? with
  | some f => if c.count f = 1 then addK l f.path else l
  | none => l) []
theorem ksD_add (c : List Fil) (sn : List Nat) {i : Nat} (h : i < (ksG c).length) : ksD c (sn ++ [i]) = if c.count (ksG c)[i] = 1 then addK (ksD c sn) (ksG c)[i].path else ksD c sn := by
  unfold ksD; rw [List.foldl_append]
  simp [List.getElem?_eq_getElem h]
theorem ksD_nodup (c : List Fil) (sn : List Nat) : (ksD c sn).Nodup := by
  unfold ksD
  suffices ∀ (sn : List Nat) (a : List (List UInt8)), a.Nodup → (sn.foldl (fun l i => match (ksG c)[i]? with
  | some f => if c.count f = 1 then addK l f.path else l
  | none => l) a).Nodup from this sn [] .nil
  intro sn
  induction sn with
  | nil => intro a h; exact h
  | cons i sn ih =>
    intro a h
    rw [List.foldl_cons]
    refine ih _ ?_
    split
    · split
      · exact addU_nodup h
      · exact h
    · exact h
theorem ksD_mem {c : List Fil} {x : List UInt8} (sn : List Nat) : x ∈ ksD c sn ↔ ∃ i ∈ sn, ∃ f, (ksG c)[i]? = some f ∧ c.count f = 1 ∧ f.path = x := by
  unfold ksD
  suffices ∀ (sn : List Nat) (a : List (List UInt8)), x ∈ (sn.foldl (fun l i => match (ksG c)[i]? with
  | some f => if c.count f = 1 then addK l f.path else l
  | none => l) a) ↔ x ∈ a ∨ ∃ i ∈ sn, ∃ f, (ksG c)[i]? = some f ∧ c.count f = 1 ∧ f.path = x by
    rw [this]; simp
  intro sn
  induction sn with
  | nil => simp
  | cons i sn ih =>
    intro a
    rw [List.foldl_cons, ih]
    have hstep : (x ∈ (match (ksG c)[i]? with
      | some f => if c.count f = 1 then addK a f.path else a
      | none => a)) ↔ x ∈ a ∨ ∃ f, (ksG c)[i]? = some f ∧ c.count f = 1 ∧ f.path = x := by
      cases hq : (ksG c)[i]? with
      | none => simp
      | some f =>
        by_cases h1 : c.count f = 1
        · simp only [h1, if_true, Option.some.injEq, exists_eq_left', true_and]
          have := addU_mem (l := a) (s := f.path) (x := x)
          rw [show addK a f.path = addU a f.path from rfl, this]
          exact or_congr Iff.rfl eq_comm
        · simp [h1]
    rw [hstep]
    simp only [List.mem_cons, exists_eq_or_imp]
    exact or_assoc
theorem ksD_all {c : List Fil} {sn : List Nat} (h : ∀ b ∈ List.range (ksG c).length, b ∈ sn) : sortT (ksD c sn) = difT c := by
  unfold difT
  rw [← setT_of (ksD_nodup c sn)]
  refine setT_ext fun x => ?_
  rw [ksD_mem]
  simp only [List.mem_map, List.mem_filter, beq_iff_eq]
  constructor
  · rintro ⟨i, _, f, h1, h2, h3⟩
    exact ⟨f, ⟨ksG_mem.1 (List.mem_of_getElem? h1), h2⟩, h3⟩
  · rintro ⟨f, ⟨h1, h2⟩, h3⟩
    obtain ⟨i, hi, he⟩ := List.getElem_of_mem (ksG_mem.2 h1)
    exact ⟨i, h i (List.mem_range.2 hi), f, by rw [List.getElem?_eq_getElem hi, he], h2, h3⟩
def difE (a b : List Fil) : Nat := if chkT a = 0 then chkT b else chkT a
def difAV (a b : List Fil) : AV := if difE a b = 0 then .tup [.sl true false 1 (texts (difT (a ++ b))), .int .i64 ((0 : Nat) : Int)] else .tup [.nils, .int .i64 (difE a b : Nat)]
theorem difAV_free (a b : List Fil) : Free true (difAV a b) := by
  unfold difAV
  split
  · exact .tup (by intro x hx; simp at hx; rcases hx with rfl | rfl; exact .sl (fun _ => rfl) (texts_any _); exact .int)
  · exact .tup (by intro x hx; simp at hx; rcases hx with rfl | rfl; exact .nils; exact .int)
theorem Differs_ok {st fl st' fl' : Bool} (a b : List Fil) (ha : FilsOk a) (hb : FilsOk b) : Calc cx 36 [.sl st fl 3 (fils a), .sl st' fl' 3 (fils b)] (difAV a b) :=
  pure_intro (fun a w => Tryz.call36 a w) Tryz.func36 rfl Tryz.ntmps36 rfl (difAV_free a b) fun B => by
    have hB := both_ok (st := st) (fl := fl) (st' := st') (fl' := fl') a b ha hb
    have hfr : ∀ σ : Heap, Frzs σ [.sl st fl 3 (fils a), .sl st' fl' 3 (fils b)] [.sl st fl 3 (fils a), .sl st' fl' 3 (fils b)] := fun σ => .cons (.refl (.sl (fun h => by cases h) (fils_free a))) (.cons (.refl (.sl (fun h => by cases h) (fils_free b))) (.nil _))
    unfold difAV
    rw [show (if chkT a = 0 then chkT b else chkT a) = difE a b from rfl] at hB
    by_cases h0 : difE a b = 0
    case neg =>
      rw [if_neg h0]
      generalize difE a b = e at *
      refine pa [.v (.int .i64 (e : Nat)), .b true] rfl ?_ ?_
      · (repeat' with_reducible apply AllP_cons) <;> try exact aC
        · exact ⟨_, hB, hfr _⟩
        · show (((e : Int)) != 0) = true
          rw [chk_bne]; simpa using h0
      exact S_retc (.tup (by intro x hx; simp at hx; rcases hx with rfl | rfl; exact .nils; exact .int)) rfl trivial rfl
    rw [if_pos h0]
    have hca : chkT a = 0 := by
      by_cases h : chkT a = 0
      · exact h
      · unfold difE at h0; rw [if_neg h] at h0; exact absurd h0 h
    have hcb : chkT b = 0 := by unfold difE at h0; rw [if_pos hca] at h0; exact h0
    rw [h0] at hB
    have hda := DirOk.of hca
    have hdb := DirOk.of hcb
    have hla := hda.len
    have hlb := hdb.len
    have hna := fils_len a
    have hnb := fils_len b
    refine pa [.v (.int .i64 ((0 : Nat) : Int)), .b false, .f (.map 0 0) (fun _ => [(0, some (.map [] (some ([], 0))))])] rfl ?_ ?_
    · (repeat' with_reducible apply AllP_cons) <;> try exact aC
      · exact ⟨_, hB, hfr _⟩
      · exact OpSpec.mapN (C := []) rfl trivial
    refine S_dead ?_ ⟨_, _, .inl rfl⟩
    refine S_while (α := Nat) (fun i => [(1, .sl st' fl' 3 (fils b)), (7, .map 0 0), (22, .sl st fl 3 (fils a)), (23, .int .i64 (((fils a).length : Nat) : Int)), (24, .int .i64 (i : Nat))]) (fun i => [(0, mapGx filA (ksG (a.take i)) (cntV (a.take i))), (i, none)]) (fun i => i ≤ a.length) (fun i => a.length - i) 0
      (Nat.zero_le _) (.cons rfl (.cons rfl (.cons rfl (.cons rfl (.cons rfl (.nil _)))))) rfl ?_
    intro i hi
    have hi : i ≤ a.length := hi
    by_cases hlt : i < a.length
    · have e1 : decide ((i : Int) < (((fils a).length : Nat) : Int)) = true := decide_eq_true (by omega)
      have g1 : (fils a)[(i : Int).toNat]? = some (filA a[i]) := fils_get hlt
      have hst := mapG_step (c := a.take i) a[i] (by rw [List.length_take]; omega)
      rw [← List.take_succ_eq_append_getElem hlt] at hst
      refine pa [.b true, .v (filA a[i]), .d 4 6 [] (fun σ => (0, mapGx filA (addG (ksG (a.take i)) a[i]) (cntV (a.take i))) :: σ.tail) [cntV (a.take i) a[i], .tup [cntV (a.take i) a[i], .int .i64 ((addG (ksG (a.take i)) a[i]).idxOf a[i] : Nat)]], .f (.tup []) (fun σ => (0, mapGx filA (addG (ksG (a.take i)) a[i]) (updG (cntV (a.take i)) a[i] (.int .i64 (IntKind.i64.wrap ((((a.take i).count a[i] : Nat) : Int) + 1))))) :: σ.tail), .s] rfl ?_ ?_
      · (repeat' with_reducible apply AllP_cons) <;> try exact aC
        all_goals first
          | exact OpSpec.gget (z := .int .i64 0) fileKey rfl (Tryz.underlying84) rfl rfl rfl rfl cntV_no
          | exact OpSpec.gget (z := .int .i64 0) fileKey rfl (Tryz.underlying84) rfl rfl rfl rfl (fun h => cntV_no fun h' => h (addG_mem.2 (.inl h')))
          | exact OpSpec.gentry (z := .int .i64 0) fileKey rfl (Tryz.underlying84) rfl rfl rfl rfl cntV_no rfl
          | exact OpSpec.gstore (s := a[i]) rfl rfl rfl rfl rfl (addG_mem.2 (.inr rfl)) (addG_nodup (ksG_nodup _)) rfl
      refine S_drop (id := 1) rfl ?_ ⟨.skip, _, .inr ⟨_, _, _, rfl⟩⟩
      refine S_heap [(0, mapGx filA (ksG (a.take (i + 1))) (cntV (a.take (i + 1)))), (i + 1, none)] ?_ ?_
      · rw [← hst]; rfl
      refine pB [] rfl ?_
      exact S_round (i + 1) (by show a.length - (i + 1) < a.length - i; omega) hlt (.cons rfl (.cons rfl (.cons rfl (.cons rfl (.cons (nX (by omega)) (.nil _)))))) rfl
    have hil : i = a.length := by omega
    subst hil
    have e1 : decide ((a.length : Int) < (((fils a).length : Nat) : Int)) = false := decide_eq_false (by omega)
    rw [List.take_length]
    obtain ⟨u, hu⟩ : ∃ u, u = a.length := ⟨_, rfl⟩
    rw [← hu]
    rw [← hu] at e1
    refine pB [.b false] rfl ?_
    refine S_while (α := Nat) (fun i => [(7, .map 0 0), (35, .sl st' fl' 3 (fils b)), (36, .int .i64 (((fils b).length : Nat) : Int)), (37, .int .i64 (i : Nat))]) (fun i => [(0, mapGx filA (ksG (a ++ b.take i)) (cntV (a ++ b.take i))), (u + i, none)]) (fun i => i ≤ b.length) (fun i => b.length - i) 0
      (Nat.zero_le _) (.cons rfl (.cons rfl (.cons rfl (.cons rfl (.nil _))))) (by rw [List.take_zero, List.append_nil]; rfl) ?_
    intro i hi
    have hi : i ≤ b.length := hi
    by_cases hlt : i < b.length
    · have e1 : decide ((i : Int) < (((fils b).length : Nat) : Int)) = true := decide_eq_true (by omega)
      have g1 : (fils b)[(i : Int).toNat]? = some (filA b[i]) := fils_get hlt
      obtain ⟨c, hc⟩ : ∃ c, c = a ++ b.take i := ⟨_, rfl⟩
      have hc' : a ++ b.take (i + 1) = c ++ [b[i]] := by rw [hc, List.take_succ_eq_append_getElem hlt, List.append_assoc]
      have hst := mapG_step (c := c) b[i] (by rw [hc, List.length_append, List.length_take]; omega)
      rw [← hc]
      refine pa [.b true, .v (filA b[i]), .d 4 6 [] (fun σ => (0, mapGx filA (addG (ksG c) b[i]) (cntV c)) :: σ.tail) [cntV c b[i], .tup [cntV c b[i], .int .i64 ((addG (ksG c) b[i]).idxOf b[i] : Nat)]], .f (.tup []) (fun σ => (0, mapGx filA (addG (ksG c) b[i]) (updG (cntV c) b[i] (.int .i64 (IntKind.i64.wrap (((c.count b[i] : Nat) : Int) + 1))))) :: σ.tail), .s] rfl ?_ ?_
      · (repeat' with_reducible apply AllP_cons) <;> try exact aC
        all_goals first
          | exact OpSpec.gget (z := .int .i64 0) fileKey rfl (Tryz.underlying84) rfl rfl rfl rfl cntV_no
          | exact OpSpec.gget (z := .int .i64 0) fileKey rfl (Tryz.underlying84) rfl rfl rfl rfl (fun h => cntV_no fun h' => h (addG_mem.2 (.inl h')))
          | exact OpSpec.gentry (z := .int .i64 0) fileKey rfl (Tryz.underlying84) rfl rfl rfl rfl cntV_no rfl
          | exact OpSpec.gstore (s := b[i]) rfl rfl rfl rfl rfl (addG_mem.2 (.inr rfl)) (addG_nodup (ksG_nodup _)) rfl
      refine S_drop (id := 1) rfl ?_ ⟨.skip, _, .inr ⟨_, _, _, rfl⟩⟩
      refine S_heap [(0, mapGx filA (ksG (c ++ [b[i]])) (cntV (c ++ [b[i]]))), (u + (i + 1), none)] ?_ ?_
      · rw [← hst]; rfl
      refine pB [] rfl ?_
      exact S_round (i + 1) (by show b.length - (i + 1) < b.length - i; omega) hlt (.cons rfl (.cons rfl (.cons rfl (.cons (nX (by omega)) (.nil _))))) (by rw [hc'])
    have hil : i = b.length := by omega
    subst hil
    have e1 : decide ((b.length : Int) < (((fils b).length : Nat) : Int)) = false := decide_eq_false (by omega)
    rw [List.take_length]
    generalize hw : u + b.length = w
    obtain ⟨c, hc⟩ : ∃ c, c = a ++ b := ⟨_, rfl⟩
    rw [← hc]
    have hcl : c.length ≤ 120 := by rw [hc, List.length_append]; omega
    have hkl := ksG_len c
    refine pa [.b false, .f (.map 1 (w + 1)) (fun σ => [(0, mapGx filA (ksG c) (cntV c)), (w + 1, some (.map [] (some ([], 0))))])] rfl ?_ ?_
    · (repeat' with_reducible apply AllP_cons) <;> try exact aC
      · exact OpSpec.mapN (C := []) rfl trivial
    refine S_unstamp (id := 1) rfl ?_ ⟨.skip, _, .inr ⟨_, _, _, rfl⟩⟩
    obtain ⟨N, hN⟩ : ∃ N, N = (ksG c).length := ⟨_, rfl⟩
    have hgx : ∀ v : Nat, ((v, mapGx filA (ksG c) (cntV c)) : Nat × Option Box) = (v, some (.map (mapG filA (ksG c) (cntV c)) (some (List.range N, N)))) := fun v => by rw [hN]; rfl
    rw [hgx]
    refine pa [.f (.ptr 2 0 0) (fun σ => [(0, some (.map (mapG filA (ksG c) (cntV c)) (some (List.range N, N)))), (w + 1, some (.map [] none)), (0, some (.miter 0 0 N [] N))])] rfl ?_ ?_
    · (repeat' with_reducible apply AllP_cons) <;> try exact aC
      · exact OpSpec.mapN (C := [0 = 0]) rfl ⟨rfl, trivial⟩
    refine S_dead ?_ ⟨_, _, .inl rfl⟩
    have hnat : ∀ sn : List Nat, sn.Nodup → (∀ x ∈ sn, x < N) → sn.length ≤ N := fun sn h1 h2 => by
      have := List.Nodup.length_le_of_subset (l₂ := List.range N) h1 fun x hx => List.mem_range.2 (h2 x hx)
      simpa using this
    refine S_while (α := List Nat) (fun sn => [(12, .map 1 (w + 1)), (50, .ptr 2 0 0)]) (fun sn => [(0, some (.map (mapG filA (ksG c) (cntV c)) (some (List.range N, N)))), (w + 1, mapBx (ksD c sn) (fun _ => .bool true)), (0, some (.miter 0 0 N sn N)), (sn.length, none)]) (fun sn => sn.Nodup ∧ ∀ x ∈ sn, x < N) (fun sn => N - sn.length) []
      ⟨.nil, fun x h => by cases h⟩ (.cons rfl (.cons rfl (.nil _))) rfl ?_
    rintro sn ⟨hs1, hs2⟩
    refine pB [] rfl ?_
    refine S_mnext (id := 2) (ver := 0) (mid := 0) (mver := 0) (since := N) (last := N) (c := N) (seen := sn) (bs := List.range N) (kvs := mapG filA (ksG c) (cntV c)) rfl rfl rfl rfl (fun b hb => List.mem_range.1 hb) (Nat.le_refl _) rfl rfl ?_ ?_
    · intro i bb hi hb hns
      have hi2 : i < (ksG c).length := by simpa [mapG] using hi
      obtain rfl : i = bb := by
        rw [List.getElem?_range (by omega)] at hb
        exact Option.some.inj hb
      have hkv : (mapG filA (ksG c) (cntV c))[i]? = some (filA (ksG c)[i], cntV c (ksG c)[i]) := by simp [mapG, List.getElem?_eq_getElem hi2]
      have hadd := ksD_add c sn hi2
      have hn2 : (sn ++ [i]).Nodup := List.nodup_append.2 ⟨hs1, by simp, fun a ha b hb => by simp at hb; subst hb; exact fun e => hns (e ▸ ha)⟩
      have hm2 : ∀ x ∈ sn ++ [i], x < N := fun x hx => by
        rcases List.mem_append.1 hx with hx | hx
        · exact hs2 x hx
        · simp at hx; omega
      have hlen2 := hnat _ hn2 hm2
      rw [List.length_append] at hlen2
      have hlen2 : sn.length + 1 ≤ N := hlen2
      obtain ⟨f, hf⟩ : ∃ f, f = (ksG c)[i] := ⟨_, rfl⟩
      rw [← hf] at hkv hadd
      by_cases hc1 : c.count f = 1
      · rw [if_pos hc1] at hadd
        have e2 : (((c.count f : Nat) : Int) == 1) = true := by rw [hc1]; rfl
        refine pa [.b true, .v (.tup [filA f, cntV c f]), .b true] rfl ?_ ?_
        · (repeat' with_reducible apply AllP_cons) <;> try exact aC
          · exact OpSpec.entryG (id := 2) (ver := 0) (mid := 0) (mver := 0) (since := N) (c := N) (i := i) (b := i) (seen := sn) (bs := List.range N) rfl rfl rfl rfl hb hkv
        refine pan 1 [.f (.tup []) (fun σ => σ.set 1 (w + 1, mapBx (addK (ksD c sn) f.path) (fun _ => .bool true)))] rfl ?_ ?_
        · (repeat' with_reducible apply AllP_cons) <;> try exact aC
          · exact OpSpec.mput (kt := 9) (et := 4) (ks := ksD c sn) (val := fun _ => .bool true) (s := f.path) (v := .bool true) rfl (Tryz.underlying74) rfl rfl rfl rfl rfl (ksD_nodup c sn) (by rw [updF_const])
        refine S_drop (id := 3) rfl ?_ ⟨.skip, _, .inr ⟨_, _, _, rfl⟩⟩
        refine S_heap [(0, some (.map (mapG filA (ksG c) (cntV c)) (some (List.range N, N)))), (w + 1, mapBx (ksD c (sn ++ [i])) (fun _ => .bool true)), (0, some (.miter 0 0 N (sn ++ [i]) N)), ((sn ++ [i]).length, none)] ?_ ?_
        · rw [hadd, List.length_append]; rfl
        refine pB [] rfl ?_
        exact S_round (sn ++ [i]) (by show N - (sn ++ [i]).length < N - sn.length; rw [List.length_append]; show N - (sn.length + 1) < _; omega) ⟨hn2, hm2⟩ (.cons rfl (.cons rfl (.nil _))) rfl
      · rw [if_neg hc1] at hadd
        have e2 : (((c.count f : Nat) : Int) == 1) = false := by simpa using fun h => hc1 (by omega)
        refine pa [.b true, .v (.tup [filA f, cntV c f])] rfl ?_ ?_
        · (repeat' with_reducible apply AllP_cons) <;> try exact aC
          · exact OpSpec.entryG (id := 2) (ver := 0) (mid := 0) (mver := 0) (since := N) (c := N) (i := i) (b := i) (seen := sn) (bs := List.range N) rfl rfl rfl rfl hb hkv
        refine S_drop (id := 3) rfl ?_ ⟨_, _, .inl rfl⟩
        refine S_heap [(0, some (.map (mapG filA (ksG c) (cntV c)) (some (List.range N, N)))), (w + 1, mapBx (ksD c (sn ++ [i])) (fun _ => .bool true)), (0, some (.miter 0 0 N (sn ++ [i]) N)), ((sn ++ [i]).length, none)] ?_ ?_
        · rw [hadd, List.length_append]; rfl
        refine pB [.b false] rfl ?_
        exact S_round (sn ++ [i]) (by show N - (sn ++ [i]).length < N - sn.length; rw [List.length_append]; show N - (sn.length + 1) < _; omega) ⟨hn2, hm2⟩ (.cons rfl (.cons rfl (.nil _))) rfl
    · intro hall
      have hfin := ksD_all (c := c) (sn := sn) (by rw [← hN]; exact hall)
      have hkn := ksD_nodup c sn
      have hkm : ∀ p ∈ ksD c sn, p.length ≤ 1000000000 := by
        intro p hp
        obtain ⟨i, _, f, h1, _, rfl⟩ := (ksD_mem sn).1 hp
        have hf := ksG_mem.1 (List.mem_of_getElem? h1)
        rw [hc] at hf
        rcases List.mem_append.1 hf with hf | hf
        · have := (path_fst (hda.path f hf)).2.1; omega
        · have := (path_fst (hdb.path f hf)).2.1; omega
      have hkl2 : (ksD c sn).length ≤ c.length := by
        have h1 : (ksD c sn).length ≤ ((ksG c).map Fil.path).length := List.Nodup.length_le_of_subset hkn fun p hp => by
          obtain ⟨i, _, f, h1, _, rfl⟩ := (ksD_mem sn).1 hp
          exact List.mem_map_of_mem (List.mem_of_getElem? h1)
        rw [List.length_map] at h1
        omega
      rw [← hfin]
      refine pa [.b false, .f (.func (.func 94) [] [.ptr 3 (sn.length + 1) 0]) (fun σ => [(0, some (.map (mapG filA (ksG c) (cntV c)) (some (List.range N, N)))), (w + 1, mapBx (ksD c sn) (fun _ => .bool true)), (0, some (.miter 0 0 N sn N)), (sn.length + 1, some (.cells [.map 1 (w + 1)] ⟨false, some 74⟩))]), .k (.sl true false 1 ((sortT (ksD c sn)).map AV.str))] rfl ?_ ?_
      · (repeat' with_reducible apply AllP_cons) <;> try exact aC
        · exact KeysB_ok rfl
        · exact SortedB_ok (ks := ksD c sn) (val := fun _ => .bool true) rfl rfl hkn (by omega) hkm
      exact S_retc (.tup (by intro x hx; simp at hx; rcases hx with rfl | rfl; exact .sl (fun _ => rfl) (texts_any _); exact .int)) rfl trivial rfl
end Go.Proofs.YtpehmhlgldbeoaaGreatDoor
end
section
set_option linter.unusedVariables false
set_option linter.unusedSimpArgs false
namespace Go.Ab
open Go
section
variable {cx : Cx} {n : Nat} {B : Bs} {k : List AI} {Q : Post} {fr : Fr} {σ : Heap}
inductive Wv : AV → AV → Prop
  | refl {a} : Wv a a
  | nils {st fl sz} : Wv .nils (.sl st fl sz [])
  | sl {st fl st' fl' sz xs} (h1 : st' = true → st = true) (h2 : fl' = true → fl = true) : Wv (.sl st fl sz xs) (.sl st' fl' sz xs)
theorem Wv.rel {r : Rl} {w : World} {v : Value} {a a' : AV} (h : Wv a a') (hv : VRel r w v a) : VRel r w v a' := by
  cases h with
  | refl => exact hv
  | nils => cases hv; exact .sl0 (fun _ => rfl)
  | sl h1 h2 =>
    cases hv with
    | sl0 hf => exact .sl0 (fun h => hf (h2 h))
    | sl hn hc0 hf hI hS hsz f hc hv => exact .sl hn hc0 (fun h => hf (h2 h)) hI (fun h => hS (h1 h)) hsz f hc hv
theorem Wv.one {a a' : AV} (h : Wv a a') (ho : a.one = true) : a'.one = true := by
  cases h with
  | refl => exact ho
  | nils => rfl
  | sl _ _ => rfl
inductive Wvs : List AV → List AV → Prop
  | nil : Wvs [] []
  | cons {a b az bs} (h : Wv a b) (hs : Wvs az bs) : Wvs (a :: az) (b :: bs)
theorem Wvs.len {az bs : List AV} (h : Wvs az bs) : az.length = bs.length := by
  induction h with
  | nil => rfl
  | cons _ _ ih => simp [ih]
theorem Wvs.get {az bs : List AV} (h : Wvs az bs) : ∀ (i : Nat) (h1 : i < az.length) (h2 : i < bs.length), Wv az[i] bs[i] := by
  induction h with
  | nil => intro i h1; simp at h1
  | cons h hs ih =>
    intro i h1 h2
    cases i with
    | zero => exact h
    | succ i => exact ih i (by simpa using h1) (by simpa using h2)
theorem S_nilF {todo : List AI} (t sz : Nat) (st fl : Bool) (h : fr.get t = .nils) (hT : ∃ c k, todo = .code c :: k ∨ ∃ all l K, todo = .ops all l K :: k)
    (hk : S cx n B todo Q ((t, .sl st fl sz []) :: fr) σ) : S cx n B todo Q fr σ := by
  have key : ∀ r w a, FRel r w n fr a → FRel r w n ((t, .sl st fl sz []) :: fr) a := by
    intro r w a hf
    refine ⟨hf.size, fun s => ?_, fun vs hm => ?_⟩
    · rw [Fr.get_cons]
      split
      · rename_i hs
        subst hs
        have hv := hf.get t
        rw [h] at hv
        exact Wv.rel .nils hv
      · exact hf.get s
    · rw [Fr.get_cons] at hm
      split at hm
      · cases hm
      · exact hf.defs vs hm
  obtain ⟨c, k, hT⟩ := hT
  rcases hT with rfl | ⟨all, l, K, rfl⟩
  · exact fun r a w hi hf hd hx => hk r a w hi (key r w a hf) hd hx
  · exact fun r a w hi hf hd hx => hk r a w hi (key r w a hf) hd hx
end
end Go.Ab
end
section
set_option linter.unusedVariables false
set_option linter.unusedSimpArgs false
set_option maxRecDepth 20000
set_option maxHeartbeats 4000000
namespace Go.Proofs.YtpehmhlgldbeoaaGreatDoor
open Go Go.Ab
theorem set_nil : setT [] = [] := by unfold setT sortT; simp
end Go.Proofs.YtpehmhlgldbeoaaGreatDoor
end
section
set_option linter.unusedVariables false
set_option linter.unusedSimpArgs false
set_option maxRecDepth 20000
set_option maxHeartbeats 4000000
namespace Go.Proofs.YtpehmhlgldbeoaaGreatDoor
open Go Go.Ab
def atF (l : List Fil) (p : List UInt8) : Int := match l.findIdx? (fun f => f.path == p) with
  | some i => (i : Nat)
  | none => -1
theorem atF_at {l : List Fil} {p : List UInt8} {i : Nat} (hi : i < l.length) (h : (l[i].path == p) = true) (hn : ∀ j (hj : j < l.length), j < i → (l[j].path == p) = false) : atF l p = (i : Nat) := by
  have : l.findIdx? (fun f => f.path == p) = some i := by
    rw [List.findIdx?_eq_some_iff_getElem]
    exact ⟨hi, h, fun j hj => by simp [hn j (by omega) hj]⟩
  unfold atF; rw [this]
theorem atF_no {l : List Fil} {p : List UInt8} (hn : ∀ j (hj : j < l.length), (l[j].path == p) = false) : atF l p = -1 := by
  have : l.findIdx? (fun f => f.path == p) = none := by
    rw [List.findIdx?_eq_none_iff]
    intro f hf
    obtain ⟨j, hj, rfl⟩ := List.getElem_of_mem hf
    exact hn j hj
  unfold atF; rw [this]
theorem atF_cases (l : List Fil) (p : List UInt8) : (atF l p = -1 ∧ ∀ f ∈ l, f.path ≠ p) ∨ ∃ i, ∃ h : i < l.length, atF l p = (i : Nat) ∧ l[i].path = p := by
  unfold atF
  cases hq : l.findIdx? (fun f => f.path == p) with
  | none =>
    rw [List.findIdx?_eq_none_iff] at hq
    exact .inl ⟨rfl, fun f hf e => by have := hq f hf; simp [e] at this⟩
  | some i =>
    rw [List.findIdx?_eq_some_iff_getElem] at hq
    obtain ⟨h1, h2, _⟩ := hq
    exact .inr ⟨i, h1, rfl, by simpa using h2⟩
theorem FileAt_ok {st fl : Bool} (l : List Fil) (p : List UInt8) (hl : l.length ≤ 1000000000) : Calc cx 41 [.sl st fl 3 (fils l), .str p] (.int .i64 (atF l p)) :=
  pure_intro (fun a w => Tryz.call41 a w) Tryz.func41 rfl Tryz.ntmps41 rfl .int fun B => by
    have hll := fils_len l
    refine pB [] rfl ?_
    refine S_while (α := Nat) (fun i => [(0, .sl st fl 3 (fils l)), (1, .str p), (5, .int .i64 (i : Nat))]) (fun _ => []) (fun i => i ≤ l.length ∧ ∀ j (hj : j < l.length), j < i → (l[j].path == p) = false) (fun i => l.length - i) 0
      ⟨Nat.zero_le _, fun j hj h => absurd h (Nat.not_lt_zero _)⟩ (.cons rfl (.cons rfl (.cons rfl (.nil _)))) rfl ?_
    rintro i ⟨hi, hn⟩
    have hi : i ≤ l.length := hi
    by_cases hlt : i < l.length
    · have e1 : decide ((i : Int) < (((fils l).length : Nat) : Int)) = true := decide_eq_true (by omega)
      have g1 : (fils l)[(i : Int).toNat]? = some (filA l[i]) := fils_get hlt
      cases h : l[i].path == p with
      | true =>
        rw [atF_at hlt h hn]
        refine pB [.b true, .v (filA l[i]), .b true] rfl ?_
        exact S_retc .int rfl trivial rfl
      | false =>
        refine pB [.b true, .v (filA l[i]), .b false] rfl ?_
        exact S_round (i + 1) (by show l.length - (i + 1) < l.length - i; omega) ⟨hlt, fun j hj h' => by
          by_cases hji : j < i
          · exact hn j hj hji
          · have : j = i := by omega
            subst this; exact h⟩ (.cons rfl (.cons rfl (.cons (nX (by omega)) (.nil _)))) rfl
    · have hil : i = l.length := by omega
      subst hil
      have e1 : decide ((l.length : Int) < (((fils l).length : Nat) : Int)) = false := decide_eq_false (by omega)
      rw [atF_no (fun j hj => hn j hj hj)]
      refine pB [.b false] rfl ?_
      exact S_retc .int rfl trivial rfl
theorem fil_eq (x y : Fil) : ((x.path == y.path) && ((x.text == y.text) && ((x.run == y.run) && true))) = decide (x = y) := by
  obtain ⟨p, t, r⟩ := x
  obtain ⟨p', t', r'⟩ := y
  show ((p == p') && ((t == t') && ((r == r') && true))) = _
  by_cases h1 : p = p' <;> by_cases h2 : t = t' <;> by_cases h3 : r = r' <;> simp [h1, h2, h3]
theorem cmpFilD : cmpOk cx.P 48 = true := by kernel_rfl
theorem ok_nodup {l : List Fil} (h : okT l) : l.Nodup := by
  refine List.Pairwise.imp (fun {f g} h e => ?_) h.1
  rw [e, bl_irr] at h; cases h
theorem ok_path {l : List Fil} (h : okT l) {f g : Fil} (hf : f ∈ l) (hg : g ∈ l) (e : f.path = g.path) : f = g := by
  obtain ⟨i, hi, rfl⟩ := List.getElem_of_mem hf
  obtain ⟨j, hj, rfl⟩ := List.getElem_of_mem hg
  have hp := List.pairwise_iff_getElem.1 h.1
  rcases Nat.lt_trichotomy i j with hij | hij | hij
  · have := hp i j hi hj hij; rw [e, bl_irr] at this; cases this
  · subst hij; rfl
  · have := hp j i hj hi hij; rw [e, bl_irr] at this; cases this
theorem ok_count {l : List Fil} (h : okT l) {f : Fil} (hf : f ∈ l) : l.count f = 1 := by
  have h1 := List.nodup_iff_count.1 (ok_nodup h) f
  have h2 := List.count_pos_iff.2 hf
  omega
def onceL (c : List Fil) (i : Nat) : List (List UInt8) := ((c.take i).filter fun f => c.count f == 1).map Fil.path
theorem once_step {c : List Fil} {i : Nat} (h : i < c.length) : onceL c (i + 1) = if c.count c[i] = 1 then onceL c i ++ [c[i].path] else onceL c i := by
  unfold onceL
  rw [List.take_succ_eq_append_getElem h, List.filter_append, List.map_append]
  by_cases h1 : c.count c[i] = 1
  · rw [if_pos h1]; simp [List.filter_cons, h1]
  · rw [if_neg h1]; simp [List.filter_cons, h1]
theorem once_all (c : List Fil) : setT (onceL c c.length) = difT c := by unfold onceL difT; rw [List.take_length]
theorem DiffersTree_ok {st fl st' fl' : Bool} (a b : List Fil) (ha : DirOk 101 a) (hb : DirOk 101 b) : Calc cx 38 [.sl st fl 3 (fils a), .sl st' fl' 3 (fils b)] (.sl true false 1 (texts (difT (a ++ b)))) :=
  pure_intro (fun a w => Tryz.call38 a w) Tryz.func38 rfl Tryz.ntmps38 rfl (.sl (fun _ => rfl) (texts_any _)) fun B => by
    have hla := ha.len
    have hlb := hb.len
    have hna := fils_len a
    have hnb := fils_len b
    obtain ⟨c, hc⟩ : ∃ c, c = a ++ b := ⟨_, rfl⟩
    have hcl : c.length = a.length + b.length := by rw [hc, List.length_append]
    have hw : IntKind.i64.wrap ((((fils a).length : Nat) : Int) + (((fils b).length : Nat) : Int)) = (c.length : Int) := by
      rw [hna, hnb, hcl]; exact w64 (by omega) (by omega)
    rw [← hc]
    refine pB [] rfl ?_
    refine S_nilF 5 1 true false rfl ⟨_, _, .inl rfl⟩ ?_
    refine S_dead ?_ ⟨_, _, .inl rfl⟩
    refine S_while (α := Nat) (fun i => [(0, .sl st fl 3 (fils a)), (1, .sl st' fl' 3 (fils b)), (5, .sl true false 1 (texts (setT (onceL c i)))), (6, .int .i64 (i : Nat))]) (fun i => [(i, none)]) (fun i => i ≤ c.length) (fun i => c.length - i) 0
      (Nat.zero_le _) (.cons rfl (.cons rfl (.cons (by show AV.sl true false 1 [] = AV.sl true false 1 (texts (setT [])); rw [set_nil]; rfl) (.cons rfl (.nil _))))) rfl ?_
    intro i hi
    have hi : i ≤ c.length := hi
    by_cases hlt : i < c.length
    · have e1 : decide ((i : Int) < IntKind.i64.wrap ((((fils a).length : Nat) : Int) + (((fils b).length : Nat) : Int))) = true := by rw [hw]; exact decide_eq_true (by omega)
      have hst := once_step hlt
      have hsl : (setT (onceL c i)).length ≤ 120 := by
        refine Nat.le_trans (setT_len _) ?_
        unfold onceL
        rw [List.length_map]
        refine Nat.le_trans (List.length_filter_le _ _) ?_
        rw [List.length_take]; omega
      have hA := AddText_ok (fl := false) (setT (onceL c i)) c[i].path (by omega)
      rw [addT_set] at hA
      obtain ⟨x, hx⟩ : ∃ x, x = c[i] := ⟨_, rfl⟩
      rw [← hx] at hst hA
      by_cases hia : i < a.length
      · have e2 : decide ((i : Int) < (((fils a).length : Nat) : Int)) = true := decide_eq_true (by omega)
        have hxa : x = a[i] := by rw [hx]; simp only [hc]; rw [List.getElem_append_left hia]
        have g1 : (fils a)[(i : Int).toNat]? = some (filA x) := by rw [hxa]; exact fils_get hia
        have hF := FileAt_ok (st := st') (fl := fl') b x.path (by omega)
        have hcnt : c.count x = 1 ↔ x ∉ b := by
          rw [hc, List.count_append, ok_count ha.ok (by rw [hxa]; exact List.getElem_mem hia)]
          constructor
          · intro h hm; have := List.count_pos_iff.2 hm; omega
          · intro h; rw [List.count_eq_zero_of_not_mem h]
        rcases atF_cases b x.path with ⟨q1, q2⟩ | ⟨j, hj, q1, q2⟩
        · have hnm : x ∉ b := fun h => q2 x h rfl
          rw [if_pos (hcnt.2 hnm)] at hst
          rw [q1] at hF
          refine pa [.b true, .b true, .v (filA x), .v (.int .i64 (-1)), .b true, .b true, .v (.sl true false 1 (texts (setT (onceL c i ++ [x.path])))), .s] rfl ?_ ?_
          · (repeat' with_reducible apply AllP_cons) <;> try exact aC
            all_goals first | exact ⟨_, hF, .cons (.refl (.sl (fun h => by cases h) (fils_free b))) (.cons (.refl .str) (.nil _))⟩ | exact ⟨_, hA, .cons (.refl (.sl (fun h => by cases h) (texts_any _))) (.cons (.refl .str) (.nil _))⟩ | exact g1 | skip
          refine S_drop (id := 0) rfl ?_ ⟨.skip, _, .inr ⟨_, _, _, rfl⟩⟩
          refine pB [] rfl ?_
          exact S_round (i + 1) (by show c.length - (i + 1) < c.length - i; omega) hlt (.cons rfl (.cons rfl (.cons (by rw [hst]; rfl) (.cons (nX (by omega)) (.nil _))))) rfl
        · have g2 : (fils b)[(j : Int).toNat]? = some (filA b[j]) := fils_get hj
          have e3 : decide ((j : Int) < 0) = false := decide_eq_false (by omega)
          have he := fil_eq b[j] x
          rw [q1] at hF
          by_cases hex : b[j] = x
          · rw [if_neg (fun h => hcnt.1 h (hex ▸ List.getElem_mem hj))] at hst
            have e4 : (!((b[j].path == x.path) && ((b[j].text == x.text) && ((b[j].run == x.run) && true)))) = false := by rw [he, decide_eq_true hex]; rfl
            refine pa [.b true, .b true, .v (filA x), .v (.int .i64 (j : Nat)), .b false, .v (filA b[j]), .b false, .s] rfl ?_ ?_
            · (repeat' with_reducible apply AllP_cons) <;> try exact aC
              all_goals first | exact ⟨_, hF, .cons (.refl (.sl (fun h => by cases h) (fils_free b))) (.cons (.refl .str) (.nil _))⟩ | exact ⟨_, hA, .cons (.refl (.sl (fun h => by cases h) (texts_any _))) (.cons (.refl .str) (.nil _))⟩ | exact cmpFilD | exact g1 | exact g2 | exact e4 | skip
            refine S_drop (id := 0) rfl ?_ ⟨.skip, _, .inr ⟨_, _, _, rfl⟩⟩
            refine pB [] rfl ?_
            exact S_round (i + 1) (by show c.length - (i + 1) < c.length - i; omega) hlt (.cons rfl (.cons rfl (.cons (by rw [hst]; rfl) (.cons (nX (by omega)) (.nil _))))) rfl
          · rw [if_pos (hcnt.2 fun h => hex (ok_path hb.ok (List.getElem_mem hj) h q2))] at hst
            have e4 : (!((b[j].path == x.path) && ((b[j].text == x.text) && ((b[j].run == x.run) && true)))) = true := by rw [he, decide_eq_false hex]; rfl
            refine pa [.b true, .b true, .v (filA x), .v (.int .i64 (j : Nat)), .b false, .v (filA b[j]), .b true, .v (.sl true false 1 (texts (setT (onceL c i ++ [x.path])))), .s] rfl ?_ ?_
            · (repeat' with_reducible apply AllP_cons) <;> try exact aC
              all_goals first | exact ⟨_, hF, .cons (.refl (.sl (fun h => by cases h) (fils_free b))) (.cons (.refl .str) (.nil _))⟩ | exact ⟨_, hA, .cons (.refl (.sl (fun h => by cases h) (texts_any _))) (.cons (.refl .str) (.nil _))⟩ | exact cmpFilD | exact g1 | exact g2 | exact e4 | skip
            refine S_drop (id := 0) rfl ?_ ⟨.skip, _, .inr ⟨_, _, _, rfl⟩⟩
            refine pB [] rfl ?_
            exact S_round (i + 1) (by show c.length - (i + 1) < c.length - i; omega) hlt (.cons rfl (.cons rfl (.cons (by rw [hst]; rfl) (.cons (nX (by omega)) (.nil _))))) rfl
      · have e2 : decide ((i : Int) < (((fils a).length : Nat) : Int)) = false := decide_eq_false (by omega)
        have hib : i - a.length < b.length := by omega
        have hxa : x = b[i - a.length] := by rw [hx]; simp only [hc]; rw [List.getElem_append_right (by omega)]
        have hsub : IntKind.i64.wrap ((i : Int) - (((fils a).length : Nat) : Int)) = ((i - a.length : Nat) : Int) := by
          rw [hna, show ((i : Int) - (a.length : Int)) = ((i - a.length : Nat) : Int) by omega]; exact wrap_i64n (by omega)
        have g1 : (fils b)[(IntKind.i64.wrap ((i : Int) - (((fils a).length : Nat) : Int))).toNat]? = some (filA x) := by rw [hsub, hxa]; exact fils_get hib
        have g0 : 0 ≤ IntKind.i64.wrap ((i : Int) - (((fils a).length : Nat) : Int)) := by rw [hsub]; omega
        have hF := FileAt_ok (st := st) (fl := fl) a x.path (by omega)
        have hcnt : c.count x = 1 ↔ x ∉ a := by
          have h1 := ok_count hb.ok (f := x) (by rw [hxa]; exact List.getElem_mem hib)
          rw [hc, List.count_append, h1]
          constructor
          · intro h hm; have := List.count_pos_iff.2 hm; omega
          · intro h; rw [List.count_eq_zero_of_not_mem h]
        rcases atF_cases a x.path with ⟨q1, q2⟩ | ⟨j, hj, q1, q2⟩
        · have hnm : x ∉ a := fun h => q2 x h rfl
          rw [if_pos (hcnt.2 hnm)] at hst
          rw [q1] at hF
          refine pa [.b true, .b false, .v (filA x), .v (.int .i64 (-1)), .b true, .b true, .v (.sl true false 1 (texts (setT (onceL c i ++ [x.path])))), .s] rfl ?_ ?_
          · (repeat' with_reducible apply AllP_cons) <;> try exact aC
            all_goals first | exact ⟨_, hF, .cons (.refl (.sl (fun h => by cases h) (fils_free a))) (.cons (.refl .str) (.nil _))⟩ | exact ⟨_, hA, .cons (.refl (.sl (fun h => by cases h) (texts_any _))) (.cons (.refl .str) (.nil _))⟩ | exact g1 | skip
          refine S_drop (id := 0) rfl ?_ ⟨.skip, _, .inr ⟨_, _, _, rfl⟩⟩
          refine pB [] rfl ?_
          exact S_round (i + 1) (by show c.length - (i + 1) < c.length - i; omega) hlt (.cons rfl (.cons rfl (.cons (by rw [hst]; rfl) (.cons (nX (by omega)) (.nil _))))) rfl
        · have g2 : (fils a)[(j : Int).toNat]? = some (filA a[j]) := fils_get hj
          have e3 : decide ((j : Int) < 0) = false := decide_eq_false (by omega)
          have he := fil_eq a[j] x
          rw [q1] at hF
          by_cases hex : a[j] = x
          · rw [if_neg (fun h => hcnt.1 h (hex ▸ List.getElem_mem hj))] at hst
            have e4 : (!((a[j].path == x.path) && ((a[j].text == x.text) && ((a[j].run == x.run) && true)))) = false := by rw [he, decide_eq_true hex]; rfl
            refine pa [.b true, .b false, .v (filA x), .v (.int .i64 (j : Nat)), .b false, .v (filA a[j]), .b false, .s] rfl ?_ ?_
            · (repeat' with_reducible apply AllP_cons) <;> try exact aC
              all_goals first | exact ⟨_, hF, .cons (.refl (.sl (fun h => by cases h) (fils_free a))) (.cons (.refl .str) (.nil _))⟩ | exact ⟨_, hA, .cons (.refl (.sl (fun h => by cases h) (texts_any _))) (.cons (.refl .str) (.nil _))⟩ | exact cmpFilD | exact g1 | exact g2 | exact e4 | skip
            refine S_drop (id := 0) rfl ?_ ⟨.skip, _, .inr ⟨_, _, _, rfl⟩⟩
            refine pB [] rfl ?_
            exact S_round (i + 1) (by show c.length - (i + 1) < c.length - i; omega) hlt (.cons rfl (.cons rfl (.cons (by rw [hst]; rfl) (.cons (nX (by omega)) (.nil _))))) rfl
          · rw [if_pos (hcnt.2 fun h => hex (ok_path ha.ok (List.getElem_mem hj) h q2))] at hst
            have e4 : (!((a[j].path == x.path) && ((a[j].text == x.text) && ((a[j].run == x.run) && true)))) = true := by rw [he, decide_eq_false hex]; rfl
            refine pa [.b true, .b false, .v (filA x), .v (.int .i64 (j : Nat)), .b false, .v (filA a[j]), .b true, .v (.sl true false 1 (texts (setT (onceL c i ++ [x.path])))), .s] rfl ?_ ?_
            · (repeat' with_reducible apply AllP_cons) <;> try exact aC
              all_goals first | exact ⟨_, hF, .cons (.refl (.sl (fun h => by cases h) (fils_free a))) (.cons (.refl .str) (.nil _))⟩ | exact ⟨_, hA, .cons (.refl (.sl (fun h => by cases h) (texts_any _))) (.cons (.refl .str) (.nil _))⟩ | exact cmpFilD | exact g1 | exact g2 | exact e4 | skip
            refine S_drop (id := 0) rfl ?_ ⟨.skip, _, .inr ⟨_, _, _, rfl⟩⟩
            refine pB [] rfl ?_
            exact S_round (i + 1) (by show c.length - (i + 1) < c.length - i; omega) hlt (.cons rfl (.cons rfl (.cons (by rw [hst]; rfl) (.cons (nX (by omega)) (.nil _))))) rfl
    · have hil : i = c.length := by omega
      subst hil
      have e1 : decide ((c.length : Int) < IntKind.i64.wrap ((((fils a).length : Nat) : Int) + (((fils b).length : Nat) : Int))) = false := by rw [hw]; exact decide_eq_false (by omega)
      rw [once_all]
      refine pB [.b false] rfl ?_
      exact S_retc (.sl (fun _ => rfl) (texts_any _)) rfl trivial rfl
end Go.Proofs.YtpehmhlgldbeoaaGreatDoor
end
section
set_option linter.unusedVariables false
set_option linter.unusedSimpArgs false
set_option maxRecDepth 20000
namespace Go.Proofs.YtpehmhlgldbeoaaGreatDoor
open Go Go.Ab
theorem textsAre_ok {st fl st' fl' : Bool} (p q : List (List UInt8)) (e w : Nat) (hp : p.length ≤ 9223372036854775806) (hq : q.length ≤ 9223372036854775806) : Calc cx 30 [.sl st fl 1 (texts p), .int .i64 e, .int .i64 w, .sl st' fl' 1 (texts q)] (.bool (e == w && p == (if w = 0 then q else []))) :=
  pure_intro (fun a w => Tryz.call30 a w) Tryz.func30 rfl Tryz.ntmps30 rfl .bool fun B => by
    have lend : ∀ σ : Heap, Frz false σ (.sl st fl 1 (texts p)) (.sl st fl 1 (texts p)) := fun σ => .refl (.sl (fun h => by cases h) (texts_any p))
    have lend' : ∀ σ : Heap, Frz false σ (.sl st' fl' 1 (texts q)) (.sl st' fl' 1 (texts q)) := fun σ => .refl (.sl (fun h => by cases h) (texts_any q))
    refine ab 1000 rfl trivial ?_
    have fin : ∀ (B : Bool), ((e : Int) == (w : Int)) = (e == w) := by
      intro _
      by_cases h : e = w
      · subst h; simp
      · have : (e : Int) ≠ w := by omega
        rw [beq_eq_false_iff_ne.2 this, beq_eq_false_iff_ne.2 h]
    refine S_bne rfl (fun h => ?_) (fun h => ?_)
    · have hw : w ≠ 0 := by omega
      rw [if_neg hw]
      refine ab 1000 rfl trivial ?_
      refine S_guard rfl rfl rfl rfl (fun hg => ?_) (fun hg => ?_)
      · refine ab 1000 rfl trivial ?_
        refine S_pure rfl rfl rfl (SameTexts_ok (st := st) (st' := false) (fl := fl) (fl' := false) p [] hp (by decide)) (.cons (lend _) (.cons .nils (.nil _))) ?_
        refine ab 1000 rfl trivial ?_
        refine S_retc .bool rfl trivial ?_
        rw [← fin true, hg]; rfl
      · refine ab 1000 rfl trivial ?_
        refine S_retc .bool rfl trivial ?_
        rw [← fin true, hg]; rfl
    · have hw : w = 0 := by omega
      rw [if_pos hw]
      refine ab 1000 rfl trivial ?_
      refine S_guard rfl rfl rfl rfl (fun hg => ?_) (fun hg => ?_)
      · refine ab 1000 rfl trivial ?_
        refine S_pure rfl rfl rfl (SameTexts_ok (st := st) (st' := st') (fl := fl) (fl' := fl') p q hp (by omega)) (.cons (lend _) (.cons (lend' _) (.nil _))) ?_
        refine ab 1000 rfl trivial ?_
        refine S_retc .bool rfl trivial ?_
        rw [← fin true, hg]; rfl
      · refine ab 1000 rfl trivial ?_
        refine S_retc .bool rfl trivial ?_
        rw [← fin true, hg]; rfl
end Go.Proofs.YtpehmhlgldbeoaaGreatDoor
end
section
set_option linter.unusedVariables false
set_option linter.unusedSimpArgs false
set_option maxRecDepth 20000
set_option maxHeartbeats 4000000
namespace Go.Proofs.YtpehmhlgldbeoaaGreatDoor
open Go Go.Ab
theorem fsR {σ : Heap} {st fl : Bool} (l : List Fil) : Frz false σ (.sl st fl 3 (fils l)) (.sl st fl 3 (fils l)) := .refl (.sl (fun h => by cases h) (fils_free l))
theorem txR {σ : Heap} {st fl : Bool} (l : List (List UInt8)) : Frz false σ (.sl st fl 1 (texts l)) (.sl st fl 1 (texts l)) := .refl (.sl (fun h => by cases h) (texts_any l))
theorem twoTrees_ok {st fl st' fl' : Bool} (a b : List Fil) (ha : FilsOk a) (hb : FilsOk b) : Calc cx 37 [.sl st fl 3 (fils a), .sl st' fl' 3 (fils b)] (.int .i64 (difE a b : Nat)) :=
  pure_intro (fun a w => Tryz.call37 a w) Tryz.func37 rfl Tryz.ntmps37 rfl .int fun B => by
    have hA := CheckTree_ok (st := st) (fl := fl) a ha
    have hB := CheckTree_ok (st := st') (fl := fl') b hb
    unfold difE
    by_cases hc : chkT a = 0
    · rw [if_pos hc]
      rw [hc] at hA
      refine pa [.v (.int .i64 ((0 : Nat) : Int)), .b true, .v (.int .i64 (chkT b : Nat))] rfl ?_ ?_
      · (repeat' with_reducible apply AllP_cons) <;> try exact aC
        · exact ⟨_, hA, .cons (fsR a) (.nil _)⟩
        · exact ⟨_, hB, .cons (fsR b) (.nil _)⟩
      exact S_retc .int rfl trivial rfl
    · rw [if_neg hc]
      have e1 : (((chkT a : Nat) : Int) == 0) = false := by simpa using hc
      refine pa [.v (.int .i64 (chkT a : Nat)), .b false] rfl ?_ ?_
      · (repeat' with_reducible apply AllP_cons) <;> try exact aC
        · exact ⟨_, hA, .cons (fsR a) (.nil _)⟩
      exact S_retc .int rfl trivial rfl
theorem dif_both {a b : List Fil} (h : difE a b = 0) : chkT a = 0 ∧ chkT b = 0 := by
  unfold difE at h
  by_cases hc : chkT a = 0
  · rw [if_pos hc] at h; exact ⟨hc, h⟩
  · rw [if_neg hc] at h; exact absurd h hc
theorem dif_len {a b : List Fil} (h : difE a b = 0) : (difT (a ++ b)).length ≤ 120 := by
  obtain ⟨h1, h2⟩ := dif_both h
  have h3 := (DirOk.of h1).len
  have h4 := (DirOk.of h2).len
  unfold difT
  refine Nat.le_trans (setT_len _) ?_
  rw [List.length_map]
  refine Nat.le_trans (List.length_filter_le _ _) ?_
  rw [List.length_append]; omega
theorem TreeDiffers_ok (a b : List Fil) (hk : avB (.sl true false 3 (fils a)) ≤ 1048576) (hk' : avB (.sl true false 3 (fils b)) ≤ 1048576) : Calc cx 11 [.sl true false 3 (fils a), .sl true false 3 (fils b)] (.bool true) :=
  pure_intro (fun a w => Tryz.call11 a w) Tryz.func11 rfl Tryz.ntmps11 rfl .bool fun B => by
    have hA := fils_of hk
    have hB := fils_of hk'
    have hD := Differs_ok (st := true) (fl := false) (st' := true) (fl' := false) a b hA hB
    have hW := twoTrees_ok (st := true) (fl := false) (st' := true) (fl' := false) a b hA hB
    have hfr : ∀ σ : Heap, Frzs σ [.sl true false 3 (fils a), .sl true false 3 (fils b)] [.sl true false 3 (fils a), .sl true false 3 (fils b)] := fun σ => .cons (fsR a) (.cons (fsR b) (.nil _))
    unfold difAV at hD
    by_cases hc : difE a b = 0
    · obtain ⟨h1, h2⟩ := dif_both hc
      have hl := dif_len hc
      rw [if_pos hc] at hD
      rw [hc] at hW
      have hQ := DiffersTree_ok (st := true) (fl := false) (st' := true) (fl' := false) a b (DirOk.of h1) (DirOk.of h2)
      generalize difT (a ++ b) = d at *
      have hT := textsAre_ok (st := true) (fl := false) (st' := true) (fl' := false) d d 0 0 (by omega) (by omega)
      rw [show ((0 : Nat) == 0 && d == (if (0 : Nat) = 0 then d else [])) = true by simp] at hT
      refine pa [.v (.tup [.sl true false 1 (texts d), .int .i64 ((0 : Nat) : Int)]), .v (.int .i64 ((0 : Nat) : Int)), .b true, .v (.sl true false 1 (texts d)), .v (.bool true), .b true, .v (.bool true)] rfl ?_ ?_
      · (repeat' with_reducible apply AllP_cons) <;> try exact aC
        · exact ⟨_, hD, hfr _⟩
        · exact ⟨_, hW, hfr _⟩
        · exact ⟨_, hQ, hfr _⟩
        · exact ⟨_, treeBegun_ok, .nil _⟩
        · exact ⟨_, hT, .cons (txR _) (.cons (.refl .int) (.cons (.refl .int) (.cons (txR _) (.nil _))))⟩
      exact S_retc .bool rfl trivial rfl
    · rw [if_neg hc] at hD
      generalize difE a b = e at *
      have hT := textsAre_ok (st := false) (fl := false) (st' := false) (fl' := false) [] [] e e (by decide) (by decide)
      rw [show (e == e && ([] : List (List UInt8)) == (if e = 0 then [] else [])) = true by simp] at hT
      refine pa [.v (.tup [.nils, .int .i64 (e : Nat)]), .v (.int .i64 (e : Nat)), .b false, .v (.bool true), .b true, .v (.bool true)] rfl ?_ ?_
      · (repeat' with_reducible apply AllP_cons) <;> try exact aC
        · exact ⟨_, hD, hfr _⟩
        · exact ⟨_, hW, hfr _⟩
        all_goals first | exact ⟨_, treeBegun_ok, .nil _⟩ | exact ⟨_, hT, .cons .nils (.cons (.refl .int) (.cons (.refl .int) (.cons .nils (.nil _))))⟩ | (show (((e : Int) == 0) = false); simpa using hc)
      exact S_retc .bool rfl trivial rfl
end Go.Proofs.YtpehmhlgldbeoaaGreatDoor
end
section
set_option linter.unusedVariables false
set_option linter.unusedSimpArgs false
set_option maxRecDepth 20000
namespace Go.Proofs.YtpehmhlgldbeoaaGreatDoor
open Go Go.Ab
theorem open_file {H : Type} {d : DataW H} {a : AV} (h : RdD Tryz.prog 48 d a) : ∃ f : Fil, a = filA f := by
  obtain ⟨ds, xs, rfl, rfl, hall⟩ := h.inv_st Tryz.underlying48
  obtain ⟨d0, ds, x0, xs, rfl, rfl, h0, hall⟩ := hall.cons
  obtain ⟨d1, ds, x1, xs, rfl, rfl, h1, hall⟩ := hall.cons
  obtain ⟨d2, ds, x2, xs, rfl, rfl, h2, hall⟩ := hall.cons
  obtain ⟨rfl, rfl⟩ := hall.nil
  obtain ⟨s0, rfl, rfl, _⟩ := h0.inv_str Tryz.underlying9
  obtain ⟨s1, rfl, rfl, _⟩ := h1.inv_str Tryz.underlying9
  obtain ⟨b, rfl, rfl⟩ := h2.inv_bool Tryz.underlying4
  exact ⟨⟨s0, s1, b⟩, rfl⟩
theorem open_F {H : Type} {d : DataW H} {a : AV} (h : RdD Tryz.prog 22 d a) : ∃ l : List Fil, a = .sl true false 3 (fils l) := by
  obtain ⟨ds, xs, rfl, hl, hm, hall, _⟩ := h.inv_sl Tryz.underlying22
  obtain ⟨ys, rfl, hy, hg⟩ := RdD.each filA (fun _ _ => True) hl hall (fun d x h => by
    obtain ⟨f, rfl⟩ := open_file h
    exact ⟨f, rfl, trivial⟩)
  have hc : Tryz.prog.cellsOf 48 = 3 := by kernel_rfl
  exact ⟨ys, by rw [hc]; rfl⟩
end Go.Proofs.YtpehmhlgldbeoaaGreatDoor
end
