/-
  Texts of our own, in one file.
-/
import Derived.Test.YtpehmhlgldbeoaaGreatDoorGrpD
import Derived.WideShapes
section
set_option linter.unusedVariables false
set_option linter.unusedSimpArgs false
set_option maxRecDepth 20000
set_option maxHeartbeats 4000000
namespace Go.Proofs.YtpehmhlgldbeoaaGreatDoor
open Go Go.Ab
def flatN (sub : List UInt8 → List UInt8 → List Fil → List Fil × Nat) (get : List UInt8 → Option (List UInt8)) (path : List UInt8) : List NodeV → List Fil → List Fil × Nat
  | [], out => (out, 0)
  | nd :: r, out =>
    if 100 < (path ++ nd.name).length then (out, 2)
    else if nd.kind = 3 then
      if (sub nd.dig (path ++ nd.name ++ [47]) out).2 = 0 then flatN sub get path r (sub nd.dig (path ++ nd.name ++ [47]) out).1 else sub nd.dig (path ++ nd.name ++ [47]) out
    else match get nd.dig with
      | none => (out, 5)
      | some t => if out.length = 60 then (out, 2) else flatN sub get path r (out ++ [⟨path ++ nd.name, t, nd.kind == 2⟩])
def flatD (get : List UInt8 → Option (List UInt8)) : Nat → List UInt8 → List UInt8 → List Fil → List Fil × Nat
  | 0, d, path, out => (out, 0)
  | n + 1, d, path, out => match get d with
    | none => (out, 5)
    | some s => if (readNd s).2 ≠ 0 then (out, 1) else if (readNd s).1 = [] ∧ path ≠ [] then (out, 4) else flatN (flatD get n) get path (readNd s).1 out
theorem cels_free {st : Bool} (g : List Fil) : ∀ x ∈ celsF g, Free st x := by
  intro x hx
  obtain ⟨y, hy, hx⟩ := List.mem_flatMap.1 hx
  obtain ⟨f, _, rfl⟩ := List.mem_map.1 hy
  have hx : x ∈ [AV.str f.path, .str f.text, .bool f.run] := hx
  simp at hx; rcases hx with rfl | rfl | rfl
  · exact .str
  · exact .str
  · exact .bool
theorem celsF_add (g : List Fil) (f : Fil) : celsF (g ++ [f]) = celsF g ++ [.str f.path, .str f.text, .bool f.run] := by
  unfold celsF fils
  rw [List.map_append, List.flatMap_append]; rfl
theorem flatN_len {sub : List UInt8 → List UInt8 → List Fil → List Fil × Nat} {get : List UInt8 → Option (List UInt8)} {path : List UInt8} (hs : ∀ d p o, o.length ≤ 60 → (sub d p o).1.length ≤ 60 ∧ o.length ≤ (sub d p o).1.length) :
    ∀ (l : List NodeV) (out : List Fil), out.length ≤ 60 → (flatN sub get path l out).1.length ≤ 60 ∧ out.length ≤ (flatN sub get path l out).1.length
  | [], out, h => ⟨h, Nat.le_refl _⟩
  | nd :: r, out, h => by
    rw [flatN]
    split
    · exact ⟨h, Nat.le_refl _⟩
    split
    · have h1 := hs nd.dig (path ++ nd.name ++ [47]) out h
      split
      · have h2 := flatN_len (get := get) (path := path) hs r _ h1.1
        exact ⟨h2.1, Nat.le_trans h1.2 h2.2⟩
      · exact h1
    split
    · exact ⟨h, Nat.le_refl _⟩
    · split
      · exact ⟨h, Nat.le_refl _⟩
      · have h2 := flatN_len (get := get) (path := path) hs r (out ++ [⟨path ++ nd.name, ‹_›, nd.kind == 2⟩]) (by simp; omega)
        rw [List.length_append] at h2
        exact ⟨h2.1, Nat.le_trans (Nat.le_add_right _ _) h2.2⟩
theorem flatD_len (get : List UInt8 → Option (List UInt8)) : ∀ (n : Nat) (d path : List UInt8) (out : List Fil), out.length ≤ 60 → (flatD get n d path out).1.length ≤ 60 ∧ out.length ≤ (flatD get n d path out).1.length
  | 0, d, path, out, h => ⟨h, Nat.le_refl _⟩
  | n + 1, d, path, out, h => by
    rw [flatD]
    split
    · exact ⟨h, Nat.le_refl _⟩
    · split
      · exact ⟨h, Nat.le_refl _⟩
      · split
        · exact ⟨h, Nat.le_refl _⟩
        · exact flatN_len (flatD_len get n) _ out h
theorem readNd_fit {s : List UInt8} (h : (readNd s).2 = 0) : chkN (readNd s).1 = 0 := by
  unfold readNd at h ⊢
  split at h
  · cases h
  · rename_i ts q hx
    split at h
    · rename_i hq
      rw [if_pos hq]
      unfold nodesOf at hq
      exact congrArg Prod.snd hq
    · cases h
theorem readNd_len {s : List UInt8} (h : (readNd s).2 = 0) : (readNd s).1.length ≤ 60 := (chk_fit (readNd_fit h)).len
theorem readNd_name {s : List UInt8} (h : (readNd s).2 = 0) : ∀ x ∈ (readNd s).1, x.name.length ≤ 20 := (chk_fit (readNd_fit h)).name
def getM (ks : List (List UInt8)) (tx : List UInt8 → List UInt8) : List UInt8 → Option (List UInt8) := fun d => if d ∈ ks then some (tx d) else none
def hpT (ks : List (List UInt8)) (tx : List UInt8 → List UInt8) (g : Nat) (out : List Fil) (τ : Heap) : Heap :=
  (0, mapBx ks fun d => .str (tx d)) :: (0, some (.cells [.map 0 0, .ms 2 (g + out.length) 0 out.length 3 false] ⟨false, some 61⟩)) :: (g + out.length, some (.cells (celsF out) ⟨false, none⟩)) :: τ
def hpF (ks : List (List UInt8)) (tx : List UInt8 → List UInt8) (g : Nat) (out : List Fil) : Heap := hpT ks tx g out []
theorem hpF_rn (ks : List (List UInt8)) (tx : List UInt8 → List UInt8) (g : Nat) (out : List Fil) : RnH (List.range 3) (hpF ks tx g out) (hpF ks tx g out) :=
  .cons (.live (.map rfl fun i h1 h2 => by simp only [mapF, List.getElem_map]; exact ⟨.free .str, .free .str⟩)) (.cons (.live (.cells (.cons (.map rfl) (.cons (.ms rfl) (.nil _))))) (.cons (.live (.cells ⟨rfl, fun i h1 h2 => .free (cels_free out _ (List.getElem_mem _))⟩)) (.nil _)))
theorem flatN_at {sub : List UInt8 → List UInt8 → List Fil → List Fil × Nat} {get : List UInt8 → Option (List UInt8)} {path : List UInt8} {l : List NodeV} {j : Nat} (h : j < l.length) (out : List Fil) : flatN sub get path (l.drop j) out =
    if 100 < (path ++ l[j].name).length then (out, 2)
    else if l[j].kind = 3 then
      if (sub l[j].dig (path ++ l[j].name ++ [47]) out).2 = 0 then flatN sub get path (l.drop (j + 1)) (sub l[j].dig (path ++ l[j].name ++ [47]) out).1 else sub l[j].dig (path ++ l[j].name ++ [47]) out
    else match get l[j].dig with
      | none => (out, 5)
      | some t => if out.length = 60 then (out, 2) else flatN sub get path (l.drop (j + 1)) (out ++ [⟨path ++ l[j].name, t, l[j].kind == 2⟩]) := by
  rw [List.drop_eq_getElem_cons h, flatN]
theorem dir_ok (ks : List (List UInt8)) (tx : List UInt8 → List UInt8) (htx : ∀ d ∈ ks, (tx d).length ≤ 1000000) (g : Nat) : ∀ (n : Nat) (d path : List UInt8) (out : List Fil), path.length ≤ 101 → 102 ≤ n + path.length → out.length ≤ 60 →
    CallOk cx 48 [.ptr 1 0 0, .str d, .str path] (hpF ks tx g out) (fun o s => o = .ret (.int .i64 ((flatD (getM ks tx) n d path out).2 : Nat)) ∧ s = hpF ks tx g (flatD (getM ks tx) n d path out).1)
  | 0, d, path, out, h1, h2, h3 => by omega
  | n + 1, d, path, out, h1, h2, h3 => callOk_introT (fun a w => Tryz.call48 a w) Tryz.func48 rfl Tryz.ntmps48 rfl fun B => by
    have ret : ∀ (o : List Fil) (e : Nat) (τ : Heap), (flatD (getM ks tx) (n + 1) d path out) = (o, e) → TR 3 (fun z s => z = .ret (.int .i64 ((flatD (getM ks tx) (n + 1) d path out).2 : Nat)) ∧ s = hpF ks tx g (flatD (getM ks tx) (n + 1) d path out).1) (.ret (.int .i64 (e : Nat))) (hpT ks tx g o τ) := by
      intro o e τ he
      rw [he]
      refine ⟨3, Nat.le_refl _, LowH.of (fun x hx y hy => ?_), _, .low .int, rfl, rfl⟩
      have hx : x ∈ hpF ks tx g o := hx
      unfold hpF hpT at hx
      simp only [List.mem_cons, List.not_mem_nil, or_false] at hx
      rcases hx with rfl | rfl | rfl
      · cases hy; exact .map fun p hp => by obtain ⟨t, _, rfl⟩ := List.mem_map.1 hp; exact ⟨.str, .str⟩
      · cases hy; exact .cells (by intro z hz; simp at hz; rcases hz with rfl | rfl; exact .map (by decide); exact .ms (by decide))
      · cases hy
        refine .cells fun z hz => ?_
        obtain ⟨y, hy, hz⟩ := List.mem_flatMap.1 hz
        obtain ⟨f, _, rfl⟩ := List.mem_map.1 hy
        have hz : z ∈ [AV.str f.path, .str f.text, .bool f.run] := hz
        simp at hz; rcases hz with rfl | rfl | rfl; exact .str; exact .str; exact .bool
    refine S_dead ?_ ⟨_, _, .inl rfl⟩
    by_cases hk : d ∈ ks
    case neg =>
      have hres : flatD (getM ks tx) (n + 1) d path out = (out, 5) := by rw [flatD, getM, if_neg hk]
      refine pa [.v (.tup [.str [], .bool false]), .b true] rfl ?_ ?_
      · (repeat' with_reducible apply AllP_cons) <;> try exact aC
        · exact OpSpec.mget (kt := 9) (et := 9) (ks := ks) (val := fun d => .str (tx d)) (s := d) (z := .str []) rfl (Tryz.underlying59) rfl rfl rfl rfl rfl (by rw [if_neg hk, decide_eq_false hk]; rfl)
      exact S_ret ⟨_, _, rfl, trivial, ret out 5 [(0, none)] hres⟩
    have hget : getM ks tx d = some (tx d) := if_pos hk
    have hsl := htx d hk
    have hR := ReadNodes_ok (tx d) (by omega)
    by_cases he : (readNd (tx d)).2 = 0
    case neg =>
      have hres : flatD (getM ks tx) (n + 1) d path out = (out, 1) := by rw [flatD, hget]; show (if (readNd (tx d)).2 ≠ 0 then _ else _) = _; rw [if_pos he]
      refine pa [.v (.tup [.str (tx d), .bool true]), .b false, .v (.tup [.sl true false 3 (nodes (readNd (tx d)).1), .int .i64 (((readNd (tx d)).2 : Nat) : Int)]), .b true] rfl ?_ ?_
      · (repeat' with_reducible apply AllP_cons) <;> try exact aC
        · exact OpSpec.mget (kt := 9) (et := 9) (ks := ks) (val := fun d => .str (tx d)) (s := d) (z := .str []) rfl (Tryz.underlying59) rfl rfl rfl rfl rfl (by rw [if_pos hk, decide_eq_true hk]; rfl)
        · exact ⟨_, hR, .cons (.refl .str) (.nil _)⟩
        · show (((((readNd (tx d)).2 : Nat) : Int)) != 0) = true
          rw [chk_bne]; simpa using he
      exact S_ret ⟨_, _, rfl, trivial, ret out 1 [(0, none)] hres⟩
    rw [he] at hR
    have hD : flatD (getM ks tx) (n + 1) d path out = if (readNd (tx d)).1 = [] ∧ path ≠ [] then (out, 4) else flatN (flatD (getM ks tx) n) (getM ks tx) path (readNd (tx d)).1 out := by
      rw [flatD, hget]; show (if (readNd (tx d)).2 ≠ 0 then _ else _) = _; rw [if_neg (by simp [he])]
    have hnl0 : (readNd (tx d)).1.length ≤ 60 := readNd_len he
    have hnm0 : ∀ x ∈ (readNd (tx d)).1, x.name.length ≤ 20 := readNd_name he
    generalize (readNd (tx d)).1 = nds at *
    have hnl := nodes_len nds
    by_cases hbad : nds = [] ∧ path ≠ []
    · rw [if_pos hbad] at hD
      obtain ⟨rfl, hp⟩ := hbad
      refine pa [.v (.tup [.str (tx d), .bool true]), .b false, .v (.tup [.sl true false 3 (nodes []), .int .i64 ((0 : Nat) : Int)]), .b false, .b true, .b true] rfl ?_ ?_
      · (repeat' with_reducible apply AllP_cons) <;> try exact aC
        · exact OpSpec.mget (kt := 9) (et := 9) (ks := ks) (val := fun d => .str (tx d)) (s := d) (z := .str []) rfl (Tryz.underlying59) rfl rfl rfl rfl rfl (by rw [if_pos hk, decide_eq_true hk]; rfl)
        · exact ⟨_, hR, .cons (.refl .str) (.nil _)⟩
        · show (!(path == [])) = true
          simp [hp]
      exact S_ret ⟨_, _, rfl, trivial, ret out 4 [(0, none)] hD⟩
    rw [if_neg hbad] at hD
    by_cases hem : nds = []
    case' pos =>
      have hp0 : path = [] := Classical.byContradiction fun hp => hbad ⟨hem, hp⟩
      have e1 : ((((nodes nds).length : Nat) : Int) == 0) = true := by rw [hnl, hem]; rfl
      have e2 : (!(path == [])) = false := by rw [hp0]; rfl
      refine pa [.v (.tup [.str (tx d), .bool true]), .b false, .v (.tup [.sl true false 3 (nodes nds), .int .i64 ((0 : Nat) : Int)]), .b false, .b true, .b false] rfl ?_ ?_
    case' neg =>
      have e1 : ((((nodes nds).length : Nat) : Int) == 0) = false := by
        have : nds.length ≠ 0 := fun h => hem (List.length_eq_zero_iff.1 h)
        rw [hnl]; simp; exact hem
      refine pa [.v (.tup [.str (tx d), .bool true]), .b false, .v (.tup [.sl true false 3 (nodes nds), .int .i64 ((0 : Nat) : Int)]), .b false, .b false, .b false] rfl ?_ ?_
    case pos.refine_1 | neg.refine_1 =>
      (repeat' with_reducible apply AllP_cons) <;> try exact aC
      · exact OpSpec.mget (kt := 9) (et := 9) (ks := ks) (val := fun d => .str (tx d)) (s := d) (z := .str []) rfl (Tryz.underlying59) rfl rfl rfl rfl rfl (by rw [if_pos hk, decide_eq_true hk]; rfl)
      · exact ⟨_, hR, .cons (.refl .str) (.nil _)⟩
    all_goals
      refine S_while (α := Nat × List Fil) (fun q => [(0, .ptr 1 0 0), (2, .str path), (42, .sl true false 3 (nodes nds)), (43, .int .i64 (((nodes nds).length : Nat) : Int)), (44, .int .i64 (q.1 : Nat))]) (fun q => hpT ks tx g q.2 [(q.1, none)]) (fun q => q.1 ≤ nds.length ∧ q.2.length ≤ 60 ∧ flatN (flatD (getM ks tx) n) (getM ks tx) path (nds.drop q.1) q.2 = flatN (flatD (getM ks tx) n) (getM ks tx) path nds out) (fun q => nds.length - q.1) (0, out)
        ⟨Nat.zero_le _, h3, rfl⟩ (.cons rfl (.cons rfl (.cons rfl (.cons rfl (.cons rfl (.nil _)))))) rfl ?_
      rintro ⟨j, o⟩ ⟨hj, ho, hI⟩
      have hj : j ≤ nds.length := hj
      have ho : o.length ≤ 60 := ho
      have hI : flatN (flatD (getM ks tx) n) (getM ks tx) path (nds.drop j) o = flatN (flatD (getM ks tx) n) (getM ks tx) path nds out := hI
      by_cases hjt : j < nds.length
      · have e1 : decide ((j : Int) < (((nodes nds).length : Nat) : Int)) = true := decide_eq_true (by omega)
        have g1 : (nodes nds)[(j : Int).toNat]? = some (nodeAV nds[j]) := nodes_get hjt
        have hnm := hnm0 _ (List.getElem_mem hjt)
        rw [flatN_at hjt] at hI
        generalize nds[j] = nd at *
        have hpl : (path ++ nd.name).length = path.length + nd.name.length := List.length_append ..
        by_cases hlong : 100 < (path ++ nd.name).length
        · rw [if_pos hlong] at hI
          rw [← hI] at hD
          have e2 : decide ((((path ++ nd.name).length : Nat) : Int) > 100) = true := decide_eq_true (by omega)
          refine pB [.b true, .v (nodeAV nd), .b true] rfl ?_
          exact S_ret ⟨_, _, rfl, trivial, ret o 2 _ hD⟩
        rw [if_neg hlong] at hI
        have e2 : decide ((((path ++ nd.name).length : Nat) : Int) > 100) = false := decide_eq_false (by omega)
        by_cases h3k : nd.kind = 3
        · rw [if_pos h3k] at hI
          have e3 : (nd.kind == 3) = true := by rw [h3k]; rfl
          have ih := dir_ok ks tx htx g n nd.dig (path ++ nd.name ++ [47]) o (by rw [List.length_append]; simp only [List.length_cons, List.length_nil]; omega) (by rw [List.length_append]; simp only [List.length_cons, List.length_nil]; omega) ho
          have hfl := flatD_len (getM ks tx) n nd.dig (path ++ nd.name ++ [47]) o ho
          generalize flatD (getM ks tx) n nd.dig (path ++ nd.name ++ [47]) o = y at *
          obtain ⟨o', e'⟩ := y
          by_cases he' : e' = 0
          · rw [if_pos he'] at hI
            subst he'
            refine pa [.b true, .v (nodeAV nd), .b false, .b true, .f (.int .i64 ((0 : Nat) : Int)) (fun σ => hpT ks tx g o' σ.tail.tail.tail), .b false, .s] rfl ?_ ?_
            · (repeat' with_reducible apply AllP_cons) <;> try exact aC
              · exact CallOk.pre1 (σ := hpF ks tx g o) (σ' := hpF ks tx g o') 3 _ ih rfl rfl (.cons (.ptr rfl) (.cons (.free .str) (.cons (.free .str) (.nil _)))) (hpF_rn _ _ _ _) (hpF_rn _ _ _ _) (.free .int)
            refine S_drop (id := 3) rfl ?_ ⟨.skip, _, .inr ⟨_, _, _, rfl⟩⟩
            refine pB [] rfl ?_
            exact S_round (j + 1, o') (by show nds.length - (j + 1) < nds.length - j; omega) ⟨hjt, hfl.1, hI⟩ (.cons rfl (.cons rfl (.cons rfl (.cons rfl (.cons (nX (by omega)) (.nil _)))))) rfl
          · rw [if_neg he'] at hI
            rw [← hI] at hD
            refine pa [.b true, .v (nodeAV nd), .b false, .b true, .f (.int .i64 (e' : Nat)) (fun σ => hpT ks tx g o' σ.tail.tail.tail), .b true] rfl ?_ ?_
            · (repeat' with_reducible apply AllP_cons) <;> try exact aC
              · exact CallOk.pre1 (σ := hpF ks tx g o) (σ' := hpF ks tx g o') 3 _ ih rfl rfl (.cons (.ptr rfl) (.cons (.free .str) (.cons (.free .str) (.nil _)))) (hpF_rn _ _ _ _) (hpF_rn _ _ _ _) (.free .int)
              · show ((((e' : Int)) != 0) = true)
                rw [chk_bne]; simpa using he'
            exact S_ret ⟨_, _, rfl, trivial, ret o' e' _ hD⟩
        · rw [if_neg h3k] at hI
          have e3 : (nd.kind == 3) = false := by simpa using h3k
          by_cases hkd : nd.dig ∈ ks
          case neg =>
            have hgn : getM ks tx nd.dig = none := if_neg hkd
            rw [hgn] at hI
            rw [← hI] at hD
            refine pa [.b true, .v (nodeAV nd), .b false, .b false, .v (.tup [.str [], .bool false]), .b true] rfl ?_ ?_
            · (repeat' with_reducible apply AllP_cons) <;> try exact aC
              all_goals exact OpSpec.mget (kt := 9) (et := 9) (ks := ks) (val := fun d => .str (tx d)) (s := nd.dig) (z := .str []) rfl (Tryz.underlying59) rfl rfl rfl rfl rfl (by rw [if_neg hkd, decide_eq_false hkd]; rfl)
            exact S_ret ⟨_, _, rfl, trivial, ret o 5 _ hD⟩
          have hgn : getM ks tx nd.dig = some (tx nd.dig) := if_pos hkd
          rw [hgn] at hI
          by_cases h60 : o.length = 60
          · have hI : (if o.length = 60 then (o, 2) else _) = _ := hI
            rw [if_pos h60] at hI
            rw [← hI] at hD
            have e4 : ((o.length : Int) == 60) = true := by rw [h60]; rfl
            refine pa [.b true, .v (nodeAV nd), .b false, .b false, .v (.tup [.str (tx nd.dig), .bool true]), .b false, .b true] rfl ?_ ?_
            · (repeat' with_reducible apply AllP_cons) <;> try exact aC
              all_goals exact OpSpec.mget (kt := 9) (et := 9) (ks := ks) (val := fun d => .str (tx d)) (s := nd.dig) (z := .str []) rfl (Tryz.underlying59) rfl rfl rfl rfl rfl (by rw [if_pos hkd, decide_eq_true hkd]; rfl)
            exact S_ret ⟨_, _, rfl, trivial, ret o 2 _ hD⟩
          · have hI : (if o.length = 60 then (o, 2) else _) = _ := hI
            rw [if_neg h60] at hI
            have e4 : ((o.length : Int) == 60) = false := by simp; omega
            have hcl := cels_len o
            refine pa [.b true, .v (nodeAV nd), .b false, .b false, .v (.tup [.str (tx nd.dig), .bool true]), .b false, .b false,
              .d 12 13 [] (fun σ => (0, mapBx ks fun d => .str (tx d)) :: (0, some (.cells [.map 0 0, .ms 2 (g + o.length) 0 o.length 3 false] ⟨false, some 61⟩)) :: (g + o.length + 1, some (.cells (celsF o ++ [.str (path ++ nd.name), .str (tx nd.dig), .bool (nd.kind == 2)]) ⟨false, none⟩)) :: σ.tail.tail.tail) [.ms 2 (g + o.length + 1) 0 (o.length + 1) 3 false], .s] rfl ?_ ?_
            · (repeat' with_reducible apply AllP_cons) <;> try exact aC
              · exact OpSpec.mget (kt := 9) (et := 9) (ks := ks) (val := fun d => .str (tx d)) (s := nd.dig) (z := .str []) rfl (Tryz.underlying59) rfl rfl rfl rfl rfl (by rw [if_pos hkd, decide_eq_true hkd]; rfl)
              · show 0 + o.length * 3 = _
                rw [hcl]; omega
              · show (o.length + 1) * 40 ≤ 140737488355328
                omega
            refine pan 5 [] rfl ?_ ?_
            · (repeat' with_reducible apply AllP_cons) <;> try exact aC
            refine S_drop (id := 3) rfl ?_ ⟨_, _, .inl rfl⟩
            refine S_heap (hpT ks tx g (o ++ [⟨path ++ nd.name, tx nd.dig, nd.kind == 2⟩]) [(j + 1, none)]) ?_ ?_
            · show [(0, mapBx ks fun d => .str (tx d)), (0, some (.cells [.map 0 0, .ms 2 (g + o.length + 1) 0 (o.length + 1) 3 false] ⟨false, some 61⟩)), (g + o.length + 1, some (.cells (celsF o ++ [.str (path ++ nd.name), .str (tx nd.dig), .bool (nd.kind == 2)]) ⟨false, none⟩)), (j + 1, none)] = _
              have hoa : (o ++ [(⟨path ++ nd.name, tx nd.dig, nd.kind == 2⟩ : Fil)]).length = o.length + 1 := by simp
              unfold hpT
              rw [celsF_add, hoa]; rfl
            refine pB [] rfl ?_
            exact S_round (j + 1, o ++ [⟨path ++ nd.name, tx nd.dig, nd.kind == 2⟩]) (by show nds.length - (j + 1) < nds.length - j; omega) ⟨hjt, by show (o ++ [_]).length ≤ 60; simp; omega, hI⟩ (.cons rfl (.cons rfl (.cons rfl (.cons rfl (.cons (nX (by omega)) (.nil _)))))) rfl
      · have e1 : decide ((j : Int) < (((nodes nds).length : Nat) : Int)) = false := decide_eq_false (by omega)
        rw [List.drop_eq_nil_of_le (by omega), flatN] at hI
        rw [← hI] at hD
        refine pB [.b false] rfl ?_
        exact S_ret ⟨_, _, rfl, trivial, ret o 0 _ hD⟩
end Go.Proofs.YtpehmhlgldbeoaaGreatDoor
end
section
set_option linter.unusedVariables false
set_option linter.unusedSimpArgs false
set_option maxRecDepth 20000
set_option maxHeartbeats 4000000
namespace Go.Proofs.YtpehmhlgldbeoaaGreatDoor
open Go Go.Ab
theorem Flat1_ok (s : List UInt8) : Calc cx 45 [.str s] (.bool (decide (100000 < s.length))) :=
  pure_intro (fun a w => Tryz.call45 a w) Tryz.func45 rfl Tryz.ntmps45 rfl .bool fun B => by
    refine pB [] rfl ?_
    refine S_retc .bool rfl trivial ?_
    show AV.bool (decide ((s.length : Int) > 100000)) = _
    congr 1
    rw [decide_eq_decide]; omega
def longT (l : List (List UInt8)) : Bool := l.any fun s => decide (100000 < s.length)
theorem IndexFuncS_ok {st fl : Bool} (l : List (List UInt8)) (hl : l.length ≤ 1000000000000) : Calc cx 73 [.sl st fl 1 (texts l), .func (.func 45) [] []] (.int .i64 (match l.findIdx? (fun s => decide (100000 < s.length)) with | some i => (i : Int) | none => -1)) :=
  pure_intro (fun a w => Tryz.call73 a w) Tryz.func73 rfl Tryz.ntmps73 rfl .int fun B => by
    have htl : (texts l).length = l.length := by simp [texts]
    refine pB [] rfl ?_
    refine S_while (α := Nat) (fun i => [(0, .sl st fl 1 (texts l)), (1, .func (.func 45) [] []), (7, .int .i64 (((texts l).length : Nat) : Int)), (8, .int .i64 (i : Nat))]) (fun _ => []) (fun i => i ≤ l.length ∧ ∀ k (hk : k < l.length), k < i → l[k].length ≤ 100000) (fun i => l.length - i) 0
      ⟨Nat.zero_le _, fun k hk h => absurd h (Nat.not_lt_zero _)⟩ (.cons rfl (.cons rfl (.cons rfl (.cons rfl (.nil _))))) rfl ?_
    rintro i ⟨hi, hN⟩
    have hi : i ≤ l.length := hi
    by_cases hlt : i < l.length
    · have e1 : decide ((i : Int) < (((texts l).length : Nat) : Int)) = true := decide_eq_true (by omega)
      have g1 : (texts l)[(i : Int).toNat]? = some (.str l[i]) := by rw [Int.toNat_natCast]; simp [texts, List.getElem?_eq_getElem hlt]
      have hF := Flat1_ok l[i]
      by_cases hb : 100000 < l[i].length
      · rw [decide_eq_true hb] at hF
        refine pa [.b true, .v (.str l[i]), .v (.bool true), .b true] rfl ?_ ?_
        · (repeat' with_reducible apply AllP_cons) <;> try exact aC
          · exact ⟨_, hF, .cons (.refl .str) (.nil _)⟩
        refine S_retc .int rfl trivial ?_
        have : l.findIdx? (fun s => decide (100000 < s.length)) = some i := by
          rw [List.findIdx?_eq_some_iff_getElem]
          exact ⟨hlt, by simpa using hb, fun j hj => by have := hN j (by omega) hj; simpa using this⟩
        rw [this]; rfl
      · rw [decide_eq_false hb] at hF
        refine pa [.b true, .v (.str l[i]), .v (.bool false), .b false] rfl ?_ ?_
        · (repeat' with_reducible apply AllP_cons) <;> try exact aC
          · exact ⟨_, hF, .cons (.refl .str) (.nil _)⟩
        refine S_round (i + 1) (by show l.length - (i + 1) < l.length - i; omega) ⟨hlt, fun k hk h => ?_⟩ (.cons rfl (.cons rfl (.cons rfl (.cons (nX (by omega)) (.nil _))))) rfl
        have h : k < i + 1 := h
        by_cases hki : k < i
        · exact hN k hk hki
        · have : k = i := by omega
          subst this; omega
    · have e1 : decide ((i : Int) < (((texts l).length : Nat) : Int)) = false := decide_eq_false (by omega)
      refine pB [.b false] rfl ?_
      refine S_retc .int rfl trivial ?_
      have : l.findIdx? (fun s => decide (100000 < s.length)) = none := by
        rw [List.findIdx?_eq_none_iff]
        intro x hx
        obtain ⟨k, hk, rfl⟩ := List.getElem_of_mem hx
        have := hN k hk (by omega)
        simpa using this
      rw [this]; rfl
theorem ContainsFuncS_ok {st fl : Bool} (l : List (List UInt8)) (hl : l.length ≤ 1000000000000) : Calc cx 44 [.sl st fl 1 (texts l), .func (.func 45) [] []] (.bool (longT l)) :=
  pure_intro (fun a w => Tryz.call44 a w) Tryz.func44 rfl Tryz.ntmps44 rfl .bool fun B => by
    have hI := IndexFuncS_ok (st := st) (fl := fl) l hl
    refine pa [.v (.int .i64 (match l.findIdx? (fun s => decide (100000 < s.length)) with | some i => (i : Int) | none => -1))] rfl ?_ ?_
    · (repeat' with_reducible apply AllP_cons) <;> try exact aC
      · exact ⟨_, hI, .cons (.refl (.sl (fun h => by cases h) (texts_any l))) (.cons (.refl (.func (fun x h => by cases h) (fun x h => by cases h))) (.nil _))⟩
    refine S_retc .bool rfl trivial ?_
    show AV.bool (decide ((match l.findIdx? (fun s => decide (100000 < s.length)) with | some i => (i : Int) | none => -1) ≥ 0)) = _
    congr 1
    unfold longT
    cases h : l.findIdx? (fun s => decide (100000 < s.length)) with
    | none =>
      rw [List.findIdx?_eq_none_iff] at h
      rw [List.any_eq_false.2 (fun x hx => by have := h x hx; rw [this]; simp)]; rfl
    | some i =>
      rw [List.findIdx?_eq_some_iff_getElem] at h
      obtain ⟨h1, h2, _⟩ := h
      rw [List.any_eq_true.2 ⟨_, List.getElem_mem h1, h2⟩]
      show decide ((i : Int) ≥ 0) = true
      exact decide_eq_true (by omega)
theorem Len1_ok : Calc cx 117 [.int .u64 1] (.int .i64 1) :=
  pure_intro (fun a w => Tryz.call117 a w) Tryz.func117 rfl Tryz.ntmps117 rfl .int fun B => by
    refine pa [.b false, .b false, .b false] rfl ?_ ?_
    · (repeat' with_reducible apply AllP_cons) <;> try exact aC
      all_goals decide +kernel
    refine S_retc .int rfl trivial ?_
    rfl
theorem LenU_ok : Calc cx 77 [.int .u64 1] (.int .i64 1) :=
  pure_intro (fun a w => Tryz.call77 a w) Tryz.func77 rfl Tryz.ntmps77 rfl .int fun B => by
    refine pa [.b false, .v (.int .i64 1)] rfl ?_ ?_
    · (repeat' with_reducible apply AllP_cons) <;> try exact aC
      · exact ⟨_, Len1_ok, .cons (.refl .int) (.nil _)⟩
    exact S_retc .int rfl trivial rfl
theorem Ins1_ok (σ : Heap) (v : Nat) : CallOk cx 108 [.ms 2 v 0 1 3 false, .int .i64 0, .int .i64 1, .func (.func 50) [] []] σ (fun o s => o = .ret (.tup []) ∧ s = σ) :=
  callOk_intro (fun a w => Tryz.call108 a w) Tryz.func108 rfl Tryz.ntmps108 rfl fun B => by
    refine pas [] rfl ?_ ?_
    · (repeat' with_reducible apply AllP_cons) <;> try exact aC
    refine S_while (α := Unit) (fun _ => [(2, .int .i64 1), (8, .int .i64 1)]) (fun _ => σ) (fun _ => True) (fun _ => 0) () trivial (.cons rfl (.cons rfl (.nil _))) rfl ?_
    rintro ⟨⟩ _
    refine pas [.b false] rfl ?_ ?_
    · (repeat' with_reducible apply AllP_cons) <;> try exact aC
    exact S_nil ⟨_, _, rfl, trivial, rfl, rfl⟩
theorem Pdq1_ok (σ : Heap) (v : Nat) : CallOk cx 76 [.ms 2 v 0 1 3 false, .int .i64 0, .int .i64 1, .int .i64 1, .func (.func 50) [] []] σ (fun o s => o = .ret (.tup []) ∧ s = σ) :=
  callOk_intro (fun a w => Tryz.call76 a w) Tryz.func76 rfl Tryz.ntmps76 rfl fun B => by
    refine pas [] rfl ?_ ?_
    · (repeat' with_reducible apply AllP_cons) <;> try exact aC
    refine S_while (α := Unit) (fun _ => [(0, .ms 2 v 0 1 3 false), (1, .int .i64 0), (2, .int .i64 1), (4, .func (.func 50) [] [])]) (fun _ => σ) (fun _ => True) (fun _ => 0) () trivial (.cons rfl (.cons rfl (.cons rfl (.cons rfl (.nil _))))) rfl ?_
    rintro ⟨⟩ _
    refine pas [.b true, .k (.tup [])] rfl ?_ ?_
    · (repeat' with_reducible apply AllP_cons) <;> try exact aC
      · exact Ins1_ok σ v
    exact S_ret ⟨_, _, rfl, trivial, rfl, rfl⟩
theorem Sort1_ok (ks : List (List UInt8)) (tx : List UInt8 → List UInt8) (g : Nat) (f : Fil) : CallOk cx 49 [.ms 2 (g + 1) 0 1 3 false, .func (.func 50) [] []] (hpF ks tx g [f]) (fun o s => o = .ret (.tup []) ∧ s = hpF ks tx g [f]) :=
  callOk_intro (fun a w => Tryz.call49 a w) Tryz.func49 rfl Tryz.ntmps49 rfl fun B => by
    refine pa [.v (.int .i64 1), .k (.tup [])] rfl ?_ ?_
    · (repeat' with_reducible apply AllP_cons) <;> try exact aC
      · exact ⟨_, LenU_ok, .cons (.refl .int) (.nil _)⟩
      · exact Pdq1_ok _ _
    exact S_nil ⟨_, _, rfl, trivial, rfl, rfl⟩
end Go.Proofs.YtpehmhlgldbeoaaGreatDoor
end
section
set_option linter.unusedVariables false
set_option linter.unusedSimpArgs false
set_option maxRecDepth 20000
set_option maxHeartbeats 4000000
namespace Go.Proofs.YtpehmhlgldbeoaaGreatDoor
open Go Go.Ab
def ksB (l : List (List UInt8)) : List (List UInt8) := l.foldl (fun ks s => addU ks (sha s)) []
def txB (l : List (List UInt8)) (d : List UInt8) : List UInt8 := (l.reverse.find? (fun s => sha s == d)).getD []
def flatY (root : List UInt8) (blobs : List (List UInt8)) : List Fil × Nat := flatD (getM (ksB blobs) (txB blobs)) 102 root [] []
def flatT (S : List Fil → List Fil) (root : List UInt8) (blobs : List (List UInt8)) : List Fil × Nat :=
  if 2000 < blobs.length ∨ longT blobs = true then ([], 2) else if isDig root = true then (if (flatY root blobs).2 = 0 then (S (flatY root blobs).1, 0) else ([], (flatY root blobs).2)) else ([], 1)
def flatAV (y : List Fil × Nat) : AV := .tup [if y.2 = 0 then .sl true false 3 (fils y.1) else .nils, .int .i64 (y.2 : Nat)]
theorem flatAV_free (y : List Fil × Nat) : Free true (flatAV y) := .tup (by
  intro x hx; simp at hx
  rcases hx with rfl | rfl
  · split
    · exact .sl (fun _ => rfl) (fils_free _)
    · exact .nils
  · exact .int)
theorem ksB_step {l : List (List UInt8)} {i : Nat} (h : i < l.length) : ksB (l.take (i + 1)) = addU (ksB (l.take i)) (sha l[i]) := by
  unfold ksB; rw [List.take_succ_eq_append_getElem h, List.foldl_append]; rfl
theorem txB_step {l : List (List UInt8)} {i : Nat} (h : i < l.length) (d : List UInt8) : txB (l.take (i + 1)) d = if d = sha l[i] then l[i] else txB (l.take i) d := by
  unfold txB
  rw [List.take_succ_eq_append_getElem h, List.reverse_append]
  show ((l[i] :: (l.take i).reverse).find? _).getD [] = _
  rw [List.find?_cons]
  by_cases e : d = sha l[i]
  · rw [if_pos e, show (sha l[i] == d) = true by simp [e]]; rfl
  · rw [if_neg e, show (sha l[i] == d) = false by simpa using Ne.symm e]
theorem txB_len {l : List (List UInt8)} (h : longT l = false) (d : List UInt8) : (txB l d).length ≤ 1000000 := by
  unfold txB
  cases hf : l.reverse.find? (fun s => sha s == d) with
  | none => exact Nat.zero_le _
  | some s =>
    have hm := List.mem_of_find?_eq_some hf
    unfold longT at h
    rw [List.any_eq_false] at h
    have := h s (by simpa using hm)
    simp at this
    show s.length ≤ _; omega
theorem mapB_step {l : List (List UInt8)} {i : Nat} (h : i < l.length) :
    mapBx (addK (ksB (l.take i)) (sha l[i])) (updF (fun d => .str (txB (l.take i) d)) (sha l[i]) (.str l[i])) = mapBx (ksB (l.take (i + 1))) fun d => .str (txB (l.take (i + 1)) d) := by
  unfold mapBx
  rw [ksB_step h]
  show some (Box.map (mapF (addU _ _) _) none) = some (Box.map (mapF (addU _ _) _) none)
  congr 2
  refine mapF_congr fun n _ => ?_
  unfold updF
  rw [txB_step h]
  split <;> rfl
theorem Flat_gen {st fl : Bool} (S : List Fil → List Fil) (root : List UInt8) (blobs : List (List UInt8)) (hr : root.length ≤ 9223372036854775807) (hbl : blobs.length ≤ 1000000000000) (hS0 : ∀ out, (S out).length = out.length)
    (hsort : (flatY root blobs).2 = 0 → CallOk cx 49 [.ms 2 (0 + (flatY root blobs).1.length) 0 (flatY root blobs).1.length 3 false, .func (.func 50) [] []] (hpF (ksB blobs) (txB blobs) 0 (flatY root blobs).1) (fun o s => o = .ret (.tup []) ∧ s = hpF (ksB blobs) (txB blobs) 0 (S (flatY root blobs).1))) :
    Calc cx 18 [.str root, .sl st fl 1 (texts blobs)] (flatAV (flatT S root blobs)) :=
  pure_intro (fun a w => Tryz.call18 a w) Tryz.func18 rfl Tryz.ntmps18 rfl (flatAV_free _) fun B => by
    have htl : (texts blobs).length = blobs.length := by simp [texts]
    have hI := ContainsFuncS_ok (st := st) (fl := fl) blobs hbl
    have hD := digestIs_ok root hr
    unfold flatT
    have rt : ∀ e : Nat, e ≠ 0 → flatAV ([], e) = .tup [.nils, .int .i64 (e : Nat)] := fun e he => by unfold flatAV; rw [if_neg he]
    have rf : ∀ e : Int, Free true (.tup [.nils, .int .i64 e]) := fun e => .tup (by intro x hx; simp at hx; rcases hx with rfl | rfl; exact .nils; exact .int)
    by_cases hmany : 2000 < blobs.length
    · rw [if_pos (.inl hmany), rt 2 (by decide)]
      have e1 : decide ((((texts blobs).length : Nat) : Int) > 2000) = true := decide_eq_true (by omega)
      refine pB [.b true, .b true] rfl ?_
      exact S_retc (rf _) rfl trivial rfl
    have e1 : decide ((((texts blobs).length : Nat) : Int) > 2000) = false := decide_eq_false (by omega)
    cases hlg : longT blobs with
    | true =>
      rw [hlg] at hI
      rw [if_pos (.inr rfl), rt 2 (by decide)]
      refine pa [.b false, .v (.bool true), .b true] rfl ?_ ?_
      · (repeat' with_reducible apply AllP_cons) <;> try exact aC
        · exact ⟨_, hI, .cons (.refl (.sl (fun h => by cases h) (texts_any _))) (.cons (.refl (.func (fun x h => by cases h) (fun x h => by cases h))) (.nil _))⟩
      exact S_retc (rf _) rfl trivial rfl
    | false =>
      rw [hlg] at hI
      rw [if_neg (by simp; omega)]
      cases hdg : isDig root with
      | false =>
        rw [hdg] at hD
        rw [if_neg (by simp), rt 1 (by decide)]
        refine pa [.b false, .v (.bool false), .b false, .v (.bool false), .b true] rfl ?_ ?_
        · (repeat' with_reducible apply AllP_cons) <;> try exact aC
          · exact ⟨_, hI, .cons (.refl (.sl (fun h => by cases h) (texts_any _))) (.cons (.refl (.func (fun x h => by cases h) (fun x h => by cases h))) (.nil _))⟩
          · exact ⟨_, hD, .cons (.refl .str) (.nil _)⟩
        exact S_retc (rf _) rfl trivial rfl
      | true =>
        rw [hdg] at hD
        rw [if_pos rfl]
        refine pa [.b false, .v (.bool false), .b false, .v (.bool true), .b false, .f (.map 0 0) (fun _ => [(0, some (.map [] (some ([], 0))))])] rfl ?_ ?_
        · (repeat' with_reducible apply AllP_cons) <;> try exact aC
          · exact ⟨_, hI, .cons (.refl (.sl (fun h => by cases h) (texts_any _))) (.cons (.refl (.func (fun x h => by cases h) (fun x h => by cases h))) (.nil _))⟩
          · exact ⟨_, hD, .cons (.refl .str) (.nil _)⟩
          · exact OpSpec.mapN (C := []) rfl trivial
        refine S_unstamp (id := 0) rfl ?_ ⟨_, _, .inl rfl⟩
        refine S_ghost 3 ⟨false, none⟩ (id := 1) (j := 1) rfl rfl rfl (show (1 : Nat) ≠ 2 by decide) ⟨_, _, .inl rfl⟩ ?_
        refine S_while (α := Nat) (fun i => [(0, .str root), (6, .ptr 1 0 0), (23, .sl st fl 1 (texts blobs)), (24, .int .i64 (((texts blobs).length : Nat) : Int)), (25, .int .i64 (i : Nat))]) (fun i => hpT (ksB (blobs.take i)) (txB (blobs.take i)) 0 [] []) (fun i => i ≤ blobs.length) (fun i => blobs.length - i) 0
          (Nat.zero_le _) (.cons rfl (.cons rfl (.cons rfl (.cons rfl (.cons rfl (.nil _)))))) rfl ?_
        intro i hi
        have hi : i ≤ blobs.length := hi
        by_cases hlt : i < blobs.length
        · have e2 : decide ((i : Int) < (((texts blobs).length : Nat) : Int)) = true := decide_eq_true (by omega)
          have g1 : (texts blobs)[(i : Int).toNat]? = some (.str blobs[i]) := by rw [Int.toNat_natCast]; simp [texts, List.getElem?_eq_getElem hlt]
          have hbz : blobs[i].length ≤ 100000 := by
            unfold longT at hlg
            rw [List.any_eq_false] at hlg
            have := hlg _ (List.getElem_mem hlt)
            simpa using this
          have hS := Sum_ok blobs[i] (by omega)
          refine pa [.b true, .v (.str blobs[i]), .v (.str (sha blobs[i])), .f (.tup []) (fun σ => (0, mapBx (addK (ksB (blobs.take i)) (sha blobs[i])) (updF (fun d => .str (txB (blobs.take i) d)) (sha blobs[i]) (.str blobs[i]))) :: σ.tail), .s] rfl ?_ ?_
          · (repeat' with_reducible apply AllP_cons) <;> try exact aC
            · exact ⟨_, hS, .cons (.refl .str) (.nil _)⟩
            · exact OpSpec.mput (kt := 9) (et := 9) (ks := ksB (blobs.take i)) (val := fun d => .str (txB (blobs.take i) d)) (s := sha blobs[i]) rfl (Tryz.underlying59) rfl rfl rfl rfl rfl (addU_fold_nodup sha _ [] .nil) rfl
          refine S_heap (hpT (ksB (blobs.take (i + 1))) (txB (blobs.take (i + 1))) 0 [] []) ?_ ?_
          · rw [mapB_step hlt]; rfl
          refine pB [] rfl ?_
          exact S_round (i + 1) (by show blobs.length - (i + 1) < blobs.length - i; omega) hlt (.cons rfl (.cons rfl (.cons rfl (.cons rfl (.cons (nX (by omega)) (.nil _)))))) rfl
        · have hil : i = blobs.length := by omega
          subst hil
          have e2 : decide ((blobs.length : Int) < (((texts blobs).length : Nat) : Int)) = false := decide_eq_false (by omega)
          rw [List.take_length]
          have hdir := dir_ok (ksB blobs) (txB blobs) (fun d _ => txB_len hlg d) 0 102 root [] [] (by decide) (by decide) (by decide)
          have hfl := flatD_len (getM (ksB blobs) (txB blobs)) 102 root [] [] (by decide)
          change CallOk _ _ _ _ (fun o s => o = .ret (.int .i64 ((flatY root blobs).2 : Nat)) ∧ s = hpF (ksB blobs) (txB blobs) 0 (flatY root blobs).1) at hdir
          change (flatY root blobs).1.length ≤ 60 ∧ _ at hfl
          generalize flatY root blobs = y at *
          obtain ⟨out, e⟩ := y
          by_cases he : e = 0
          · subst he
            rw [if_pos rfl]
            have hso := hsort rfl
            have hSl := hS0 out
            have hcl := cels_len (S out)
            simp only at hso hdir hfl
            refine pB [.b false, .f (.int .i64 ((0 : Nat) : Int)) (fun _ => hpT (ksB blobs) (txB blobs) 0 out []), .b false, .f (.tup []) (fun _ => hpT (ksB blobs) (txB blobs) 0 (S out) [])] rfl ?_
            refine S_ret ⟨_, _, rfl, trivial, _, rfl, ?_⟩
            show Frz true _ (.tup [.ms 2 (0 + (S out).length) 0 (S out).length 3 false, .int .i64 0]) (.tup [.sl true false 3 (fils (S out)), .int .i64 0])
            exact Fzs.tup (.cons (.ms rfl (by show 0 + (S out).length * 3 ≤ (celsF (S out)).length; omega) (by rw [List.drop_zero]; exact List.take_of_length_le (by omega)) (fil_size _) (fils_len _) (fils_free _)) (.cons (.refl .int) .nil))
          · rw [if_neg he, rt e he]
            refine pa [.b false, .f (.int .i64 (e : Nat)) (fun _ => hpT (ksB blobs) (txB blobs) 0 out []), .b true] rfl ?_ ?_
            · (repeat' with_reducible apply AllP_cons) <;> try exact aC
              · show ((((e : Int)) != 0) = true)
                rw [chk_bne]; simpa using he
            exact S_retc (rf _) rfl trivial rfl
end Go.Proofs.YtpehmhlgldbeoaaGreatDoor
end
section
set_option linter.unusedVariables false
set_option linter.unusedSimpArgs false
set_option maxRecDepth 20000
set_option maxHeartbeats 4000000
namespace Go.Proofs.YtpehmhlgldbeoaaGreatDoor
open Go Go.Ab
def h1T : List UInt8 := [50, 100, 55, 49, 49, 54, 52, 50, 98, 55, 50, 54, 98, 48, 52, 52, 48, 49, 54, 50, 55, 99, 97, 57, 102, 98, 97, 99, 51, 50, 102, 53, 99, 56, 53, 51, 48, 102, 98, 49, 57, 48, 51, 99, 99, 52, 100, 98, 48, 50, 50, 53, 56, 55, 49, 55, 57, 50, 49, 97, 52, 56, 56, 49]
def t1T : List UInt8 := [1, 1, 98, 1, 64, 50, 100, 55, 49, 49, 54, 52, 50, 98, 55, 50, 54, 98, 48, 52, 52, 48, 49, 54, 50, 55, 99, 97, 57, 102, 98, 97, 99, 51, 50, 102, 53, 99, 56, 53, 51, 48, 102, 98, 49, 57, 48, 51, 99, 99, 52, 100, 98, 48, 50, 50, 53, 56, 55, 49, 55, 57, 50, 49, 97, 52, 56, 56, 49]
def h2T : List UInt8 := [100, 56, 98, 99, 99, 98, 53, 99, 97, 99, 48, 101, 52, 50, 49, 101, 97, 52, 101, 49, 55, 99, 50, 49, 50, 49, 102, 51, 56, 55, 52, 51, 48, 57, 102, 98, 51, 101, 51, 100, 48, 50, 48, 53, 52, 97, 48, 54, 48, 101, 102, 50, 101, 48, 48, 49, 99, 56, 53, 97, 53, 99, 48, 99]
def t2T : List UInt8 := [1, 1, 97, 3, 64, 100, 56, 98, 99, 99, 98, 53, 99, 97, 99, 48, 101, 52, 50, 49, 101, 97, 52, 101, 49, 55, 99, 50, 49, 50, 49, 102, 51, 56, 55, 52, 51, 48, 57, 102, 98, 51, 101, 51, 100, 48, 50, 48, 53, 52, 97, 48, 54, 48, 101, 102, 50, 101, 48, 48, 49, 99, 56, 53, 97, 53, 99, 48, 99]
def h3T : List UInt8 := [48, 54, 55, 52, 52, 101, 54, 57, 101, 102, 98, 53, 56, 53, 102, 48, 50, 54, 48, 51, 98, 101, 52, 48, 57, 102, 56, 98, 101, 55, 51, 100, 50, 54, 51, 53, 50, 55, 56, 51, 50, 102, 55, 52, 54, 55, 50, 97, 51, 55, 57, 98, 53, 101, 52, 101, 55, 101, 102, 49, 50, 50, 99, 98]
def l0T : List Fil := [⟨[97, 47, 98], [120], false⟩]
theorem sha1T : sha [120] = h1T := by decide +kernel
theorem sha2T : sha t1T = h2T := by decide +kernel
theorem sha3T : sha t2T = h3T := by decide +kernel
theorem pk1T : packNs [⟨[98], 1, h1T⟩] = t1T := by decide +kernel
theorem pk2T : packNs [⟨[97], 3, h2T⟩] = t2T := by decide +kernel
theorem rd1T : readNd t1T = ([⟨[98], 1, h1T⟩], 0) := by kernel_rfl
theorem rd2T : readNd t2T = ([⟨[97], 3, h2T⟩], 0) := by kernel_rfl
theorem chk0T : chkT l0T = 0 := by decide +kernel
theorem sort_one (n : List UInt8) : sortT [n] = [n] := by unfold sortT; rw [List.mergeSort_singleton]
theorem dir0T : dirT 101 l0T = (t2T, [[120], t1T]) := by
  have a1 : nmsT l0T = [[97]] := by decide +kernel
  have a2 : grT l0T [97] = [⟨[98], [120], false⟩] := by decide +kernel
  have a3 : nmsT [⟨[98], [120], false⟩] = [[98]] := by decide +kernel
  have a4 : grT [⟨[98], [120], false⟩] [98] = [⟨[], [120], false⟩] := by decide +kernel
  have e1 : dirT 100 [⟨[98], [120], false⟩] = (t1T, [[120]]) := by
    rw [dirT, a3, sort_one]
    unfold nodsT blbsT
    simp only [List.map_cons, List.map_nil, List.flatMap_cons, List.flatMap_nil, List.append_nil, a4, entT, if_pos, sha1T]
    exact Prod.ext pk1T rfl
  rw [dirT, a1, sort_one]
  unfold nodsT blbsT
  simp only [List.map_cons, List.map_nil, List.flatMap_cons, List.flatMap_nil, List.append_nil, a2, entT, e1]
  rw [if_neg (by decide), sha2T]
  exact Prod.ext pk2T rfl
theorem root0T : rootT l0T = h3T := by unfold rootT; rw [dir0T]; exact sha3T
theorem blob0T : blobT l0T = [t2T, t1T, [120]] := by
  unfold blobT
  rw [dir0T]
  have : addU ([[120], t1T].foldl addU []) t2T = [[120], t1T, t2T] := by decide +kernel
  show sortT (addU ([[120], t1T].foldl addU []) t2T) = _
  rw [this]
  refine perm_sorted ((sortT_perm _).trans ?_) (sortT_pw _) ?_
  · exact (List.reverse_perm [[120], t1T, t2T]).symm
  · decide +kernel
theorem ks0T : ksB [t2T, t1T, [120]] = [h3T, h2T, h1T] := by
  unfold ksB
  simp only [List.foldl_cons, List.foldl_nil, sha1T, sha2T, sha3T]
  decide +kernel
theorem tx3T : txB [t2T, t1T, [120]] h3T = t2T := by
  have b1 : (h1T == h3T) = false := by decide +kernel
  have b2 : (h2T == h3T) = false := by decide +kernel
  have b3 : (h3T == h3T) = true := by decide +kernel
  unfold txB
  simp only [List.reverse_cons, List.reverse_nil, List.nil_append, List.cons_append, List.find?_cons, sha1T, sha2T, sha3T, b1, b2, b3]
  rfl
theorem tx2T : txB [t2T, t1T, [120]] h2T = t1T := by
  have b1 : (h1T == h2T) = false := by decide +kernel
  have b2 : (h2T == h2T) = true := by decide +kernel
  unfold txB
  simp only [List.reverse_cons, List.reverse_nil, List.nil_append, List.cons_append, List.find?_cons, sha1T, sha2T, sha3T, b1, b2]
  rfl
theorem tx1T : txB [t2T, t1T, [120]] h1T = [120] := by
  have b1 : (h1T == h1T) = true := by decide +kernel
  unfold txB
  simp only [List.reverse_cons, List.reverse_nil, List.nil_append, List.cons_append, List.find?_cons, sha1T, b1]
  rfl
theorem flat0T : flatY h3T [t2T, t1T, [120]] = (l0T, 0) := by
  have g3 : getM (ksB [t2T, t1T, [120]]) (txB [t2T, t1T, [120]]) h3T = some t2T := by unfold getM; rw [ks0T, if_pos (by simp), tx3T]
  have g2 : getM (ksB [t2T, t1T, [120]]) (txB [t2T, t1T, [120]]) h2T = some t1T := by unfold getM; rw [ks0T, if_pos (by simp), tx2T]
  have g1 : getM (ksB [t2T, t1T, [120]]) (txB [t2T, t1T, [120]]) h1T = some [120] := by unfold getM; rw [ks0T, if_pos (by simp), tx1T]
  unfold flatY
  generalize getM (ksB [t2T, t1T, [120]]) (txB [t2T, t1T, [120]]) = get at *
  have e1 : flatD get 101 h2T [97, 47] [] = (l0T, 0) := by
    rw [flatD, g2]
    simp only [rd1T]
    rw [if_neg (by decide), if_neg (by simp), flatN]
    rw [if_neg (by decide), if_neg (by decide)]
    simp only [g1]
    rw [if_neg (by decide), flatN]; rfl
  rw [flatD, g3]
  simp only [rd2T]
  rw [if_neg (by decide), if_neg (by simp), flatN]
  rw [if_neg (by decide), if_pos rfl]
  show (if (flatD get 101 h2T [97, 47] []).2 = 0 then _ else _) = _
  rw [e1, if_pos rfl, flatN]
  show ((flatD get 101 h2T [97, 47] []).1, 0) = _
  rw [e1]
theorem treeBegun_ok : Calc cx 15 [] (.bool true) :=
  pure_intro (fun a w => Tryz.call15 a w) Tryz.func15 rfl Tryz.ntmps15 rfl .bool fun B => by
    have hl0 : FilsOk l0T := ⟨by decide, by intro f hf; simp [l0T] at hf; subst hf; decide, by intro f hf; simp [l0T] at hf; subst hf; decide⟩
    have hB := Blobs_ok (st := true) (fl := true) l0T hl0
    have hR := Root_ok (st := true) (fl := true) l0T hl0
    have hF := Flat_gen (st := true) (fl := false) id h3T [t2T, t1T, [120]] (by decide) (by decide) (fun _ => rfl) (fun _ => by
      rw [flat0T]
      exact Sort1_ok (ksB [t2T, t1T, [120]]) (txB [t2T, t1T, [120]]) 0 ⟨[97, 47, 98], [120], false⟩)
    have hS := SameFiles_ok (st := true) (st' := true) (fl := true) (fl' := false) l0T l0T (by decide) (by decide)
    rw [decide_eq_true rfl] at hS
    unfold blobAV at hB
    unfold rootAV at hR
    rw [chk0T, if_pos rfl, blob0T] at hB
    rw [chk0T, if_pos rfl, root0T] at hR
    have hft : flatT id h3T [t2T, t1T, [120]] = (l0T, 0) := by
      unfold flatT
      rw [if_neg (by decide +kernel), if_pos (by decide +kernel), flat0T, if_pos rfl]; rfl
    rw [hft] at hF
    refine pa [.v (.tup [.sl true false 1 (texts [t2T, t1T, [120]]), .int .i64 ((0 : Nat) : Int)]), .v (.tup [.str h3T, .int .i64 ((0 : Nat) : Int)]), .v (.tup [.sl true false 3 (fils l0T), .int .i64 ((0 : Nat) : Int)]), .b true, .b true, .b true, .v (.bool true)] rfl ?_ ?_
    · (repeat' with_reducible apply AllP_cons) <;> try exact aC
      · exact ⟨_, hB, .cons (.refl (.sl (fun _ => rfl) (fils_free l0T))) (.nil _)⟩
      · exact ⟨_, hR, .cons (.refl (.sl (fun _ => rfl) (fils_free l0T))) (.nil _)⟩
      · exact ⟨_, hF, .cons (.refl .str) (.cons (.refl (.sl (fun _ => rfl) (texts_any _))) (.nil _))⟩
      · exact ⟨_, hS, .cons (.refl (.sl (fun _ => rfl) (fils_free l0T))) (.cons (.refl (.sl (fun _ => rfl) (fils_free l0T))) (.nil _))⟩
    exact S_retc .bool rfl trivial rfl
end Go.Proofs.YtpehmhlgldbeoaaGreatDoor
end
section
set_option linter.unusedVariables false
set_option linter.unusedSimpArgs false
namespace Go.Ab
open Go Go.WideShapes
def laidB (P : Program) : List Field → Nat → Option Nat
  | [], o => some o
  | f :: r, o => match Nat.beq f.offset o with
    | true => laidB P r (o + P.cellsOf f.type)
    | false => none
mutual
def plainB (P : Program) : Nat → TypeId → Bool
  | 0, _ => false
  | n + 1, t => match P.underlying t with
    | some .bool => Nat.beq (P.cellsOf t) 1
    | some (.int _) => Nat.beq (P.cellsOf t) 1
    | some .string => Nat.beq (P.cellsOf t) 1
    | some (.slice e) => match Nat.beq (P.cellsOf t) 1, Nat.beq (P.cellsOf e) 0 with
      | true, false => plainB P n e
      | _, _ => false
    | some (.struct fs) => match laidB P fs.toList 0 with
      | some m => match Nat.beq (P.cellsOf t) m with
        | true => plainAll P n fs.toList
        | false => false
      | none => false
    | _ => false
def plainAll (P : Program) : Nat → List Field → Bool
  | 0, _ => false
  | n + 1, fs => match fs with
    | [] => true
    | f :: r => match plainB P n f.type with
      | true => plainAll P n r
      | false => false
end
inductive RdD (P : Program) {H : Type} : TypeId → DataW H → AV → Prop
  | bool {t b} (ht : P.underlying t = some .bool) : RdD P t (.lit (.bool b)) (.bool b)
  | int {t k n} (ht : P.underlying t = some (.int k)) (hw : (Lit.int k n).wf = true) : RdD P t (.lit (.int k n)) (.int k n)
  | str {t s} (ht : P.underlying t = some .string) (hs : s.length ≤ maxLen) : RdD P t (.lit (.string s)) (.str s)
  | nils {t e} (ht : P.underlying t = some (.slice e)) : RdD P t .nil (.sl true false (P.cellsOf e) [])
  | sl {t e} {ds rest : List (DataW H)} {xs : List AV} (ht : P.underlying t = some (.slice e)) (hl : xs.length = ds.length) (hm : xs.length ≤ maxLen) (h : ∀ i (h1 : i < ds.length) (h2 : i < xs.length), RdD P e ds[i] xs[i]) : RdD P t (.slice ds rest) (.sl true false (P.cellsOf e) xs)
  | st {t} {fs : Array Field} {ds : List (DataW H)} {xs : List AV} (ht : P.underlying t = some (.struct fs)) (hd : ds.length = fs.size) (hx : xs.length = fs.size) (h : ∀ i (h1 : i < ds.length) (h2 : i < xs.length) (h3 : i < fs.size), RdD P fs[i].type ds[i] xs[i]) : RdD P t (.agg ds) (.agg (xs.flatMap AV.cells))
def CellsV (w : World) (cs : List Value) (az : List AV) : Prop := cs.length = az.length ∧ ∀ i (h1 : i < cs.length) (h2 : i < az.length), VRel (Rl.old w) w cs[i] az[i]
theorem CellsV.one {w : World} {v : Value} {a : AV} (h : VRel (Rl.old w) w v a) : CellsV w [v] [a] := by
  refine ⟨rfl, fun i h1 h2 => ?_⟩
  obtain rfl : i = 0 := by simpa using h1
  exact h
theorem laidB_flat {P : Program} : ∀ (fs : List Field) (o m : Nat) (w : World) (cs : List Value) (xs : List AV), laidB P fs o = some m → xs.length = fs.length → (∀ i (h1 : i < fs.length) (h2 : i < xs.length), CellsV w ((cs.drop fs[i].offset).take (P.cellsOf fs[i].type)) xs[i].cells ∧ xs[i].cells.length = P.cellsOf fs[i].type) →
    cs.length = m → o ≤ m ∧ CellsV w (cs.drop o) (xs.flatMap AV.cells)
  | [], o, m, w, cs, xs, h, hl, hc, hm => by
    simp only [laidB, Option.some.injEq] at h
    obtain rfl : xs = [] := List.eq_nil_of_length_eq_zero hl
    subst h
    refine ⟨Nat.le_refl _, ?_⟩
    rw [List.drop_of_length_le (by omega)]
    exact ⟨rfl, fun i h => absurd h (by simp)⟩
  | f :: r, o, m, w, cs, xs, h, hl, hc, hm => by
    rw [laidB] at h
    split at h
    case h_2 => cases h
    rename_i hb
    have ho := Nat.eq_of_beq_eq_true hb
    obtain ⟨x, xs, rfl⟩ : ∃ x xs', xs = x :: xs' := by
      cases xs with
      | nil => simp at hl
      | cons x xs => exact ⟨x, xs, rfl⟩
    have h0 := hc 0 (by simp) (by simp)
    simp only [List.getElem_cons_zero] at h0
    obtain ⟨h1, h2⟩ := laidB_flat r (o + P.cellsOf f.type) m w cs xs h (by simpa using hl) (fun i k1 k2 => hc (i + 1) (Nat.succ_lt_succ k1) (Nat.succ_lt_succ k2)) hm
    refine ⟨by omega, ?_⟩
    obtain ⟨⟨e1, e2⟩, e3⟩ := h0
    rw [ho] at e1 e2
    rw [List.flatMap_cons]
    have hsplit : cs.drop o = (cs.drop o).take (P.cellsOf f.type) ++ cs.drop (o + P.cellsOf f.type) := by
      rw [← List.drop_drop, List.take_append_drop]
    rw [hsplit]
    refine ⟨by rw [List.length_append, List.length_append, e1, h2.1], fun i k1 k2 => ?_⟩
    by_cases hi : i < x.cells.length
    · rw [List.getElem_append_left (by omega), List.getElem_append_left hi]
      exact e2 i (by omega) hi
    · rw [List.getElem_append_right (by omega), List.getElem_append_right (by omega)]
      have : i - ((cs.drop o).take (P.cellsOf f.type)).length = i - x.cells.length := by omega
      simp only [this]
      exact h2.2 _ _ _
theorem read_cells {H : Type} {enc : TypeId × Value → H} {P : Program} {W : World} : ∀ (fuel n : Nat) (t : TypeId) (cs : List Value) (d : DataW H) (ps : List MemPlace), DataW.trod enc P W 0 (fun _ => true) true fuel t cs = some (d, ps) → plainB P n t = true →
    ∃ a, RdD P t d a ∧ a.cells.length = P.cellsOf t ∧ CellsV W cs a.cells ∧ (∀ v, (∃ xs, v = .agg xs ∧ xs.toList = cs ∧ aggT P t = some true) ∨ ([v] = cs ∧ aggT P t = some false) → VRel (Rl.old W) W v a) := by
  intro fuel
  induction fuel with
  | zero => intro n t cs d ps h _; simp [DataW.trod] at h
  | succ fuel ih =>
    intro n t cs d ps h hp
    have hall : ∀ (n : Nat) (fs : List Field), plainAll P n fs = true → ∀ i (hi : i < fs.length), ∃ m, plainB P m fs[i].type = true := by
      intro n
      induction n with
      | zero => intro fs h; simp [plainAll] at h
      | succ n ihn =>
        intro fs h i hi
        cases fs with
        | nil => simp at hi
        | cons f r =>
          rw [plainAll] at h
          split at h
          · rename_i hb
            cases i with
            | zero => exact ⟨n, hb⟩
            | succ i => exact ihn r h i (by simpa using hi)
          · cases h
    cases n with
    | zero => simp [plainB] at hp
    | succ n =>
      rw [plainB] at hp
      split at hp
      ·
        rename_i ht
        obtain ⟨b, rfl, hx⟩ := DataW.trod_bool ht h
        cases hx
        refine ⟨.bool b, .bool ht, (Nat.eq_of_beq_eq_true hp).symm, .one .bool, ?_⟩
        rintro v (⟨xs, rfl, h1, h2⟩ | ⟨h1, h2⟩)
        · simp [aggT, ht] at h2
        · cases h1; exact .bool
      · rename_i k ht
        obtain ⟨m, rfl, hx, hw⟩ := DataW.trod_int ht h
        cases hx
        refine ⟨.int _ m, .int ht hw, (Nat.eq_of_beq_eq_true hp).symm, .one .int, ?_⟩
        rintro v (⟨xs, rfl, h1, h2⟩ | ⟨h1, h2⟩)
        · simp [aggT, ht] at h2
        · cases h1; exact .int
      · rename_i ht
        obtain ⟨s, rfl, hx, hw⟩ := DataW.trod_string ht h
        cases hx
        refine ⟨.str s.data.toList, .str ht (by rw [Array.length_toList]; exact hw), (Nat.eq_of_beq_eq_true hp).symm, .one (.str rfl), ?_⟩
        rintro v (⟨xs, rfl, h1, h2⟩ | ⟨h1, h2⟩)
        · simp [aggT, ht] at h2
        · cases h1; exact .str rfl
      ·
        rename_i e ht
        split at hp
        case h_2 => cases hp
        rename_i hc1 hc0
        have hc1 := Nat.eq_of_beq_eq_true hc1
        have hpos : 0 < P.cellsOf e := by
          rcases Nat.eq_zero_or_pos (P.cellsOf e) with h0 | h0
          · rw [h0] at hc0; cases hc0
          · exact h0
        rcases DataW.trod_slice ht h with ⟨rfl, hx⟩ | ⟨a, len, cap, elems, rest, fu, hfu, rfl, hx, _, hl, hm, hlen, hel, hsp, hns⟩
        · cases hx
          refine ⟨_, .nils ht, hc1.symm, .one (.sl0 (fun h => by cases h)), ?_⟩
          rintro v (⟨xs, rfl, h1, h2⟩ | ⟨h1, h2⟩)
          · simp [aggT, ht] at h2
          · cases h1; exact .sl0 (fun h => by cases h)
        · cases hx
          obtain rfl : fuel = fu := by omega
          have each : ∀ i (hi : i < elems.length), ∃ x, RdD P e (elems[i]).1 x ∧ x.cells.length = P.cellsOf e ∧ ∃ ecs : List Value, W.cells? 0 (a.add (i * P.cellsOf e)) (P.cellsOf e) = some ecs ∧ CellsV W ecs x.cells := by
            intro i hi
            have h1 := hel i (by omega)
            rw [List.getElem?_eq_getElem hi, Option.bind_eq_some_iff] at h1
            obtain ⟨ecs, h2, h3⟩ := h1
            obtain ⟨x, k1, k2, k3, _⟩ := ih n e ecs (elems[i]).1 (elems[i]).2 h3 hp
            exact ⟨x, k1, k2, ecs, h2, k3⟩
          have : ∃ xs : List AV, xs.length = elems.length ∧ ∀ i (hi : i < elems.length) (hx : i < xs.length), RdD P e (elems[i]).1 xs[i] ∧ xs[i].cells.length = P.cellsOf e ∧ ∃ ecs : List Value, W.cells? 0 (a.add (i * P.cellsOf e)) (P.cellsOf e) = some ecs ∧ CellsV W ecs xs[i].cells := by
            refine ⟨(List.finRange elems.length).map fun i => Classical.choose (each i.1 i.2), by simp, fun i hi hx => ?_⟩
            simp only [List.getElem_map, List.getElem_finRange]
            exact Classical.choose_spec (each i hi)
          obtain ⟨xs, hxl, hxs⟩ := this
          have hv : VRel (Rl.old W) W (.slice (some a) len cap) (.sl true false (P.cellsOf e) xs) := by
            rcases Nat.eq_zero_or_pos len with h0 | h0
            · subst h0
              obtain rfl : xs = [] := List.eq_nil_of_length_eq_zero (by omega)
              exact .sl0 (fun h => by cases h)
            · obtain ⟨b, o, sp⟩ := a
              obtain ⟨_, _, ecs0, hc, _⟩ := hxs 0 (by omega) (by omega)
              obtain ⟨_, hcl, hcc⟩ := World.cells?_some hc
              have hcell0 := hcc 0 hpos
              rw [List.getElem?_eq_getElem (by omega)] at hcell0
              have hsp : sp = none := by
                cases sp with
                | none => rfl
                | some s =>
                  simp [Addr.add, World.cell?] at hcell0
                  split at hcell0 <;> cases hcell0
              subst hsp
              have hb : b < W.heap.size := by
                rw [Addr.add_lit] at hcell0
                rcases Nat.lt_or_ge b W.heap.size with h | h
                · exact h
                · simp [World.cell?, Addr.add, Array.getElem?_eq_none h] at hcell0
              have hcel : ∀ i, i < xs.length → ∀ j, j < P.cellsOf e → ∃ v, W.cell? ⟨b, o + i * P.cellsOf e + j, none⟩ = some v ∧ ∀ (hi : i < xs.length) (hj : j < (AV.cells xs[i]).length), VRel (Rl.old W) W v (AV.cells xs[i])[j] := by
                intro i hi j hj
                obtain ⟨_, hxc, ecs, hc, hcv⟩ := hxs i (by omega) hi
                obtain ⟨_, hcl, hcc⟩ := World.cells?_some hc
                have h1 := hcc j hj
                rw [List.getElem?_eq_getElem (by omega)] at h1
                rw [Addr.add_lit, Addr.add_lit] at h1
                refine ⟨ecs[j], h1, fun _ hj' => hcv.2 j _ hj'⟩
              refine .sl (by omega) hl (fun h => by cases h) hb (fun _ => hb) (fun x hx => ?_) (fun i j => (W.cell? ⟨b, o + i * P.cellsOf e + j, none⟩).getD undef) (fun i hi j hj => ?_) (fun i hi j hj => ?_)
              · obtain ⟨i, hi, rfl⟩ := List.getElem_of_mem hx
                exact (hxs i (by omega) hi).2.1
              · obtain ⟨v, h1, _⟩ := hcel i hi j hj
                rw [h1]; rfl
              · obtain ⟨v, h1, h2⟩ := hcel i hi j (by rw [(hxs i (by omega) hi).2.1] at hj; exact hj)
                rw [h1]
                exact h2 hi hj
          refine ⟨.sl true false (P.cellsOf e) xs, .sl ht (by simp [hxl]) (by omega) (fun i h1 h2 => by simpa using (hxs i (by simpa using h1) h2).1), hc1.symm, .one hv, ?_⟩
          rintro v (⟨ys, rfl, h1, h2⟩ | ⟨h1, h2⟩)
          · simp [aggT, ht] at h2
          · cases h1; exact hv
      ·
        rename_i fs ht
        split at hp
        case h_2 => cases hp
        rename_i m hm
        split at hp
        case h_2 => cases hp
        rename_i hcm
        have hcm := Nat.eq_of_beq_eq_true hcm
        obtain ⟨ys, fu, hfu, hx, hl, hyl, hy⟩ := DataW.trod_struct ht h
        obtain rfl : fuel = fu := by omega
        cases hx
        have each : ∀ i (hi : i < fs.toList.length) (hi' : i < ys.length), ∃ x, RdD P (fs.toList[i]).type (ys[i]).1 x ∧ x.cells.length = P.cellsOf (fs.toList[i]).type ∧ CellsV W ((cs.drop (fs.toList[i]).offset).take (P.cellsOf (fs.toList[i]).type)) x.cells := by
          intro i hi hi'
          have h1 := hy i (fs.toList[i]) (by simp at hi; simp [hi])
          rw [List.getElem?_eq_getElem hi'] at h1
          obtain ⟨k, hk⟩ := hall n fs.toList hp i hi
          obtain ⟨x, k1, k2, k3, _⟩ := ih k _ _ (ys[i]).1 (ys[i]).2 h1 hk
          exact ⟨x, k1, k2, k3⟩
        have hfl : fs.toList.length = ys.length := by simp [hyl]
        have : ∃ xs : List AV, xs.length = fs.toList.length ∧ ∀ i (hi : i < fs.toList.length) (hi' : i < ys.length) (hx : i < xs.length), RdD P (fs.toList[i]).type (ys[i]).1 xs[i] ∧ xs[i].cells.length = P.cellsOf (fs.toList[i]).type ∧ CellsV W ((cs.drop (fs.toList[i]).offset).take (P.cellsOf (fs.toList[i]).type)) xs[i].cells := by
          refine ⟨(List.finRange fs.toList.length).map fun i => Classical.choose (each i.1 i.2 (by omega)), by simp, fun i hi hi' hx => ?_⟩
          simp only [List.getElem_map, List.getElem_finRange]
          exact Classical.choose_spec (each i hi hi')
        obtain ⟨xs, hxl, hxs⟩ := this
        obtain ⟨_, hcv⟩ := laidB_flat fs.toList 0 m W cs xs hm hxl (fun i h1 h2 => ⟨(hxs i h1 (by omega) h2).2.2, (hxs i h1 (by omega) h2).2.1⟩) (by omega)
        rw [List.drop_zero] at hcv
        refine ⟨.agg (xs.flatMap AV.cells), .st ht (by simp [hyl]) (by simpa using hxl) (fun i h1 h2 h3 => by
          have := (hxs i (by simpa using h3) (by simpa using h1) h2).1
          simp only [Array.getElem_toList, List.getElem_map] at this ⊢
          exact this), by show (xs.flatMap AV.cells).length = _; rw [← hcv.1]; omega, hcv, ?_⟩
        rintro v (⟨zs, rfl, h1, h2⟩ | ⟨h1, h2⟩)
        · refine .agg (by rw [← hcv.1, ← h1]; simp) (fun i hi => ?_)
          have h3 : i < cs.length := by rw [hcv.1]; exact hi
          have := hcv.2 i h3 hi
          subst h1
          rw [Array.getD_eq_getD_getElem?, Array.getElem?_eq_getElem (by simpa using h3)]
          simpa using this
        · simp [aggT, ht] at h2
      · cases hp
theorem read_plain {H : Type} {enc : TypeId × Value → H} {P : Program} {W : World} {r : Reach} {base : Nat} {n : Nat} {t : TypeId} {v : Value} {d : DataW H} {ps : List MemPlace} (hp : plainB P n t = true) (hv : Value.okWide P W r base t v)
    (h : DataW.Trod enc P W 0 (fun _ => true) true t v d ps) : ∃ a, VRel (Rl.old W) W v a ∧ RdD P t d a := by
  obtain ⟨fuel, hf⟩ := h
  obtain ⟨a, h1, _, _, h2⟩ := read_cells fuel n t _ d ps hf hp
  refine ⟨a, h2 v ?_, h1⟩
  cases n with
  | zero => simp [plainB] at hp
  | succ n =>
    rw [plainB] at hp
    split at hp
    · rename_i ht
      obtain ⟨b, rfl⟩ := okWide_bool ht hv
      exact .inr ⟨rfl, by simp [aggT, ht]⟩
    · rename_i k ht
      obtain ⟨b, rfl⟩ := okWide_int ht hv
      exact .inr ⟨rfl, by simp [aggT, ht]⟩
    · rename_i ht
      obtain ⟨b, rfl⟩ := okWide_string ht hv
      exact .inr ⟨rfl, by simp [aggT, ht]⟩
    · rename_i e ht
      obtain ⟨a, len, cap, rfl⟩ := okWide_slice ht hv
      exact .inr ⟨rfl, by simp [aggT, ht]⟩
    · rename_i fs ht
      obtain ⟨cs, rfl, _⟩ := okWide_struct ht hv
      exact .inl ⟨cs, rfl, rfl, by simp [aggT, ht]⟩
    · cases hp
def RdDAll (P : Program) {H : Type} : List Field → List (DataW H) → List AV → Prop
  | [], [], [] => True
  | f :: fs, d :: ds, x :: xs => RdD P f.type d x ∧ RdDAll P fs ds xs
  | _, _, _ => False
theorem RdDAll.of {P : Program} {H : Type} : ∀ {fs : List Field} {ds : List (DataW H)} {xs : List AV}, ds.length = fs.length → xs.length = fs.length → (∀ i (h1 : i < ds.length) (h2 : i < xs.length) (h3 : i < fs.length), RdD P fs[i].type ds[i] xs[i]) → RdDAll P fs ds xs
  | [], ds, xs, h1, h2, _ => by
    obtain rfl : ds = [] := List.eq_nil_of_length_eq_zero h1
    obtain rfl : xs = [] := List.eq_nil_of_length_eq_zero h2
    trivial
  | f :: fs, ds, xs, h1, h2, h => by
    cases ds with
    | nil => simp at h1
    | cons d ds =>
      cases xs with
      | nil => simp at h2
      | cons x xs =>
        exact ⟨h 0 (by simp) (by simp) (by simp), RdDAll.of (by simpa using h1) (by simpa using h2) (fun i k1 k2 k3 => h (i + 1) (Nat.succ_lt_succ k1) (Nat.succ_lt_succ k2) (Nat.succ_lt_succ k3))⟩
theorem RdDAll.cons {P : Program} {H : Type} {f : Field} {fs : List Field} {ds : List (DataW H)} {xs : List AV} (h : RdDAll P (f :: fs) ds xs) : ∃ d ds' x xs', ds = d :: ds' ∧ xs = x :: xs' ∧ RdD P f.type d x ∧ RdDAll P fs ds' xs' := by
  match ds, xs, h with
  | d :: ds', x :: xs', ⟨h1, h2⟩ => exact ⟨d, ds', x, xs', rfl, rfl, h1, h2⟩
theorem RdDAll.nil {P : Program} {H : Type} {ds : List (DataW H)} {xs : List AV} (h : RdDAll P [] ds xs) : ds = [] ∧ xs = [] := by
  match ds, xs, h with
  | [], [], _ => exact ⟨rfl, rfl⟩
section
variable {P : Program} {H : Type} {t : TypeId} {d : DataW H} {a : AV}
theorem RdD.inv_st {fs : Array Field} (h : RdD P t d a) (ht : P.underlying t = some (.struct fs)) : ∃ ds xs, d = .agg ds ∧ a = .agg (xs.flatMap AV.cells) ∧ RdDAll P fs.toList ds xs := by
  cases h with
  | st ht' hd hx h =>
    rw [ht] at ht'
    cases ht'
    exact ⟨_, _, rfl, rfl, .of (by simpa using hd) (by simpa using hx) (fun i h1 h2 h3 => by simpa using h i h1 h2 (by simpa using h3))⟩
  | bool ht' => rw [ht] at ht'; cases ht'
  | str ht' => rw [ht] at ht'; cases ht'
  | int ht' => rw [ht] at ht'; cases ht'
  | nils ht' => rw [ht] at ht'; cases ht'
  | sl ht' => rw [ht] at ht'; cases ht'
theorem RdD.inv_str (h : RdD P t d a) (ht : P.underlying t = some .string) : ∃ s, d = .lit (.string s) ∧ a = .str s ∧ s.length ≤ maxLen := by
  cases h with
  | str ht' hs => exact ⟨_, rfl, rfl, hs⟩
  | bool ht' => rw [ht] at ht'; cases ht'
  | int ht' => rw [ht] at ht'; cases ht'
  | nils ht' => rw [ht] at ht'; cases ht'
  | sl ht' => rw [ht] at ht'; cases ht'
  | st ht' => rw [ht] at ht'; cases ht'
theorem RdD.inv_bool (h : RdD P t d a) (ht : P.underlying t = some .bool) : ∃ b, d = .lit (.bool b) ∧ a = .bool b := by
  cases h with
  | bool ht' => exact ⟨_, rfl, rfl⟩
  | int ht' => rw [ht] at ht'; cases ht'
  | str ht' => rw [ht] at ht'; cases ht'
  | nils ht' => rw [ht] at ht'; cases ht'
  | sl ht' => rw [ht] at ht'; cases ht'
  | st ht' => rw [ht] at ht'; cases ht'
theorem RdD.inv_sl {e : TypeId} (h : RdD P t d a) (ht : P.underlying t = some (.slice e)) :
    ∃ (ds : List (DataW H)) (xs : List AV), a = .sl true false (P.cellsOf e) xs ∧ xs.length = ds.length ∧ xs.length ≤ maxLen ∧ (∀ i (h1 : i < ds.length) (h2 : i < xs.length), RdD P e ds[i] xs[i]) ∧ ((d = .nil ∧ ds = []) ∨ ∃ rest, d = .slice ds rest) := by
  cases h with
  | nils ht' => rw [ht] at ht'; cases ht'; exact ⟨[], [], rfl, rfl, Nat.zero_le _, fun i h => absurd h (by simp), .inl ⟨rfl, rfl⟩⟩
  | sl ht' hl hm h => rw [ht] at ht'; cases ht'; exact ⟨_, _, rfl, hl, hm, h, .inr ⟨_, rfl⟩⟩
  | bool ht' => rw [ht] at ht'; cases ht'
  | int ht' => rw [ht] at ht'; cases ht'
  | str ht' => rw [ht] at ht'; cases ht'
  | st ht' => rw [ht] at ht'; cases ht'
theorem RdD.each {α : Type} {e : TypeId} (f : α → AV) (g : α → DataW H → Prop) {ds : List (DataW H)} {xs : List AV} (hl : xs.length = ds.length) (h : ∀ i (h1 : i < ds.length) (h2 : i < xs.length), RdD P e ds[i] xs[i])
    (hf : ∀ d x, RdD P e d x → ∃ y, x = f y ∧ g y d) : ∃ ys : List α, xs = ys.map f ∧ ys.length = ds.length ∧ ∀ i (h1 : i < ds.length) (h2 : i < ys.length), g ys[i] ds[i] := by
  induction xs generalizing ds with
  | nil =>
    obtain rfl : ds = [] := List.eq_nil_of_length_eq_zero (by simpa using hl.symm)
    exact ⟨[], rfl, rfl, fun i h => absurd h (by simp)⟩
  | cons x xs ih =>
    cases ds with
    | nil => simp at hl
    | cons d ds =>
      obtain ⟨y, hy, hg⟩ := hf d x (h 0 (by simp) (by simp))
      obtain ⟨ys, h1, h2, h3⟩ := ih (ds := ds) (by simpa using hl) (fun i k1 k2 => h (i + 1) (Nat.succ_lt_succ k1) (Nat.succ_lt_succ k2))
      refine ⟨y :: ys, by rw [hy, h1]; rfl, by simp [h2], fun i k1 k2 => ?_⟩
      cases i with
      | zero => exact hg
      | succ i => exact h3 i (Nat.lt_of_succ_lt_succ k1) (Nat.lt_of_succ_lt_succ k2)
end
end Go.Ab
end
section
set_option linter.unusedVariables false
set_option linter.unusedSimpArgs false
namespace Go.Ab
open Go Go.WideShapes
mutual
def avB : AV → Nat
  | .str s => s.length
  | .sl _ _ _ xs => avS xs
  | .agg cs => avC cs
  | _ => 0
def avS : List AV → Nat
  | [] => 0
  | x :: r => avB x + 1 + avS r
def avC : List AV → Nat
  | [] => 0
  | x :: r => avB x + avC r
end
theorem avC_append (a b : List AV) : avC (a ++ b) = avC a + avC b := by
  induction a with
  | nil => simp [avC]
  | cons x a ih => simp only [List.cons_append, avC, ih]; omega
theorem avC_cells (x : AV) : avC x.cells ≤ avB x := by
  cases x <;> simp [AV.cells, avC, avB]
theorem avC_flat (xs : List AV) : avC (xs.flatMap AV.cells) ≤ avC xs := by
  induction xs with
  | nil => simp
  | cons x xs ih =>
    have := avC_cells x
    simp only [List.flatMap_cons, avC_append, avC]; omega
theorem avC_le_avS (xs : List AV) : avC xs ≤ avS xs := by
  induction xs with
  | nil => simp [avC, avS]
  | cons x xs ih => simp only [avC, avS]; omega
theorem bulk_all {P : Program} {H : Type} {B : DataW H → Nat} {BA : List (DataW H) → Nat} (hn : BA [] = 0) (hc : ∀ d r, BA (d :: r) = B d + BA r) : ∀ {ds : List (DataW H)} {xs : List AV}, xs.length = ds.length →
    (∀ i (h1 : i < ds.length) (h2 : i < xs.length), avB xs[i] + 1 ≤ B ds[i]) → avS xs ≤ BA ds
  | [], xs, hl, h => by
    obtain rfl : xs = [] := List.eq_nil_of_length_eq_zero (by simpa using hl)
    simp [avS]
  | d :: ds, xs, hl, h => by
    cases xs with
    | nil => simp at hl
    | cons x xs =>
      have h0 := h 0 (by simp) (by simp)
      have := bulk_all (P := P) (B := B) hn hc (ds := ds) (xs := xs) (by simpa using hl) (fun i h1 h2 => h (i + 1) (Nat.succ_lt_succ h1) (Nat.succ_lt_succ h2))
      simp only [avS, hc]
      simp only [List.getElem_cons_zero] at h0
      omega
theorem RdD.bulk {P : Program} {H : Type} {B : DataW H → Nat} {BA : List (DataW H) → Nat} (hn : BA [] = 0) (hc : ∀ d r, BA (d :: r) = B d + BA r) (h1 : ∀ d, 1 ≤ B d) (hs : ∀ s, B (.lit (.string s)) = s.length + 1)
    (hsl : ∀ a b, B (.slice a b) = BA a + BA b + 1) (hag : ∀ a, B (.agg a) = BA a + 1) {t : TypeId} {d : DataW H} {a : AV} (h : RdD P t d a) : avB a + 1 ≤ B d := by
  induction h with
  | bool => simpa [avB] using h1 _
  | int => simpa [avB] using h1 _
  | str => simp [avB, hs]
  | nils => simpa [avB, avS] using h1 _
  | sl ht hl hm h ih =>
    have := bulk_all (P := P) (B := B) hn hc hl ih
    rw [hsl]; simp only [avB]; omega
  | st ht hd hx h ih =>
    have := bulk_all (P := P) (B := B) hn hc (by omega) (fun i a b => ih i a b (by omega))
    rw [hag]; simp only [avB]
    rename_i t fs ds xs
    have k1 := avC_flat xs
    have k2 := avC_le_avS xs
    omega
end Go.Ab
end
section
set_option linter.unusedVariables false
set_option linter.unusedSimpArgs false
set_option maxRecDepth 20000
set_option maxHeartbeats 4000000
namespace Go.Proofs.YtpehmhlgldbeoaaGreatDoor
open Go Go.Ab
theorem avS_fils (l : List Fil) : l.length ≤ avS (fils l) ∧ ∀ f ∈ l, f.path.length + f.text.length ≤ avS (fils l) := by
  induction l with
  | nil => exact ⟨Nat.zero_le _, fun f hf => by cases hf⟩
  | cons g r ih =>
    have e : avS (fils (g :: r)) = (g.path.length + (g.text.length + (0 + 0))) + 1 + avS (fils r) := by
      show avS (filA g :: fils r) = _
      simp only [avS, filA, avB, avC]
    rw [e]
    refine ⟨by rw [List.length_cons]; omega, fun f hf => ?_⟩
    rcases List.mem_cons.1 hf with rfl | hf
    · omega
    · have := ih.2 f hf; omega
theorem fils_of {l : List Fil} (hk : avB (.sl true false 3 (fils l)) ≤ 1048576) : FilsOk l := by
  have h : avS (fils l) ≤ 1048576 := by simpa only [avB] using hk
  have := avS_fils l
  exact ⟨by omega, fun f hf => by have := this.2 f hf; omega, fun f hf => by have := this.2 f hf; omega⟩
end Go.Proofs.YtpehmhlgldbeoaaGreatDoor
end
section
set_option linter.unusedVariables false
set_option linter.unusedSimpArgs false
set_option maxRecDepth 20000
set_option maxHeartbeats 4000000
namespace Go.Proofs.YtpehmhlgldbeoaaGreatDoor
open Go Go.Ab
def cutF (dir : List UInt8) (f : Fil) : Fil := ⟨f.path.drop (dir.length + 1), f.text, f.run⟩
def undT (l : List Fil) (dir : List UInt8) : List Fil := (l.filter (fun f => insT dir f.path)).map (cutF dir)
def undE (l : List Fil) (dir : List UInt8) : Nat := if chkT l = 0 then (if isPathB dir = true then (if undT l dir = [] then 5 else 0) else 1) else chkT l
theorem und_step {l : List Fil} {i : Nat} (h : i < l.length) (dir : List UInt8) : undT (l.take (i + 1)) dir = undT (l.take i) dir ++ (if insT dir l[i].path = true then [cutF dir l[i]] else []) := by
  unfold undT
  rw [List.take_succ_eq_append_getElem h, List.filter_append, List.map_append]
  congr 1
  cases hi : insT dir l[i].path with
  | true => rw [List.filter_cons_of_pos (by simpa using hi)]; rfl
  | false => rw [List.filter_cons_of_neg (by simpa using hi)]; rfl
theorem und_len (l : List Fil) (dir : List UInt8) : (undT l dir).length ≤ l.length := by
  unfold undT; rw [List.length_map]; exact List.length_filter_le _ _
def outV (k : Nat) (out : List Fil) : AV := match out with | [] => .nils | _ :: _ => .ms k out.length 0 out.length 3 false
def outB (out : List Fil) : Option Box := match out with | [] => none | _ :: _ => some (.cells (celsF out) ⟨false, none⟩)
theorem Under_ok {st fl : Bool} (l : List Fil) (dir : List UInt8) (hl : FilsOk l) (hd : dir.length ≤ 1000000000) : Calc cx 33 [.sl st fl 3 (fils l), .str dir] (flatAV (undT l dir, undE l dir)) :=
  pure_intro (fun a w => Tryz.call33 a w) Tryz.func33 rfl Tryz.ntmps33 rfl (flatAV_free _) fun B => by
    have hll := fils_len l
    have hlen := hl.len
    have hC := Check_ok (st := st) (fl := fl) l hl
    have hP := isPath_ok dir (by omega)
    have rt : ∀ (x : List Fil) (e : Nat), e ≠ 0 → flatAV (x, e) = .tup [.nils, .int .i64 (e : Nat)] := fun x e he => by unfold flatAV; rw [if_neg he]
    have rf : ∀ e : Int, Free true (.tup [.nils, .int .i64 e]) := fun e => .tup (by intro x hx; simp at hx; rcases hx with rfl | rfl; exact .nils; exact .int)
    unfold undE
    by_cases hc : chkT l = 0
    case neg =>
      rw [if_neg hc, rt _ _ hc]
      refine pa [.v (.int .i64 (chkT l : Nat)), .b true] rfl ?_ ?_
      · (repeat' with_reducible apply AllP_cons) <;> try exact aC
        · exact ⟨_, hC, .cons (.refl (.sl (fun h => by cases h) (fils_free l))) (.nil _)⟩
        · show ((((chkT l : Nat) : Int)) != 0) = true
          rw [chk_bne]; simpa using hc
      exact S_retc (rf _) rfl trivial rfl
    rw [hc] at hC
    rw [if_pos hc]
    cases hp : isPathB dir with
    | false =>
      rw [hp] at hP
      rw [if_neg (by simp), rt _ _ (by decide)]
      refine pa [.v (.int .i64 ((0 : Nat) : Int)), .b false, .v (.bool false), .b true] rfl ?_ ?_
      · (repeat' with_reducible apply AllP_cons) <;> try exact aC
        · exact ⟨_, hC, .cons (.refl (.sl (fun h => by cases h) (fils_free l))) (.nil _)⟩
        · exact ⟨_, hP, .cons (.refl .str) (.nil _)⟩
      exact S_retc (rf _) rfl trivial rfl
    | true =>
      rw [hp] at hP
      rw [if_pos rfl]
      refine pa [.v (.int .i64 ((0 : Nat) : Int)), .b false, .v (.bool true), .b false] rfl ?_ ?_
      · (repeat' with_reducible apply AllP_cons) <;> try exact aC
        · exact ⟨_, hC, .cons (.refl (.sl (fun h => by cases h) (fils_free l))) (.nil _)⟩
        · exact ⟨_, hP, .cons (.refl .str) (.nil _)⟩
      refine S_dead ?_ ⟨_, _, .inl rfl⟩
      refine S_dead ?_ ⟨_, _, .inl rfl⟩
      refine S_while (α := Nat) (fun i => [(1, .str dir), (7, outV 1 (undT (l.take i) dir)), (18, .sl st fl 3 (fils l)), (19, .int .i64 (((fils l).length : Nat) : Int)), (20, .int .i64 (i : Nat))]) (fun i => [(i, none), ((undT (l.take i) dir).length, outB (undT (l.take i) dir))]) (fun i => i ≤ l.length) (fun i => l.length - i) 0
        (Nat.zero_le _) (.cons rfl (.cons rfl (.cons rfl (.cons rfl (.cons rfl (.nil _)))))) rfl ?_
      intro i hi
      have hi : i ≤ l.length := hi
      by_cases hlt : i < l.length
      · have e1 : decide ((i : Int) < (((fils l).length : Nat) : Int)) = true := decide_eq_true (by omega)
        have g1 : (fils l)[(i : Int).toNat]? = some (filA l[i]) := fils_get hlt
        have hm := List.getElem_mem hlt
        have hN := inside_ok dir l[i].path (by omega)
        have hU := und_step hlt dir
        have hul := und_len (l.take i) dir
        rw [List.length_take] at hul
        generalize undT (l.take i) dir = o at hU hul
        cases hin : insT dir l[i].path with
        | false =>
          rw [hin] at hN hU
          rw [if_neg (by simp), List.append_nil] at hU
          cases o with
          | nil =>
            refine pa [.b true, .v (filA l[i]), .v (.bool false), .b false, .s] rfl ?_ ?_
            · (repeat' with_reducible apply AllP_cons) <;> try exact aC
              · exact ⟨_, hN, .cons (.refl .str) (.cons (.refl .str) (.nil _))⟩
            refine S_drop (id := 0) rfl ?_ ⟨.skip, _, .inr ⟨_, _, _, rfl⟩⟩
            refine pB [] rfl ?_
            exact S_round (i + 1) (by show l.length - (i + 1) < l.length - i; omega) hlt (.cons rfl (.cons (by rw [hU]; rfl) (.cons rfl (.cons rfl (.cons (nX (by omega)) (.nil _)))))) (by rw [hU]; rfl)
          | cons f r =>
            refine pa [.b true, .v (filA l[i]), .v (.bool false), .b false, .s] rfl ?_ ?_
            · (repeat' with_reducible apply AllP_cons) <;> try exact aC
              · exact ⟨_, hN, .cons (.refl .str) (.cons (.refl .str) (.nil _))⟩
            refine S_drop (id := 0) rfl ?_ ⟨.skip, _, .inr ⟨_, _, _, rfl⟩⟩
            refine pB [] rfl ?_
            exact S_round (i + 1) (by show l.length - (i + 1) < l.length - i; omega) hlt (.cons rfl (.cons (by rw [hU]; rfl) (.cons rfl (.cons rfl (.cons (nX (by omega)) (.nil _)))))) (by rw [hU]; rfl)
        | true =>
          rw [hin] at hN hU
          rw [if_pos rfl] at hU
          have hpl : dir.length + 1 ≤ l[i].path.length := ((ins_iff dir l[i].path).1 hin).1
          have hpm := hl.path _ hm
          have hw : IntKind.i64.wrap ((dir.length : Int) + 1) = ((dir.length + 1 : Nat) : Int) := w64 (by omega) (by omega)
          have hcut : cutL (some (IntKind.i64.wrap ((dir.length : Int) + 1))) none l[i].path = l[i].path.drop (dir.length + 1) := by
            rw [hw]; simp [cutL]
          cases o with
          | nil =>
            refine pan 44 [.b true, .v (filA l[i]), .v (.bool true), .b true] rfl ?_ ?_
            · (repeat' with_reducible apply AllP_cons) <;> try exact aC
              · exact ⟨_, hN, .cons (.refl .str) (.cons (.refl .str) (.nil _))⟩
            refine S_drop (id := 0) rfl ?_ ⟨.skip, _, .inr ⟨_, _, _, rfl⟩⟩
            refine S_heap [(i + 1, none), (1, some (.cells (celsF [cutF dir l[i]]) ⟨false, none⟩))] ?_ ?_
            · show ([(i + 1, none), (1, some (.cells [.str (cutL (some (IntKind.i64.wrap ((dir.length : Int) + 1))) none l[i].path), .str l[i].text, .bool l[i].run] ⟨false, none⟩))] : Heap) = _
              rw [hcut]; rfl
            refine pB [] rfl ?_
            exact S_round (i + 1) (by show l.length - (i + 1) < l.length - i; omega) hlt (.cons rfl (.cons (by rw [hU]; rfl) (.cons rfl (.cons rfl (.cons (nX (by omega)) (.nil _)))))) (by rw [hU]; rfl)
          | cons f r =>
            refine pan 44 [.b true, .v (filA l[i]), .v (.bool true), .b true] rfl ?_ ?_
            · (repeat' with_reducible apply AllP_cons) <;> try exact aC
              · exact ⟨_, hN, .cons (.refl .str) (.cons (.refl .str) (.nil _))⟩
              · show 0 + (f :: r).length * 3 = _
                rw [cels_len]; omega
              · show ((f :: r).length + 1) * 40 ≤ 140737488355328
                omega
              · show (f :: r).length + 1 ≤ 9223372036854775807
                omega
            refine S_drop (id := 0) rfl ?_ ⟨.skip, _, .inr ⟨_, _, _, rfl⟩⟩
            refine S_heap [(i + 1, none), ((f :: r).length + 1, some (.cells (celsF ((f :: r) ++ [cutF dir l[i]])) ⟨false, none⟩))] ?_ ?_
            · show ([(i + 1, none), ((f :: r).length + 1, some (.cells (dropA 0 (celsF (f :: r)) ++ [.str (cutL (some (IntKind.i64.wrap ((dir.length : Int) + 1))) none l[i].path), .str l[i].text, .bool l[i].run]) ⟨false, none⟩))] : Heap) = _
              rw [hcut, celsF_add]; rfl
            refine pB [] rfl ?_
            exact S_round (i + 1) (by show l.length - (i + 1) < l.length - i; omega) hlt (.cons rfl (.cons (by rw [hU]; show AV.ms 1 ((f :: r).length + 1) 0 ((f :: r).length + 1) 3 false = outV 1 ((f :: r) ++ [cutF dir l[i]]); simp [outV]) (.cons rfl (.cons rfl (.cons (nX (by omega)) (.nil _)))))) (by rw [hU]; show _ = [(i + 1, none), (((f :: r) ++ [cutF dir l[i]]).length, outB ((f :: r) ++ [cutF dir l[i]]))]; rw [List.length_append]; rfl)
      · have hil : i = l.length := by omega
        subst hil
        have e1 : decide ((l.length : Int) < (((fils l).length : Nat) : Int)) = false := decide_eq_false (by omega)
        rw [List.take_length]
        have hcl := cels_len (undT l dir)
        have hul := und_len l dir
        cases ho : undT l dir with
        | nil =>
          rw [if_pos rfl, rt _ _ (by decide)]
          refine pa [.b false, .v (.bool true), .b true] rfl ?_ ?_
          · (repeat' with_reducible apply AllP_cons) <;> try exact aC
            · exact OpSpec.nilEq rfl Tryz.underlying22 rfl rfl (.inl ⟨rfl, rfl⟩)
          exact S_retc (rf _) rfl trivial rfl
        | cons f r =>
          rw [if_neg (by simp)]
          rw [ho] at hcl hul
          refine pa [.b false, .v (.bool false), .b false] rfl ?_ ?_
          · (repeat' with_reducible apply AllP_cons) <;> try exact aC
            · exact OpSpec.nilEq rfl Tryz.underlying22 rfl rfl (.inr ⟨_, _, _, _, _, _, rfl, by simp, rfl⟩)
          refine S_ret ⟨_, _, rfl, trivial, _, rfl, ?_⟩
          show Frz true _ (.tup [.ms 1 (f :: r).length 0 (f :: r).length 3 false, .int .i64 0]) (.tup [.sl true false 3 (fils (f :: r)), .int .i64 0])
          exact Fzs.tup (.cons (.ms rfl (by show 0 + (f :: r).length * 3 ≤ (celsF (f :: r)).length; omega) (by rw [List.drop_zero]; exact List.take_of_length_le (by omega)) (fil_size _) (fils_len _) (fils_free _)) (.cons (.refl .int) .nil))
end Go.Proofs.YtpehmhlgldbeoaaGreatDoor
end
section
set_option linter.unusedVariables false
set_option linter.unusedSimpArgs false
set_option maxRecDepth 20000
set_option maxHeartbeats 4000000
namespace Go.Proofs.YtpehmhlgldbeoaaGreatDoor
open Go Go.Ab
theorem filesAre_ok {st fl st' fl' : Bool} (a b : List Fil) (e : Nat) (ha : a.length ≤ 1000000000) (hb : b.length ≤ 1000000000) (h0 : e = 0 → a = b) (h1 : e ≠ 0 → a = []) : Calc cx 23 [.sl st fl 3 (fils a), .int .i64 (e : Nat), .int .i64 (e : Nat), .sl st' fl' 3 (fils b)] (.bool true) :=
  pure_intro (fun a w => Tryz.call23 a w) Tryz.func23 rfl Tryz.ntmps23 rfl .bool fun B => by
    by_cases he : e = 0
    · obtain rfl := h0 he
      subst he
      have hS := SameFiles_ok (st := st) (fl := fl) (st' := st') (fl' := fl') a a ha ha
      rw [decide_eq_true rfl] at hS
      refine pa [.b false, .b true, .v (.bool true)] rfl ?_ ?_
      · (repeat' with_reducible apply AllP_cons) <;> try exact aC
        · exact ⟨_, hS, .cons (.refl (.sl (fun h => by cases h) (fils_free a))) (.cons (.refl (.sl (fun h => by cases h) (fils_free a))) (.nil _))⟩
      exact S_retc .bool rfl trivial rfl
    · obtain rfl := h1 he
      have hS := SameFiles_ok (st := st) (fl := fl) (st' := false) (fl' := false) [] [] (by decide) (by decide)
      rw [decide_eq_true rfl] at hS
      refine pa [.b true, .b true, .v (.bool true)] rfl ?_ ?_
      · (repeat' with_reducible apply AllP_cons) <;> try exact aC
        · show ((((e : Int)) != 0) = true)
          rw [chk_bne]; simpa using he
        · exact ⟨_, hS, .cons (.refl (.sl (fun h => by cases h) (fils_free []))) (.cons .nils (.nil _))⟩
      exact S_retc .bool rfl trivial rfl
def flatSV (y : List Fil × Nat) : AV := .tup [.sl true false 3 (fils (if y.2 = 0 then y.1 else [])), .int .i64 (y.2 : Nat)]
theorem flatS {f : FuncId} {args : List AV} {y : List Fil × Nat} (h : Calc cx f args (flatAV y)) : Calc cx f args (flatSV y) :=
  h.weak (.tup (by intro x hx; simp at hx; rcases hx with rfl | rfl; exact .sl (fun _ => rfl) (fils_free _); exact .int)) fun r w v hv => by
    unfold flatAV at hv
    unfold flatSV
    by_cases he : y.2 = 0
    · rw [if_pos he] at hv ⊢; exact hv
    · rw [if_neg he] at hv ⊢
      cases hv with
      | tup hn hall =>
        refine .tup hn fun i hi => ?_
        match i, hi with
        | 0, hi =>
          have h0 := hall 0 (by simp)
          have h0 : VRel r w _ .nils := h0
          show VRel r w _ (.sl true false 3 [])
          generalize Array.getD _ 0 undef = z at h0 ⊢
          cases h0
          exact .sl0 (fun h => by cases h)
        | 1, hi => exact hall 1 (by simp)
        | k + 2, hi => exact absurd hi (by simp)
theorem msF (o : List Fil) : Frz false [(o.length, some (.cells (celsF o) ⟨false, none⟩))] (.ms 0 o.length 0 o.length 3 false) (.sl false false 3 (fils o)) :=
  .ms rfl (by rw [cels_len]; omega) (by rw [List.drop_zero]; exact List.take_of_length_le (by rw [cels_len]; omega)) (fil_size _) (fils_len _) (fils_free _)
theorem TreeUnders_ok (l : List Fil) (dir : List UInt8) (hk : avB (.sl true false 3 (fils l)) ≤ 1048576) (hd : dir.length ≤ 1048576) : Calc cx 9 [.sl true false 3 (fils l), .str dir] (.bool true) :=
  pure_intro (fun a w => Tryz.call9 a w) Tryz.func9 rfl Tryz.ntmps9 rfl .bool fun B => by
    have hl := fils_of hk
    have hll := fils_len l
    have hlen := hl.len
    have hU := Under_ok (st := true) (fl := false) l dir hl (by omega)
    have hC := CheckTree_ok (st := true) (fl := false) l hl
    have hP := IsPath_ok dir (by omega)
    have hfr : Frzs ([] : Heap) [.sl true false 3 (fils l), .str dir] [.sl true false 3 (fils l), .str dir] := .cons (.refl (.sl (fun h => by cases h) (fils_free l))) (.cons (.refl .str) (.nil _))
    obtain ⟨E, hE⟩ : ∃ E, E = undE l dir := ⟨_, rfl⟩
    rw [← hE] at hU
    have hU := flatS hU
    obtain ⟨w, hw⟩ : ∃ w, w = if chkT l = 0 then (if isPathB dir = true then 0 else 1) else chkT l := ⟨_, rfl⟩
    have hEw : E = if w = 0 then (if undT l dir = [] then 5 else 0) else w := by
      rw [hE, hw]; unfold undE
      by_cases hc : chkT l = 0
      · rw [if_pos hc, if_pos hc]
        cases isPathB dir <;> simp
      · rw [if_neg hc, if_neg hc, if_neg hc]
    by_cases hc : chkT l = 0
    case' neg =>
      have hwv : w = chkT l := by rw [hw, if_neg hc]
      refine pa [.v (flatSV (undT l dir, E)), .v (.int .i64 (chkT l : Nat)), .b false, .b false] rfl ?_ ?_
    case' pos =>
      rw [hc] at hC
      cases hp : isPathB dir
    case' pos.false =>
      have hwv : w = 1 := by rw [hw, if_pos hc, hp]; rfl
      rw [hp] at hP
      refine pa [.v (flatSV (undT l dir, E)), .v (.int .i64 ((0 : Nat) : Int)), .b true, .v (.bool false), .b true] rfl ?_ ?_
    case' pos.true =>
      have hwv : w = 0 := by rw [hw, if_pos hc, hp]; rfl
      rw [hp] at hP
      refine pa [.v (flatSV (undT l dir, E)), .v (.int .i64 ((0 : Nat) : Int)), .b true, .v (.bool true), .b false] rfl ?_ ?_
    case pos.false.refine_1 | pos.true.refine_1 =>
      (repeat' with_reducible apply AllP_cons) <;> try exact aC
      · exact ⟨_, hU, hfr⟩
      · exact ⟨_, hC, .cons (.refl (.sl (fun h => by cases h) (fils_free l))) (.nil _)⟩
      · exact ⟨_, hP, .cons (.refl .str) (.nil _)⟩
    case neg.refine_1 =>
      (repeat' with_reducible apply AllP_cons) <;> try exact aC
      · exact ⟨_, hU, hfr⟩
      · exact ⟨_, hC, .cons (.refl (.sl (fun h => by cases h) (fils_free l))) (.nil _)⟩
      all_goals (show (((((chkT l : Nat) : Int)) == 0) = false); simpa using hc)
    all_goals
      refine S_ghostF (t := 8) 3 ⟨false, none⟩ rfl rfl ⟨_, _, .inl rfl⟩ ?_
      refine S_while (α := Nat) (fun i => [(0, .sl true false 3 (fils l)), (1, .str dir), (5, .sl true false 3 (fils (if E = 0 then undT l dir else []))), (6, .int .i64 (E : Nat)), (7, .int .i64 (w : Nat)), (8, .ms 0 (undT (l.take i) dir).length 0 (undT (l.take i) dir).length 3 false), (9, .int .i64 (i : Nat))]) (fun i => [((undT (l.take i) dir).length, some (.cells (celsF (undT (l.take i) dir)) ⟨false, none⟩))]) (fun i => i ≤ l.length ∧ (w ≠ 0 → i = 0)) (fun i => l.length - i) 0
        ⟨Nat.zero_le _, fun _ => rfl⟩ (.cons rfl (.cons rfl (.cons rfl (.cons rfl (.cons (by rw [hwv]; rfl) (.cons rfl (.cons rfl (.nil _)))))))) rfl ?_
      clear hwv
      rintro i ⟨hi, hi0⟩
      have hi : i ≤ l.length := hi
      have hi0 : w ≠ 0 → i = 0 := hi0
      by_cases hw0 : w = 0
      · have e0 : (((w : Int)) == 0) = true := by rw [hw0]; rfl
        rw [if_pos hw0] at hEw
        by_cases hlt : i < l.length
        · have e1 : decide ((i : Int) < (((fils l).length : Nat) : Int)) = true := decide_eq_true (by omega)
          have g1 : (fils l)[(i : Int).toNat]? = some (filA l[i]) := fils_get hlt
          have hm := List.getElem_mem hlt
          have hN := IsInside_ok dir l[i].path (by omega) (hl.path _ hm)
          have hUs := und_step hlt dir
          have hul := und_len (l.take i) dir
          rw [List.length_take] at hul
          have hcl := cels_len (undT (l.take i) dir)
          cases hin : insT dir l[i].path with
          | false =>
            rw [hin] at hN hUs
            rw [if_neg (by simp), List.append_nil] at hUs
            refine pa [.b true, .b true, .v (filA l[i]), .v (.bool false), .b false] rfl ?_ ?_
            · (repeat' with_reducible apply AllP_cons) <;> try exact aC
              · exact ⟨_, hN, .cons (.refl .str) (.cons (.refl .str) (.nil _))⟩
            exact S_round (i + 1) (by show l.length - (i + 1) < l.length - i; omega) ⟨hlt, fun h => absurd hw0 h⟩ (.cons rfl (.cons rfl (.cons rfl (.cons rfl (.cons rfl (.cons (by rw [hUs]; rfl) (.cons (nX (by omega)) (.nil _)))))))) (by rw [hUs])
          | true =>
            rw [hin] at hN hUs
            rw [if_pos rfl] at hUs
            have hpl : dir.length + 1 ≤ l[i].path.length := ((ins_iff dir l[i].path).1 hin).1
            have hpm := hl.path _ hm
            have hw64 : IntKind.i64.wrap ((dir.length : Int) + 1) = ((dir.length + 1 : Nat) : Int) := w64 (by omega) (by omega)
            have hcut : cutL (some (IntKind.i64.wrap ((dir.length : Int) + 1))) none l[i].path = l[i].path.drop (dir.length + 1) := by
              rw [hw64]; simp [cutL]
            have hol : (undT (l.take i) dir ++ [cutF dir l[i]]).length = (undT (l.take i) dir).length + 1 := by simp
            refine pa [.b true, .b true, .v (filA l[i]), .v (.bool true), .b true, .d 22 23 [] (fun _ => [((undT (l.take i) dir).length + 1, some (.cells (celsF (undT (l.take i) dir ++ [cutF dir l[i]])) ⟨false, none⟩))]) [filA l[i], filA l[i], filA l[i], .ms 0 ((undT (l.take i) dir).length + 1) 0 ((undT (l.take i) dir).length + 1) 3 false]] rfl ?_ ?_
            · (repeat' with_reducible apply AllP_cons) <;> try exact aC
              · exact ⟨_, hN, .cons (.refl .str) (.cons (.refl .str) (.nil _))⟩
              · show 0 + (undT (l.take i) dir).length * 3 = _
                omega
              · show ((undT (l.take i) dir).length + 1) * 40 ≤ 140737488355328
                omega
              · show ([((undT (l.take i) dir).length + 1, some (.cells (dropA 0 (celsF (undT (l.take i) dir)) ++ [.str (cutL (some (IntKind.i64.wrap ((dir.length : Int) + 1))) none l[i].path), .str l[i].text, .bool l[i].run]) ⟨false, none⟩))] : Heap) = _
                rw [hcut, celsF_add]; rfl
            exact S_round (i + 1) (by show l.length - (i + 1) < l.length - i; omega) ⟨hlt, fun h => absurd hw0 h⟩ (.cons rfl (.cons rfl (.cons rfl (.cons rfl (.cons rfl (.cons (by rw [hUs, hol]; rfl) (.cons (nX (by omega)) (.nil _)))))))) (by rw [hUs, hol])
        · have hil : i = l.length := by omega
          subst hil
          have e1 : decide ((l.length : Int) < (((fils l).length : Nat) : Int)) = false := decide_eq_false (by omega)
          rw [List.take_length]
          have hcl := cels_len (undT l dir)
          have hul := und_len l dir
          by_cases hem : undT l dir = []
          · rw [if_pos hem] at hEw
            have e2 : ((((undT l dir).length : Nat) : Int) == 0) = true := by rw [hem]; rfl
            have hFA := filesAre_ok (st := true) (fl := false) (st' := false) (fl' := false) [] (undT l dir) 5 (by decide) (by omega) (fun h => by cases h) (fun _ => rfl)
            rw [hEw, if_neg (by decide)]
            refine pa [.b false, .b false, .b true, .b true, .v (.bool true), .b true, .v (.bool true)] rfl ?_ ?_
            · (repeat' with_reducible apply AllP_cons) <;> try exact aC
              · exact ⟨_, treeBegun_ok, .nil _⟩
              · exact ⟨_, hFA, .cons (.refl (.sl (fun h => by cases h) (fils_free _))) (.cons (.refl .int) (.cons (.refl .int) (.cons (msF _) (.nil _))))⟩
            exact S_retc .bool rfl trivial rfl
          · rw [if_neg hem] at hEw
            have e2 : ((((undT l dir).length : Nat) : Int) == 0) = false := by simpa using hem
            have hFA := filesAre_ok (st := true) (fl := false) (st' := false) (fl' := false) (undT l dir) (undT l dir) 0 (by omega) (by omega) (fun _ => rfl) (fun h => absurd rfl h)
            rw [hEw, if_pos rfl, hw0]
            refine pa [.b false, .b false, .b true, .b false, .v (.bool true), .b true, .v (.bool true)] rfl ?_ ?_
            · (repeat' with_reducible apply AllP_cons) <;> try exact aC
              · exact ⟨_, treeBegun_ok, .nil _⟩
              · exact ⟨_, hFA, .cons (.refl (.sl (fun h => by cases h) (fils_free _))) (.cons (.refl .int) (.cons (.refl .int) (.cons (msF _) (.nil _))))⟩
            exact S_retc .bool rfl trivial rfl
      · have e0 : (((w : Int)) == 0) = false := by simpa using hw0
        obtain rfl := hi0 hw0
        rw [if_neg hw0] at hEw
        have hz : undT (l.take 0) dir = [] := rfl
        rw [hz]
        have hFA := filesAre_ok (st := true) (fl := false) (st' := false) (fl' := false) [] [] w (by decide) (by decide) (fun _ => rfl) (fun _ => rfl)
        rw [hEw, if_neg hw0]
        cases hll0 : decide (((0 : Nat) : Int) < (((fils l).length : Nat) : Int)) with
        | true =>
          refine pa [.b true, .b false, .b false, .b false, .v (.bool true), .b true, .v (.bool true)] rfl ?_ ?_
          · (repeat' with_reducible apply AllP_cons) <;> try exact aC
            · exact ⟨_, treeBegun_ok, .nil _⟩
            · exact ⟨_, hFA, .cons (.refl (.sl (fun h => by cases h) (fils_free _))) (.cons (.refl .int) (.cons (.refl .int) (.cons (msF []) (.nil _))))⟩
          exact S_retc .bool rfl trivial rfl
        | false =>
          refine pa [.b false, .b false, .b false, .b false, .v (.bool true), .b true, .v (.bool true)] rfl ?_ ?_
          · (repeat' with_reducible apply AllP_cons) <;> try exact aC
            · exact ⟨_, treeBegun_ok, .nil _⟩
            · exact ⟨_, hFA, .cons (.refl (.sl (fun h => by cases h) (fils_free _))) (.cons (.refl .int) (.cons (.refl .int) (.cons (msF []) (.nil _))))⟩
          exact S_retc .bool rfl trivial rfl
end Go.Proofs.YtpehmhlgldbeoaaGreatDoor
end
section
set_option linter.unusedVariables false
set_option linter.unusedSimpArgs false
set_option maxRecDepth 20000
namespace Go.Proofs.YtpehmhlgldbeoaaGreatDoor
open Go Go.Ab
theorem open_file {H : Type} {d : DataW H} {a : AV} (h : RdD Tryz.prog 48 d a) : ∃ f : Fil, a = filA f := by
  obtain ⟨ds, xs, rfl, rfl, hall⟩ := h.inv_st Tryz.underlying48
  obtain ⟨d0, ds, x0, xs, rfl, rfl, h0, hall⟩ := hall.cons
  obtain ⟨d1, ds, x1, xs, rfl, rfl, h1, hall⟩ := hall.cons
  obtain ⟨d2, ds, x2, xs, rfl, rfl, h2, hall⟩ := hall.cons
  obtain ⟨rfl, rfl⟩ := hall.nil
  obtain ⟨s0, rfl, rfl, _⟩ := h0.inv_str Tryz.underlying9
  obtain ⟨s1, rfl, rfl, _⟩ := h1.inv_str Tryz.underlying9
  obtain ⟨b, rfl, rfl⟩ := h2.inv_bool Tryz.underlying4
  exact ⟨⟨s0, s1, b⟩, rfl⟩
theorem open_F {H : Type} {d : DataW H} {a : AV} (h : RdD Tryz.prog 22 d a) : ∃ l : List Fil, a = .sl true false 3 (fils l) := by
  obtain ⟨ds, xs, rfl, hl, hm, hall, _⟩ := h.inv_sl Tryz.underlying22
  obtain ⟨ys, rfl, hy, hg⟩ := RdD.each filA (fun _ _ => True) hl hall (fun d x h => by
    obtain ⟨f, rfl⟩ := open_file h
    exact ⟨f, rfl, trivial⟩)
  have hc : Tryz.prog.cellsOf 48 = 3 := by kernel_rfl
  exact ⟨ys, by rw [hc]; rfl⟩
end Go.Proofs.YtpehmhlgldbeoaaGreatDoor
end
