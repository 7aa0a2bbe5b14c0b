/-
  Texts of our own, in one file.
-/
import Derived.Test.YtjkeekbfgnmngaaGreatDoorGrpE
import Derived.Shelf.Strconv.Itoa3
import Derived.Shelf.LaysM
section
set_option linter.unusedVariables false
set_option linter.unusedSimpArgs false
set_option maxRecDepth 20000
set_option maxHeartbeats 4000000
namespace Go.Proofs.YtjkeekbfgnmngaaGreatDoor
open Go Go.Ab
def flatN (sub : List UInt8 → List UInt8 → List Fil → List Fil × Nat) (get : List UInt8 → Option (List UInt8)) (path : List UInt8) : List NodeV → List Fil → List Fil × Nat
  | [], out => (out, 0)
  | nd :: r, out =>
    if 100 < (path ++ nd.name).length then (out, 2)
    else if nd.kind = 3 then
      if (sub nd.dig (path ++ nd.name ++ [47]) out).2 = 0 then flatN sub get path r (sub nd.dig (path ++ nd.name ++ [47]) out).1 else sub nd.dig (path ++ nd.name ++ [47]) out
    else match get nd.dig with
      | none => (out, 5)
      | some t => if out.length = 60 then (out, 2) else flatN sub get path r (out ++ [⟨path ++ nd.name, t, nd.kind == 2⟩])
def flatD (get : List UInt8 → Option (List UInt8)) : Nat → List UInt8 → List UInt8 → List Fil → List Fil × Nat
  | 0, d, path, out => (out, 0)
  | n + 1, d, path, out => match get d with
    | none => (out, 5)
    | some s => if (readNd s).2 ≠ 0 then (out, 1) else if (readNd s).1 = [] ∧ path ≠ [] then (out, 4) else flatN (flatD get n) get path (readNd s).1 out
theorem cels_free {st : Bool} (g : List Fil) : ∀ x ∈ celsF g, Free st x := by
  intro x hx
  obtain ⟨y, hy, hx⟩ := List.mem_flatMap.1 hx
  obtain ⟨f, _, rfl⟩ := List.mem_map.1 hy
  have hx : x ∈ [AV.str f.path, .str f.text, .bool f.run] := hx
  simp at hx; rcases hx with rfl | rfl | rfl
  · exact .str
  · exact .str
  · exact .bool
theorem celsF_add (g : List Fil) (f : Fil) : celsF (g ++ [f]) = celsF g ++ [.str f.path, .str f.text, .bool f.run] := by
  unfold celsF fils
  rw [List.map_append, List.flatMap_append]; rfl
theorem flatN_len {sub : List UInt8 → List UInt8 → List Fil → List Fil × Nat} {get : List UInt8 → Option (List UInt8)} {path : List UInt8} (hs : ∀ d p o, o.length ≤ 60 → (sub d p o).1.length ≤ 60 ∧ o.length ≤ (sub d p o).1.length) :
    ∀ (l : List NodeV) (out : List Fil), out.length ≤ 60 → (flatN sub get path l out).1.length ≤ 60 ∧ out.length ≤ (flatN sub get path l out).1.length
  | [], out, h => ⟨h, Nat.le_refl _⟩
  | nd :: r, out, h => by
    rw [flatN]
    split
    · exact ⟨h, Nat.le_refl _⟩
    split
    · have h1 := hs nd.dig (path ++ nd.name ++ [47]) out h
      split
      · have h2 := flatN_len (get := get) (path := path) hs r _ h1.1
        exact ⟨h2.1, Nat.le_trans h1.2 h2.2⟩
      · exact h1
    split
    · exact ⟨h, Nat.le_refl _⟩
    · split
      · exact ⟨h, Nat.le_refl _⟩
      · have h2 := flatN_len (get := get) (path := path) hs r (out ++ [⟨path ++ nd.name, ‹_›, nd.kind == 2⟩]) (by simp; omega)
        rw [List.length_append] at h2
        exact ⟨h2.1, Nat.le_trans (Nat.le_add_right _ _) h2.2⟩
theorem flatD_len (get : List UInt8 → Option (List UInt8)) : ∀ (n : Nat) (d path : List UInt8) (out : List Fil), out.length ≤ 60 → (flatD get n d path out).1.length ≤ 60 ∧ out.length ≤ (flatD get n d path out).1.length
  | 0, d, path, out, h => ⟨h, Nat.le_refl _⟩
  | n + 1, d, path, out, h => by
    rw [flatD]
    split
    · exact ⟨h, Nat.le_refl _⟩
    · split
      · exact ⟨h, Nat.le_refl _⟩
      · split
        · exact ⟨h, Nat.le_refl _⟩
        · exact flatN_len (flatD_len get n) _ out h
theorem readNd_fit {s : List UInt8} (h : (readNd s).2 = 0) : chkN (readNd s).1 = 0 := by
  unfold readNd at h ⊢
  split at h
  · cases h
  · rename_i ts q hx
    split at h
    · rename_i hq
      rw [if_pos hq]
      unfold nodesOf at hq
      exact congrArg Prod.snd hq
    · cases h
theorem readNd_len {s : List UInt8} (h : (readNd s).2 = 0) : (readNd s).1.length ≤ 60 := (chk_fit (readNd_fit h)).len
theorem readNd_name {s : List UInt8} (h : (readNd s).2 = 0) : ∀ x ∈ (readNd s).1, x.name.length ≤ 20 := (chk_fit (readNd_fit h)).name
def getM (ks : List (List UInt8)) (tx : List UInt8 → List UInt8) : List UInt8 → Option (List UInt8) := fun d => if d ∈ ks then some (tx d) else none
def hpT (ks : List (List UInt8)) (tx : List UInt8 → List UInt8) (g : Nat) (out : List Fil) (τ : Heap) : Heap :=
  (0, mapBx ks fun d => .str (tx d)) :: (0, some (.cells [.map 0 0, .ms 2 (g + out.length) 0 out.length 3 false] ⟨false, some 104⟩)) :: (g + out.length, some (.cells (celsF out) ⟨false, none⟩)) :: τ
def hpF (ks : List (List UInt8)) (tx : List UInt8 → List UInt8) (g : Nat) (out : List Fil) : Heap := hpT ks tx g out []
theorem hpF_rn (ks : List (List UInt8)) (tx : List UInt8 → List UInt8) (g : Nat) (out : List Fil) : RnH (List.range 3) (hpF ks tx g out) (hpF ks tx g out) :=
  .cons (.live (.map rfl fun i h1 h2 => by simp only [mapF, List.getElem_map]; exact ⟨.free .str, .free .str⟩)) (.cons (.live (.cells (.cons (.map rfl) (.cons (.ms rfl) (.nil _))))) (.cons (.live (.cells ⟨rfl, fun i h1 h2 => .free (cels_free out _ (List.getElem_mem _))⟩)) (.nil _)))
theorem flatN_at {sub : List UInt8 → List UInt8 → List Fil → List Fil × Nat} {get : List UInt8 → Option (List UInt8)} {path : List UInt8} {l : List NodeV} {j : Nat} (h : j < l.length) (out : List Fil) : flatN sub get path (l.drop j) out =
    if 100 < (path ++ l[j].name).length then (out, 2)
    else if l[j].kind = 3 then
      if (sub l[j].dig (path ++ l[j].name ++ [47]) out).2 = 0 then flatN sub get path (l.drop (j + 1)) (sub l[j].dig (path ++ l[j].name ++ [47]) out).1 else sub l[j].dig (path ++ l[j].name ++ [47]) out
    else match get l[j].dig with
      | none => (out, 5)
      | some t => if out.length = 60 then (out, 2) else flatN sub get path (l.drop (j + 1)) (out ++ [⟨path ++ l[j].name, t, l[j].kind == 2⟩]) := by
  rw [List.drop_eq_getElem_cons h, flatN]
theorem dir_ok (ks : List (List UInt8)) (tx : List UInt8 → List UInt8) (htx : ∀ d ∈ ks, (tx d).length ≤ 1000000) (g : Nat) : ∀ (n : Nat) (d path : List UInt8) (out : List Fil), path.length ≤ 101 → 102 ≤ n + path.length → out.length ≤ 60 →
    CallOk cx 63 [.ptr 1 0 0, .str d, .str path] (hpF ks tx g out) (fun o s => o = .ret (.int .i64 ((flatD (getM ks tx) n d path out).2 : Nat)) ∧ s = hpF ks tx g (flatD (getM ks tx) n d path out).1)
  | 0, d, path, out, h1, h2, h3 => by omega
  | n + 1, d, path, out, h1, h2, h3 => callOk_introT (fun a w => Tryz.call63 a w) Tryz.func63 rfl Tryz.ntmps63 rfl fun B => by
    have ret : ∀ (o : List Fil) (e : Nat) (τ : Heap), (flatD (getM ks tx) (n + 1) d path out) = (o, e) → TR 3 (fun z s => z = .ret (.int .i64 ((flatD (getM ks tx) (n + 1) d path out).2 : Nat)) ∧ s = hpF ks tx g (flatD (getM ks tx) (n + 1) d path out).1) (.ret (.int .i64 (e : Nat))) (hpT ks tx g o τ) := by
      intro o e τ he
      rw [he]
      refine ⟨3, Nat.le_refl _, LowH.of (fun x hx y hy => ?_), _, .low .int, rfl, rfl⟩
      have hx : x ∈ hpF ks tx g o := hx
      unfold hpF hpT at hx
      simp only [List.mem_cons, List.not_mem_nil, or_false] at hx
      rcases hx with rfl | rfl | rfl
      · cases hy; exact .map fun p hp => by obtain ⟨t, _, rfl⟩ := List.mem_map.1 hp; exact ⟨.str, .str⟩
      · cases hy; exact .cells (by intro z hz; simp at hz; rcases hz with rfl | rfl; exact .map (by decide); exact .ms (by decide))
      · cases hy
        refine .cells fun z hz => ?_
        obtain ⟨y, hy, hz⟩ := List.mem_flatMap.1 hz
        obtain ⟨f, _, rfl⟩ := List.mem_map.1 hy
        have hz : z ∈ [AV.str f.path, .str f.text, .bool f.run] := hz
        simp at hz; rcases hz with rfl | rfl | rfl; exact .str; exact .str; exact .bool
    refine S_dead ?_ ⟨_, _, .inl rfl⟩
    by_cases hk : d ∈ ks
    case neg =>
      have hres : flatD (getM ks tx) (n + 1) d path out = (out, 5) := by rw [flatD, getM, if_neg hk]
      refine pa [.v (.tup [.str [], .bool false]), .b true] rfl ?_ ?_
      · (repeat' with_reducible apply AllP_cons) <;> try exact aC
        · exact OpSpec.mget (kt := 9) (et := 9) (ks := ks) (val := fun d => .str (tx d)) (s := d) (z := .str []) rfl (Tryz.underlying102) rfl rfl rfl rfl rfl (by rw [if_neg hk, decide_eq_false hk]; rfl)
      exact S_ret ⟨_, _, rfl, trivial, ret out 5 [(0, none)] hres⟩
    have hget : getM ks tx d = some (tx d) := if_pos hk
    have hsl := htx d hk
    have hR := ReadNodes_ok (tx d) (by omega)
    by_cases he : (readNd (tx d)).2 = 0
    case neg =>
      have hres : flatD (getM ks tx) (n + 1) d path out = (out, 1) := by rw [flatD, hget]; show (if (readNd (tx d)).2 ≠ 0 then _ else _) = _; rw [if_pos he]
      refine pa [.v (.tup [.str (tx d), .bool true]), .b false, .v (.tup [.sl true false 3 (nodes (readNd (tx d)).1), .int .i64 (((readNd (tx d)).2 : Nat) : Int)]), .b true] rfl ?_ ?_
      · (repeat' with_reducible apply AllP_cons) <;> try exact aC
        · exact OpSpec.mget (kt := 9) (et := 9) (ks := ks) (val := fun d => .str (tx d)) (s := d) (z := .str []) rfl (Tryz.underlying102) rfl rfl rfl rfl rfl (by rw [if_pos hk, decide_eq_true hk]; rfl)
        · exact ⟨_, hR, .cons (.refl .str) (.nil _)⟩
        · show (((((readNd (tx d)).2 : Nat) : Int)) != 0) = true
          rw [chk_bne]; simpa using he
      exact S_ret ⟨_, _, rfl, trivial, ret out 1 [(0, none)] hres⟩
    rw [he] at hR
    have hD : flatD (getM ks tx) (n + 1) d path out = if (readNd (tx d)).1 = [] ∧ path ≠ [] then (out, 4) else flatN (flatD (getM ks tx) n) (getM ks tx) path (readNd (tx d)).1 out := by
      rw [flatD, hget]; show (if (readNd (tx d)).2 ≠ 0 then _ else _) = _; rw [if_neg (by simp [he])]
    have hnl0 : (readNd (tx d)).1.length ≤ 60 := readNd_len he
    have hnm0 : ∀ x ∈ (readNd (tx d)).1, x.name.length ≤ 20 := readNd_name he
    generalize (readNd (tx d)).1 = nds at *
    have hnl := nodes_len nds
    by_cases hbad : nds = [] ∧ path ≠ []
    · rw [if_pos hbad] at hD
      obtain ⟨rfl, hp⟩ := hbad
      refine pa [.v (.tup [.str (tx d), .bool true]), .b false, .v (.tup [.sl true false 3 (nodes []), .int .i64 ((0 : Nat) : Int)]), .b false, .b true, .b true] rfl ?_ ?_
      · (repeat' with_reducible apply AllP_cons) <;> try exact aC
        · exact OpSpec.mget (kt := 9) (et := 9) (ks := ks) (val := fun d => .str (tx d)) (s := d) (z := .str []) rfl (Tryz.underlying102) rfl rfl rfl rfl rfl (by rw [if_pos hk, decide_eq_true hk]; rfl)
        · exact ⟨_, hR, .cons (.refl .str) (.nil _)⟩
        · show (!(path == [])) = true
          simp [hp]
      exact S_ret ⟨_, _, rfl, trivial, ret out 4 [(0, none)] hD⟩
    rw [if_neg hbad] at hD
    by_cases hem : nds = []
    case' pos =>
      have hp0 : path = [] := Classical.byContradiction fun hp => hbad ⟨hem, hp⟩
      have e1 : ((((nodes nds).length : Nat) : Int) == 0) = true := by rw [hnl, hem]; rfl
      have e2 : (!(path == [])) = false := by rw [hp0]; rfl
      refine pa [.v (.tup [.str (tx d), .bool true]), .b false, .v (.tup [.sl true false 3 (nodes nds), .int .i64 ((0 : Nat) : Int)]), .b false, .b true, .b false] rfl ?_ ?_
    case' neg =>
      have e1 : ((((nodes nds).length : Nat) : Int) == 0) = false := by
        have : nds.length ≠ 0 := fun h => hem (List.length_eq_zero_iff.1 h)
        rw [hnl]; simp; exact hem
      refine pa [.v (.tup [.str (tx d), .bool true]), .b false, .v (.tup [.sl true false 3 (nodes nds), .int .i64 ((0 : Nat) : Int)]), .b false, .b false, .b false] rfl ?_ ?_
    case pos.refine_1 | neg.refine_1 =>
      (repeat' with_reducible apply AllP_cons) <;> try exact aC
      · exact OpSpec.mget (kt := 9) (et := 9) (ks := ks) (val := fun d => .str (tx d)) (s := d) (z := .str []) rfl (Tryz.underlying102) rfl rfl rfl rfl rfl (by rw [if_pos hk, decide_eq_true hk]; rfl)
      · exact ⟨_, hR, .cons (.refl .str) (.nil _)⟩
    all_goals
      refine S_while (α := Nat × List Fil) (fun q => [(0, .ptr 1 0 0), (2, .str path), (42, .sl true false 3 (nodes nds)), (43, .int .i64 (((nodes nds).length : Nat) : Int)), (44, .int .i64 (q.1 : Nat))]) (fun q => hpT ks tx g q.2 [(q.1, none)]) (fun q => q.1 ≤ nds.length ∧ q.2.length ≤ 60 ∧ flatN (flatD (getM ks tx) n) (getM ks tx) path (nds.drop q.1) q.2 = flatN (flatD (getM ks tx) n) (getM ks tx) path nds out) (fun q => nds.length - q.1) (0, out)
        ⟨Nat.zero_le _, h3, rfl⟩ (.cons rfl (.cons rfl (.cons rfl (.cons rfl (.cons rfl (.nil _)))))) rfl ?_
      rintro ⟨j, o⟩ ⟨hj, ho, hI⟩
      have hj : j ≤ nds.length := hj
      have ho : o.length ≤ 60 := ho
      have hI : flatN (flatD (getM ks tx) n) (getM ks tx) path (nds.drop j) o = flatN (flatD (getM ks tx) n) (getM ks tx) path nds out := hI
      by_cases hjt : j < nds.length
      · have e1 : decide ((j : Int) < (((nodes nds).length : Nat) : Int)) = true := decide_eq_true (by omega)
        have g1 : (nodes nds)[(j : Int).toNat]? = some (nodeAV nds[j]) := nodes_get hjt
        have hnm := hnm0 _ (List.getElem_mem hjt)
        rw [flatN_at hjt] at hI
        generalize nds[j] = nd at *
        have hpl : (path ++ nd.name).length = path.length + nd.name.length := List.length_append ..
        by_cases hlong : 100 < (path ++ nd.name).length
        · rw [if_pos hlong] at hI
          rw [← hI] at hD
          have e2 : decide ((((path ++ nd.name).length : Nat) : Int) > 100) = true := decide_eq_true (by omega)
          refine pB [.b true, .v (nodeAV nd), .b true] rfl ?_
          exact S_ret ⟨_, _, rfl, trivial, ret o 2 _ hD⟩
        rw [if_neg hlong] at hI
        have e2 : decide ((((path ++ nd.name).length : Nat) : Int) > 100) = false := decide_eq_false (by omega)
        by_cases h3k : nd.kind = 3
        · rw [if_pos h3k] at hI
          have e3 : (nd.kind == 3) = true := by rw [h3k]; rfl
          have ih := dir_ok ks tx htx g n nd.dig (path ++ nd.name ++ [47]) o (by rw [List.length_append]; simp only [List.length_cons, List.length_nil]; omega) (by rw [List.length_append]; simp only [List.length_cons, List.length_nil]; omega) ho
          have hfl := flatD_len (getM ks tx) n nd.dig (path ++ nd.name ++ [47]) o ho
          generalize flatD (getM ks tx) n nd.dig (path ++ nd.name ++ [47]) o = y at *
          obtain ⟨o', e'⟩ := y
          by_cases he' : e' = 0
          · rw [if_pos he'] at hI
            subst he'
            refine pa [.b true, .v (nodeAV nd), .b false, .b true, .f (.int .i64 ((0 : Nat) : Int)) (fun σ => hpT ks tx g o' σ.tail.tail.tail), .b false, .s] rfl ?_ ?_
            · (repeat' with_reducible apply AllP_cons) <;> try exact aC
              · exact CallOk.pre1 (σ := hpF ks tx g o) (σ' := hpF ks tx g o') 3 _ ih rfl rfl (.cons (.ptr rfl) (.cons (.free .str) (.cons (.free .str) (.nil _)))) (hpF_rn _ _ _ _) (hpF_rn _ _ _ _) (.free .int)
            refine S_drop (id := 3) rfl ?_ ⟨.skip, _, .inr ⟨_, _, _, rfl⟩⟩
            refine pB [] rfl ?_
            exact S_round (j + 1, o') (by show nds.length - (j + 1) < nds.length - j; omega) ⟨hjt, hfl.1, hI⟩ (.cons rfl (.cons rfl (.cons rfl (.cons rfl (.cons (nX (by omega)) (.nil _)))))) rfl
          · rw [if_neg he'] at hI
            rw [← hI] at hD
            refine pa [.b true, .v (nodeAV nd), .b false, .b true, .f (.int .i64 (e' : Nat)) (fun σ => hpT ks tx g o' σ.tail.tail.tail), .b true] rfl ?_ ?_
            · (repeat' with_reducible apply AllP_cons) <;> try exact aC
              · exact CallOk.pre1 (σ := hpF ks tx g o) (σ' := hpF ks tx g o') 3 _ ih rfl rfl (.cons (.ptr rfl) (.cons (.free .str) (.cons (.free .str) (.nil _)))) (hpF_rn _ _ _ _) (hpF_rn _ _ _ _) (.free .int)
              · show ((((e' : Int)) != 0) = true)
                rw [chk_bne]; simpa using he'
            exact S_ret ⟨_, _, rfl, trivial, ret o' e' _ hD⟩
        · rw [if_neg h3k] at hI
          have e3 : (nd.kind == 3) = false := by simpa using h3k
          by_cases hkd : nd.dig ∈ ks
          case neg =>
            have hgn : getM ks tx nd.dig = none := if_neg hkd
            rw [hgn] at hI
            rw [← hI] at hD
            refine pa [.b true, .v (nodeAV nd), .b false, .b false, .v (.tup [.str [], .bool false]), .b true] rfl ?_ ?_
            · (repeat' with_reducible apply AllP_cons) <;> try exact aC
              all_goals exact OpSpec.mget (kt := 9) (et := 9) (ks := ks) (val := fun d => .str (tx d)) (s := nd.dig) (z := .str []) rfl (Tryz.underlying102) rfl rfl rfl rfl rfl (by rw [if_neg hkd, decide_eq_false hkd]; rfl)
            exact S_ret ⟨_, _, rfl, trivial, ret o 5 _ hD⟩
          have hgn : getM ks tx nd.dig = some (tx nd.dig) := if_pos hkd
          rw [hgn] at hI
          by_cases h60 : o.length = 60
          · have hI : (if o.length = 60 then (o, 2) else _) = _ := hI
            rw [if_pos h60] at hI
            rw [← hI] at hD
            have e4 : ((o.length : Int) == 60) = true := by rw [h60]; rfl
            refine pa [.b true, .v (nodeAV nd), .b false, .b false, .v (.tup [.str (tx nd.dig), .bool true]), .b false, .b true] rfl ?_ ?_
            · (repeat' with_reducible apply AllP_cons) <;> try exact aC
              all_goals exact OpSpec.mget (kt := 9) (et := 9) (ks := ks) (val := fun d => .str (tx d)) (s := nd.dig) (z := .str []) rfl (Tryz.underlying102) rfl rfl rfl rfl rfl (by rw [if_pos hkd, decide_eq_true hkd]; rfl)
            exact S_ret ⟨_, _, rfl, trivial, ret o 2 _ hD⟩
          · have hI : (if o.length = 60 then (o, 2) else _) = _ := hI
            rw [if_neg h60] at hI
            have e4 : ((o.length : Int) == 60) = false := by simp; omega
            have hcl := cels_len o
            refine pa [.b true, .v (nodeAV nd), .b false, .b false, .v (.tup [.str (tx nd.dig), .bool true]), .b false, .b false,
              .d 12 13 [] (fun σ => (0, mapBx ks fun d => .str (tx d)) :: (0, some (.cells [.map 0 0, .ms 2 (g + o.length) 0 o.length 3 false] ⟨false, some 104⟩)) :: (g + o.length + 1, some (.cells (celsF o ++ [.str (path ++ nd.name), .str (tx nd.dig), .bool (nd.kind == 2)]) ⟨false, none⟩)) :: σ.tail.tail.tail) [.ms 2 (g + o.length + 1) 0 (o.length + 1) 3 false], .s] rfl ?_ ?_
            · (repeat' with_reducible apply AllP_cons) <;> try exact aC
              · exact OpSpec.mget (kt := 9) (et := 9) (ks := ks) (val := fun d => .str (tx d)) (s := nd.dig) (z := .str []) rfl (Tryz.underlying102) rfl rfl rfl rfl rfl (by rw [if_pos hkd, decide_eq_true hkd]; rfl)
              · show 0 + o.length * 3 = _
                rw [hcl]; omega
              · show (o.length + 1) * 40 ≤ 140737488355328
                omega
            refine pan 5 [] rfl ?_ ?_
            · (repeat' with_reducible apply AllP_cons) <;> try exact aC
            refine S_drop (id := 3) rfl ?_ ⟨_, _, .inl rfl⟩
            refine S_heap (hpT ks tx g (o ++ [⟨path ++ nd.name, tx nd.dig, nd.kind == 2⟩]) [(j + 1, none)]) ?_ ?_
            · show [(0, mapBx ks fun d => .str (tx d)), (0, some (.cells [.map 0 0, .ms 2 (g + o.length + 1) 0 (o.length + 1) 3 false] ⟨false, some 104⟩)), (g + o.length + 1, some (.cells (celsF o ++ [.str (path ++ nd.name), .str (tx nd.dig), .bool (nd.kind == 2)]) ⟨false, none⟩)), (j + 1, none)] = _
              have hoa : (o ++ [(⟨path ++ nd.name, tx nd.dig, nd.kind == 2⟩ : Fil)]).length = o.length + 1 := by simp
              unfold hpT
              rw [celsF_add, hoa]; rfl
            refine pB [] rfl ?_
            exact S_round (j + 1, o ++ [⟨path ++ nd.name, tx nd.dig, nd.kind == 2⟩]) (by show nds.length - (j + 1) < nds.length - j; omega) ⟨hjt, by show (o ++ [_]).length ≤ 60; simp; omega, hI⟩ (.cons rfl (.cons rfl (.cons rfl (.cons rfl (.cons (nX (by omega)) (.nil _)))))) rfl
      · have e1 : decide ((j : Int) < (((nodes nds).length : Nat) : Int)) = false := decide_eq_false (by omega)
        rw [List.drop_eq_nil_of_le (by omega), flatN] at hI
        rw [← hI] at hD
        refine pB [.b false] rfl ?_
        exact S_ret ⟨_, _, rfl, trivial, ret o 0 _ hD⟩
end Go.Proofs.YtjkeekbfgnmngaaGreatDoor
end
section
set_option linter.unusedVariables false
set_option linter.unusedSimpArgs false
set_option maxRecDepth 20000
set_option maxHeartbeats 4000000
namespace Go.Proofs.YtjkeekbfgnmngaaGreatDoor
open Go Go.Ab
theorem Flat1_ok (s : List UInt8) : Calc cx 62 [.str s] (.bool (decide (100000 < s.length))) :=
  pure_intro (fun a w => Tryz.call62 a w) Tryz.func62 rfl Tryz.ntmps62 rfl .bool fun B => by
    refine pB [] rfl ?_
    refine S_retc .bool rfl trivial ?_
    show AV.bool (decide ((s.length : Int) > 100000)) = _
    congr 1
    rw [decide_eq_decide]; omega
def longT (l : List (List UInt8)) : Bool := l.any fun s => decide (100000 < s.length)
theorem IndexFuncS_ok {st fl : Bool} (l : List (List UInt8)) (hl : l.length ≤ 1000000000000) : Calc cx 96 [.sl st fl 1 (texts l), .func (.func 62) [] []] (.int .i64 (match l.findIdx? (fun s => decide (100000 < s.length)) with | some i => (i : Int) | none => -1)) :=
  pure_intro (fun a w => Tryz.call96 a w) Tryz.func96 rfl Tryz.ntmps96 rfl .int fun B => by
    have htl : (texts l).length = l.length := by simp [texts]
    refine pB [] rfl ?_
    refine S_while (α := Nat) (fun i => [(0, .sl st fl 1 (texts l)), (1, .func (.func 62) [] []), (7, .int .i64 (((texts l).length : Nat) : Int)), (8, .int .i64 (i : Nat))]) (fun _ => []) (fun i => i ≤ l.length ∧ ∀ k (hk : k < l.length), k < i → l[k].length ≤ 100000) (fun i => l.length - i) 0
      ⟨Nat.zero_le _, fun k hk h => absurd h (Nat.not_lt_zero _)⟩ (.cons rfl (.cons rfl (.cons rfl (.cons rfl (.nil _))))) rfl ?_
    rintro i ⟨hi, hN⟩
    have hi : i ≤ l.length := hi
    by_cases hlt : i < l.length
    · have e1 : decide ((i : Int) < (((texts l).length : Nat) : Int)) = true := decide_eq_true (by omega)
      have g1 : (texts l)[(i : Int).toNat]? = some (.str l[i]) := by rw [Int.toNat_natCast]; simp [texts, List.getElem?_eq_getElem hlt]
      have hF := Flat1_ok l[i]
      by_cases hb : 100000 < l[i].length
      · rw [decide_eq_true hb] at hF
        refine pa [.b true, .v (.str l[i]), .v (.bool true), .b true] rfl ?_ ?_
        · (repeat' with_reducible apply AllP_cons) <;> try exact aC
          · exact ⟨_, hF, .cons (.refl .str) (.nil _)⟩
        refine S_retc .int rfl trivial ?_
        have : l.findIdx? (fun s => decide (100000 < s.length)) = some i := by
          rw [List.findIdx?_eq_some_iff_getElem]
          exact ⟨hlt, by simpa using hb, fun j hj => by have := hN j (by omega) hj; simpa using this⟩
        rw [this]; rfl
      · rw [decide_eq_false hb] at hF
        refine pa [.b true, .v (.str l[i]), .v (.bool false), .b false] rfl ?_ ?_
        · (repeat' with_reducible apply AllP_cons) <;> try exact aC
          · exact ⟨_, hF, .cons (.refl .str) (.nil _)⟩
        refine S_round (i + 1) (by show l.length - (i + 1) < l.length - i; omega) ⟨hlt, fun k hk h => ?_⟩ (.cons rfl (.cons rfl (.cons rfl (.cons (nX (by omega)) (.nil _))))) rfl
        have h : k < i + 1 := h
        by_cases hki : k < i
        · exact hN k hk hki
        · have : k = i := by omega
          subst this; omega
    · have e1 : decide ((i : Int) < (((texts l).length : Nat) : Int)) = false := decide_eq_false (by omega)
      refine pB [.b false] rfl ?_
      refine S_retc .int rfl trivial ?_
      have : l.findIdx? (fun s => decide (100000 < s.length)) = none := by
        rw [List.findIdx?_eq_none_iff]
        intro x hx
        obtain ⟨k, hk, rfl⟩ := List.getElem_of_mem hx
        have := hN k hk (by omega)
        simpa using this
      rw [this]; rfl
theorem ContainsFuncS_ok {st fl : Bool} (l : List (List UInt8)) (hl : l.length ≤ 1000000000000) : Calc cx 61 [.sl st fl 1 (texts l), .func (.func 62) [] []] (.bool (longT l)) :=
  pure_intro (fun a w => Tryz.call61 a w) Tryz.func61 rfl Tryz.ntmps61 rfl .bool fun B => by
    have hI := IndexFuncS_ok (st := st) (fl := fl) l hl
    refine pa [.v (.int .i64 (match l.findIdx? (fun s => decide (100000 < s.length)) with | some i => (i : Int) | none => -1))] rfl ?_ ?_
    · (repeat' with_reducible apply AllP_cons) <;> try exact aC
      · exact ⟨_, hI, .cons (.refl (.sl (fun h => by cases h) (texts_any l))) (.cons (.refl (.func (fun x h => by cases h) (fun x h => by cases h))) (.nil _))⟩
    refine S_retc .bool rfl trivial ?_
    show AV.bool (decide ((match l.findIdx? (fun s => decide (100000 < s.length)) with | some i => (i : Int) | none => -1) ≥ 0)) = _
    congr 1
    unfold longT
    cases h : l.findIdx? (fun s => decide (100000 < s.length)) with
    | none =>
      rw [List.findIdx?_eq_none_iff] at h
      rw [List.any_eq_false.2 (fun x hx => by have := h x hx; rw [this]; simp)]; rfl
    | some i =>
      rw [List.findIdx?_eq_some_iff_getElem] at h
      obtain ⟨h1, h2, _⟩ := h
      rw [List.any_eq_true.2 ⟨_, List.getElem_mem h1, h2⟩]
      show decide ((i : Int) ≥ 0) = true
      exact decide_eq_true (by omega)
theorem Len1_ok : Calc cx 136 [.int .u64 1] (.int .i64 1) :=
  pure_intro (fun a w => Tryz.call136 a w) Tryz.func136 rfl Tryz.ntmps136 rfl .int fun B => by
    refine pa [.b false, .b false, .b false] rfl ?_ ?_
    · (repeat' with_reducible apply AllP_cons) <;> try exact aC
      all_goals decide +kernel
    refine S_retc .int rfl trivial ?_
    rfl
theorem LenU_ok : Calc cx 99 [.int .u64 1] (.int .i64 1) :=
  pure_intro (fun a w => Tryz.call99 a w) Tryz.func99 rfl Tryz.ntmps99 rfl .int fun B => by
    refine pa [.b false, .v (.int .i64 1)] rfl ?_ ?_
    · (repeat' with_reducible apply AllP_cons) <;> try exact aC
      · exact ⟨_, Len1_ok, .cons (.refl .int) (.nil _)⟩
    exact S_retc .int rfl trivial rfl
theorem Ins1_ok (σ : Heap) (v : Nat) : CallOk cx 127 [.ms 2 v 0 1 3 false, .int .i64 0, .int .i64 1, .func (.func 65) [] []] σ (fun o s => o = .ret (.tup []) ∧ s = σ) :=
  callOk_intro (fun a w => Tryz.call127 a w) Tryz.func127 rfl Tryz.ntmps127 rfl fun B => by
    refine pas [] rfl ?_ ?_
    · (repeat' with_reducible apply AllP_cons) <;> try exact aC
    refine S_while (α := Unit) (fun _ => [(2, .int .i64 1), (8, .int .i64 1)]) (fun _ => σ) (fun _ => True) (fun _ => 0) () trivial (.cons rfl (.cons rfl (.nil _))) rfl ?_
    rintro ⟨⟩ _
    refine pas [.b false] rfl ?_ ?_
    · (repeat' with_reducible apply AllP_cons) <;> try exact aC
    exact S_nil ⟨_, _, rfl, trivial, rfl, rfl⟩
theorem Pdq1_ok (σ : Heap) (v : Nat) : CallOk cx 98 [.ms 2 v 0 1 3 false, .int .i64 0, .int .i64 1, .int .i64 1, .func (.func 65) [] []] σ (fun o s => o = .ret (.tup []) ∧ s = σ) :=
  callOk_intro (fun a w => Tryz.call98 a w) Tryz.func98 rfl Tryz.ntmps98 rfl fun B => by
    refine pas [] rfl ?_ ?_
    · (repeat' with_reducible apply AllP_cons) <;> try exact aC
    refine S_while (α := Unit) (fun _ => [(0, .ms 2 v 0 1 3 false), (1, .int .i64 0), (2, .int .i64 1), (4, .func (.func 65) [] [])]) (fun _ => σ) (fun _ => True) (fun _ => 0) () trivial (.cons rfl (.cons rfl (.cons rfl (.cons rfl (.nil _))))) rfl ?_
    rintro ⟨⟩ _
    refine pas [.b true, .k (.tup [])] rfl ?_ ?_
    · (repeat' with_reducible apply AllP_cons) <;> try exact aC
      · exact Ins1_ok σ v
    exact S_ret ⟨_, _, rfl, trivial, rfl, rfl⟩
theorem Sort1_ok (ks : List (List UInt8)) (tx : List UInt8 → List UInt8) (g : Nat) (f : Fil) : CallOk cx 64 [.ms 2 (g + 1) 0 1 3 false, .func (.func 65) [] []] (hpF ks tx g [f]) (fun o s => o = .ret (.tup []) ∧ s = hpF ks tx g [f]) :=
  callOk_intro (fun a w => Tryz.call64 a w) Tryz.func64 rfl Tryz.ntmps64 rfl fun B => by
    refine pa [.v (.int .i64 1), .k (.tup [])] rfl ?_ ?_
    · (repeat' with_reducible apply AllP_cons) <;> try exact aC
      · exact ⟨_, LenU_ok, .cons (.refl .int) (.nil _)⟩
      · exact Pdq1_ok _ _
    exact S_nil ⟨_, _, rfl, trivial, rfl, rfl⟩
end Go.Proofs.YtjkeekbfgnmngaaGreatDoor
end
section
set_option linter.unusedVariables false
set_option linter.unusedSimpArgs false
set_option maxRecDepth 20000
set_option maxHeartbeats 4000000
namespace Go.Proofs.YtjkeekbfgnmngaaGreatDoor
open Go Go.Ab
def ksB (l : List (List UInt8)) : List (List UInt8) := l.foldl (fun ks s => addU ks (sha s)) []
def txB (l : List (List UInt8)) (d : List UInt8) : List UInt8 := (l.reverse.find? (fun s => sha s == d)).getD []
def flatY (root : List UInt8) (blobs : List (List UInt8)) : List Fil × Nat := flatD (getM (ksB blobs) (txB blobs)) 102 root [] []
def flatT (S : List Fil → List Fil) (root : List UInt8) (blobs : List (List UInt8)) : List Fil × Nat :=
  if 2000 < blobs.length ∨ longT blobs = true then ([], 2) else if isDig root = true then (if (flatY root blobs).2 = 0 then (S (flatY root blobs).1, 0) else ([], (flatY root blobs).2)) else ([], 1)
def flatAV (y : List Fil × Nat) : AV := .tup [if y.2 = 0 then .sl true false 3 (fils y.1) else .nils, .int .i64 (y.2 : Nat)]
theorem flatAV_free (y : List Fil × Nat) : Free true (flatAV y) := .tup (by
  intro x hx; simp at hx
  rcases hx with rfl | rfl
  · split
    · exact .sl (fun _ => rfl) (fils_free _)
    · exact .nils
  · exact .int)
theorem ksB_step {l : List (List UInt8)} {i : Nat} (h : i < l.length) : ksB (l.take (i + 1)) = addU (ksB (l.take i)) (sha l[i]) := by
  unfold ksB; rw [List.take_succ_eq_append_getElem h, List.foldl_append]; rfl
theorem txB_step {l : List (List UInt8)} {i : Nat} (h : i < l.length) (d : List UInt8) : txB (l.take (i + 1)) d = if d = sha l[i] then l[i] else txB (l.take i) d := by
  unfold txB
  rw [List.take_succ_eq_append_getElem h, List.reverse_append]
  show ((l[i] :: (l.take i).reverse).find? _).getD [] = _
  rw [List.find?_cons]
  by_cases e : d = sha l[i]
  · rw [if_pos e, show (sha l[i] == d) = true by simp [e]]; rfl
  · rw [if_neg e, show (sha l[i] == d) = false by simpa using Ne.symm e]
theorem txB_len {l : List (List UInt8)} (h : longT l = false) (d : List UInt8) : (txB l d).length ≤ 1000000 := by
  unfold txB
  cases hf : l.reverse.find? (fun s => sha s == d) with
  | none => exact Nat.zero_le _
  | some s =>
    have hm := List.mem_of_find?_eq_some hf
    unfold longT at h
    rw [List.any_eq_false] at h
    have := h s (by simpa using hm)
    simp at this
    show s.length ≤ _; omega
theorem mapB_step {l : List (List UInt8)} {i : Nat} (h : i < l.length) :
    mapBx (addK (ksB (l.take i)) (sha l[i])) (updF (fun d => .str (txB (l.take i) d)) (sha l[i]) (.str l[i])) = mapBx (ksB (l.take (i + 1))) fun d => .str (txB (l.take (i + 1)) d) := by
  unfold mapBx
  rw [ksB_step h]
  show some (Box.map (mapF (addU _ _) _) none) = some (Box.map (mapF (addU _ _) _) none)
  congr 2
  refine mapF_congr fun n _ => ?_
  unfold updF
  rw [txB_step h]
  split <;> rfl
theorem Flat_gen {st fl : Bool} (S : List Fil → List Fil) (root : List UInt8) (blobs : List (List UInt8)) (hr : root.length ≤ 9223372036854775807) (hbl : blobs.length ≤ 1000000000000) (hS0 : ∀ out, (S out).length = out.length)
    (hsort : (flatY root blobs).2 = 0 → CallOk cx 64 [.ms 2 (0 + (flatY root blobs).1.length) 0 (flatY root blobs).1.length 3 false, .func (.func 65) [] []] (hpF (ksB blobs) (txB blobs) 0 (flatY root blobs).1) (fun o s => o = .ret (.tup []) ∧ s = hpF (ksB blobs) (txB blobs) 0 (S (flatY root blobs).1))) :
    Calc cx 25 [.str root, .sl st fl 1 (texts blobs)] (flatAV (flatT S root blobs)) :=
  pure_intro (fun a w => Tryz.call25 a w) Tryz.func25 rfl Tryz.ntmps25 rfl (flatAV_free _) fun B => by
    have htl : (texts blobs).length = blobs.length := by simp [texts]
    have hI := ContainsFuncS_ok (st := st) (fl := fl) blobs hbl
    have hD := digestIs_ok root hr
    unfold flatT
    have rt : ∀ e : Nat, e ≠ 0 → flatAV ([], e) = .tup [.nils, .int .i64 (e : Nat)] := fun e he => by unfold flatAV; rw [if_neg he]
    have rf : ∀ e : Int, Free true (.tup [.nils, .int .i64 e]) := fun e => .tup (by intro x hx; simp at hx; rcases hx with rfl | rfl; exact .nils; exact .int)
    by_cases hmany : 2000 < blobs.length
    · rw [if_pos (.inl hmany), rt 2 (by decide)]
      have e1 : decide ((((texts blobs).length : Nat) : Int) > 2000) = true := decide_eq_true (by omega)
      refine pB [.b true, .b true] rfl ?_
      exact S_retc (rf _) rfl trivial rfl
    have e1 : decide ((((texts blobs).length : Nat) : Int) > 2000) = false := decide_eq_false (by omega)
    cases hlg : longT blobs with
    | true =>
      rw [hlg] at hI
      rw [if_pos (.inr rfl), rt 2 (by decide)]
      refine pa [.b false, .v (.bool true), .b true] rfl ?_ ?_
      · (repeat' with_reducible apply AllP_cons) <;> try exact aC
        · exact ⟨_, hI, .cons (.refl (.sl (fun h => by cases h) (texts_any _))) (.cons (.refl (.func (fun x h => by cases h) (fun x h => by cases h))) (.nil _))⟩
      exact S_retc (rf _) rfl trivial rfl
    | false =>
      rw [hlg] at hI
      rw [if_neg (by simp; omega)]
      cases hdg : isDig root with
      | false =>
        rw [hdg] at hD
        rw [if_neg (by simp), rt 1 (by decide)]
        refine pa [.b false, .v (.bool false), .b false, .v (.bool false), .b true] rfl ?_ ?_
        · (repeat' with_reducible apply AllP_cons) <;> try exact aC
          · exact ⟨_, hI, .cons (.refl (.sl (fun h => by cases h) (texts_any _))) (.cons (.refl (.func (fun x h => by cases h) (fun x h => by cases h))) (.nil _))⟩
          · exact ⟨_, hD, .cons (.refl .str) (.nil _)⟩
        exact S_retc (rf _) rfl trivial rfl
      | true =>
        rw [hdg] at hD
        rw [if_pos rfl]
        refine pa [.b false, .v (.bool false), .b false, .v (.bool true), .b false, .f (.map 0 0) (fun _ => [(0, some (.map [] (some ([], 0))))])] rfl ?_ ?_
        · (repeat' with_reducible apply AllP_cons) <;> try exact aC
          · exact ⟨_, hI, .cons (.refl (.sl (fun h => by cases h) (texts_any _))) (.cons (.refl (.func (fun x h => by cases h) (fun x h => by cases h))) (.nil _))⟩
          · exact ⟨_, hD, .cons (.refl .str) (.nil _)⟩
          · exact OpSpec.mapN (C := []) rfl trivial
        refine S_unstamp (id := 0) rfl ?_ ⟨_, _, .inl rfl⟩
        refine S_ghost 3 ⟨false, none⟩ (id := 1) (j := 1) rfl rfl rfl (show (1 : Nat) ≠ 2 by decide) ⟨_, _, .inl rfl⟩ ?_
        refine S_while (α := Nat) (fun i => [(0, .str root), (6, .ptr 1 0 0), (23, .sl st fl 1 (texts blobs)), (24, .int .i64 (((texts blobs).length : Nat) : Int)), (25, .int .i64 (i : Nat))]) (fun i => hpT (ksB (blobs.take i)) (txB (blobs.take i)) 0 [] []) (fun i => i ≤ blobs.length) (fun i => blobs.length - i) 0
          (Nat.zero_le _) (.cons rfl (.cons rfl (.cons rfl (.cons rfl (.cons rfl (.nil _)))))) rfl ?_
        intro i hi
        have hi : i ≤ blobs.length := hi
        by_cases hlt : i < blobs.length
        · have e2 : decide ((i : Int) < (((texts blobs).length : Nat) : Int)) = true := decide_eq_true (by omega)
          have g1 : (texts blobs)[(i : Int).toNat]? = some (.str blobs[i]) := by rw [Int.toNat_natCast]; simp [texts, List.getElem?_eq_getElem hlt]
          have hbz : blobs[i].length ≤ 100000 := by
            unfold longT at hlg
            rw [List.any_eq_false] at hlg
            have := hlg _ (List.getElem_mem hlt)
            simpa using this
          have hS := Sum_ok blobs[i] (by omega)
          refine pa [.b true, .v (.str blobs[i]), .v (.str (sha blobs[i])), .f (.tup []) (fun σ => (0, mapBx (addK (ksB (blobs.take i)) (sha blobs[i])) (updF (fun d => .str (txB (blobs.take i) d)) (sha blobs[i]) (.str blobs[i]))) :: σ.tail), .s] rfl ?_ ?_
          · (repeat' with_reducible apply AllP_cons) <;> try exact aC
            · exact ⟨_, hS, .cons (.refl .str) (.nil _)⟩
            · exact OpSpec.mput (kt := 9) (et := 9) (ks := ksB (blobs.take i)) (val := fun d => .str (txB (blobs.take i) d)) (s := sha blobs[i]) rfl (Tryz.underlying102) rfl rfl rfl rfl rfl (addU_fold_nodup sha _ [] .nil) rfl
          refine S_heap (hpT (ksB (blobs.take (i + 1))) (txB (blobs.take (i + 1))) 0 [] []) ?_ ?_
          · rw [mapB_step hlt]; rfl
          refine pB [] rfl ?_
          exact S_round (i + 1) (by show blobs.length - (i + 1) < blobs.length - i; omega) hlt (.cons rfl (.cons rfl (.cons rfl (.cons rfl (.cons (nX (by omega)) (.nil _)))))) rfl
        · have hil : i = blobs.length := by omega
          subst hil
          have e2 : decide ((blobs.length : Int) < (((texts blobs).length : Nat) : Int)) = false := decide_eq_false (by omega)
          rw [List.take_length]
          have hdir := dir_ok (ksB blobs) (txB blobs) (fun d _ => txB_len hlg d) 0 102 root [] [] (by decide) (by decide) (by decide)
          have hfl := flatD_len (getM (ksB blobs) (txB blobs)) 102 root [] [] (by decide)
          change CallOk _ _ _ _ (fun o s => o = .ret (.int .i64 ((flatY root blobs).2 : Nat)) ∧ s = hpF (ksB blobs) (txB blobs) 0 (flatY root blobs).1) at hdir
          change (flatY root blobs).1.length ≤ 60 ∧ _ at hfl
          generalize flatY root blobs = y at *
          obtain ⟨out, e⟩ := y
          by_cases he : e = 0
          · subst he
            rw [if_pos rfl]
            have hso := hsort rfl
            have hSl := hS0 out
            have hcl := cels_len (S out)
            simp only at hso hdir hfl
            refine pB [.b false, .f (.int .i64 ((0 : Nat) : Int)) (fun _ => hpT (ksB blobs) (txB blobs) 0 out []), .b false, .f (.tup []) (fun _ => hpT (ksB blobs) (txB blobs) 0 (S out) [])] rfl ?_
            refine S_ret ⟨_, _, rfl, trivial, _, rfl, ?_⟩
            show Frz true _ (.tup [.ms 2 (0 + (S out).length) 0 (S out).length 3 false, .int .i64 0]) (.tup [.sl true false 3 (fils (S out)), .int .i64 0])
            exact Fzs.tup (.cons (.ms rfl (by show 0 + (S out).length * 3 ≤ (celsF (S out)).length; omega) (by rw [List.drop_zero]; exact List.take_of_length_le (by omega)) (fil_size _) (fils_len _) (fils_free _)) (.cons (.refl .int) .nil))
          · rw [if_neg he, rt e he]
            refine pa [.b false, .f (.int .i64 (e : Nat)) (fun _ => hpT (ksB blobs) (txB blobs) 0 out []), .b true] rfl ?_ ?_
            · (repeat' with_reducible apply AllP_cons) <;> try exact aC
              · show ((((e : Int)) != 0) = true)
                rw [chk_bne]; simpa using he
            exact S_retc (rf _) rfl trivial rfl
end Go.Proofs.YtjkeekbfgnmngaaGreatDoor
end
section
set_option linter.unusedVariables false
set_option linter.unusedSimpArgs false
set_option maxRecDepth 20000
namespace Go.Proofs.YtjkeekbfgnmngaaGreatDoor
open Go Go.Ab
def RawF (x : List Fil) (e : Nat) (o : Out) (s : Heap) : Prop :=
  (e ≠ 0 ∧ o = .ret (.tup [.nils, .int .i64 (e : Nat)])) ∨ (e = 0 ∧ ∃ id ver, o = .ret (.tup [.ms id ver 0 x.length 3 false, .int .i64 0]) ∧ s[id]? = some (ver, some (.cells (celsF x) ⟨false, none⟩)))
theorem RawF.calc {f : FuncId} {args : List AV} {x : List Fil} {e : Nat} (h : CallOk cx f args [] (RawF x e)) : Calc cx f args (flatAV (x, e)) :=
  calc_of (flatAV_free _) (h.mono fun o s hr => by
    rcases hr with ⟨he, rfl⟩ | ⟨he, id, ver, rfl, hb⟩
    · refine ⟨_, rfl, ?_⟩
      unfold flatAV
      rw [if_neg he]
      exact .refl (.tup (by intro x hx; simp at hx; rcases hx with rfl | rfl; exact .nils; exact .int))
    · subst he
      refine ⟨_, rfl, ?_⟩
      have hcl := cels_len x
      show Frz true s (.tup [.ms id ver 0 x.length 3 false, .int .i64 0]) (.tup [.sl true false 3 (fils x), .int .i64 0])
      exact Fzs.tup (.cons (.ms (cs := celsF x) (by unfold boxAt; rw [hb]) (by omega) (by rw [List.drop_zero]; exact List.take_of_length_le (by omega)) (fil_size _) (fils_len _) (fils_free _)) (.cons (.refl .int) .nil)))
end Go.Proofs.YtjkeekbfgnmngaaGreatDoor
end
section
set_option linter.unusedVariables false
set_option linter.unusedSimpArgs false
set_option maxRecDepth 20000
set_option maxHeartbeats 4000000
namespace Go.Proofs.YtjkeekbfgnmngaaGreatDoor
open Go Go.Ab
def h1T : List UInt8 := [50, 100, 55, 49, 49, 54, 52, 50, 98, 55, 50, 54, 98, 48, 52, 52, 48, 49, 54, 50, 55, 99, 97, 57, 102, 98, 97, 99, 51, 50, 102, 53, 99, 56, 53, 51, 48, 102, 98, 49, 57, 48, 51, 99, 99, 52, 100, 98, 48, 50, 50, 53, 56, 55, 49, 55, 57, 50, 49, 97, 52, 56, 56, 49]
def t1T : List UInt8 := [1, 1, 98, 1, 64, 50, 100, 55, 49, 49, 54, 52, 50, 98, 55, 50, 54, 98, 48, 52, 52, 48, 49, 54, 50, 55, 99, 97, 57, 102, 98, 97, 99, 51, 50, 102, 53, 99, 56, 53, 51, 48, 102, 98, 49, 57, 48, 51, 99, 99, 52, 100, 98, 48, 50, 50, 53, 56, 55, 49, 55, 57, 50, 49, 97, 52, 56, 56, 49]
def h2T : List UInt8 := [100, 56, 98, 99, 99, 98, 53, 99, 97, 99, 48, 101, 52, 50, 49, 101, 97, 52, 101, 49, 55, 99, 50, 49, 50, 49, 102, 51, 56, 55, 52, 51, 48, 57, 102, 98, 51, 101, 51, 100, 48, 50, 48, 53, 52, 97, 48, 54, 48, 101, 102, 50, 101, 48, 48, 49, 99, 56, 53, 97, 53, 99, 48, 99]
def t2T : List UInt8 := [1, 1, 97, 3, 64, 100, 56, 98, 99, 99, 98, 53, 99, 97, 99, 48, 101, 52, 50, 49, 101, 97, 52, 101, 49, 55, 99, 50, 49, 50, 49, 102, 51, 56, 55, 52, 51, 48, 57, 102, 98, 51, 101, 51, 100, 48, 50, 48, 53, 52, 97, 48, 54, 48, 101, 102, 50, 101, 48, 48, 49, 99, 56, 53, 97, 53, 99, 48, 99]
def h3T : List UInt8 := [48, 54, 55, 52, 52, 101, 54, 57, 101, 102, 98, 53, 56, 53, 102, 48, 50, 54, 48, 51, 98, 101, 52, 48, 57, 102, 56, 98, 101, 55, 51, 100, 50, 54, 51, 53, 50, 55, 56, 51, 50, 102, 55, 52, 54, 55, 50, 97, 51, 55, 57, 98, 53, 101, 52, 101, 55, 101, 102, 49, 50, 50, 99, 98]
def l0T : List Fil := [⟨[97, 47, 98], [120], false⟩]
theorem sha1T : sha [120] = h1T := by decide +kernel
theorem sha2T : sha t1T = h2T := by decide +kernel
theorem sha3T : sha t2T = h3T := by decide +kernel
theorem pk1T : packNs [⟨[98], 1, h1T⟩] = t1T := by decide +kernel
theorem pk2T : packNs [⟨[97], 3, h2T⟩] = t2T := by decide +kernel
theorem rd1T : readNd t1T = ([⟨[98], 1, h1T⟩], 0) := by kernel_rfl
theorem rd2T : readNd t2T = ([⟨[97], 3, h2T⟩], 0) := by kernel_rfl
theorem chk0T : chkT l0T = 0 := by decide +kernel
theorem sort_one (n : List UInt8) : sortT [n] = [n] := by unfold sortT; rw [List.mergeSort_singleton]
theorem dir0T : dirT 101 l0T = (t2T, [[120], t1T]) := by
  have a1 : nmsT l0T = [[97]] := by decide +kernel
  have a2 : grT l0T [97] = [⟨[98], [120], false⟩] := by decide +kernel
  have a3 : nmsT [⟨[98], [120], false⟩] = [[98]] := by decide +kernel
  have a4 : grT [⟨[98], [120], false⟩] [98] = [⟨[], [120], false⟩] := by decide +kernel
  have e1 : dirT 100 [⟨[98], [120], false⟩] = (t1T, [[120]]) := by
    rw [dirT, a3, sort_one]
    unfold nodsT blbsT
    simp only [List.map_cons, List.map_nil, List.flatMap_cons, List.flatMap_nil, List.append_nil, a4, entT, if_pos, sha1T]
    exact Prod.ext pk1T rfl
  rw [dirT, a1, sort_one]
  unfold nodsT blbsT
  simp only [List.map_cons, List.map_nil, List.flatMap_cons, List.flatMap_nil, List.append_nil, a2, entT, e1]
  rw [if_neg (by decide), sha2T]
  exact Prod.ext pk2T rfl
theorem root0T : rootT l0T = h3T := by unfold rootT; rw [dir0T]; exact sha3T
theorem blob0T : blobT l0T = [t2T, t1T, [120]] := by
  unfold blobT
  rw [dir0T]
  have : addU ([[120], t1T].foldl addU []) t2T = [[120], t1T, t2T] := by decide +kernel
  show sortT (addU ([[120], t1T].foldl addU []) t2T) = _
  rw [this]
  refine perm_sorted ((sortT_perm _).trans ?_) (sortT_pw _) ?_
  · exact (List.reverse_perm [[120], t1T, t2T]).symm
  · decide +kernel
theorem ks0T : ksB [t2T, t1T, [120]] = [h3T, h2T, h1T] := by
  unfold ksB
  simp only [List.foldl_cons, List.foldl_nil, sha1T, sha2T, sha3T]
  decide +kernel
theorem tx3T : txB [t2T, t1T, [120]] h3T = t2T := by
  have b1 : (h1T == h3T) = false := by decide +kernel
  have b2 : (h2T == h3T) = false := by decide +kernel
  have b3 : (h3T == h3T) = true := by decide +kernel
  unfold txB
  simp only [List.reverse_cons, List.reverse_nil, List.nil_append, List.cons_append, List.find?_cons, sha1T, sha2T, sha3T, b1, b2, b3]
  rfl
theorem tx2T : txB [t2T, t1T, [120]] h2T = t1T := by
  have b1 : (h1T == h2T) = false := by decide +kernel
  have b2 : (h2T == h2T) = true := by decide +kernel
  unfold txB
  simp only [List.reverse_cons, List.reverse_nil, List.nil_append, List.cons_append, List.find?_cons, sha1T, sha2T, sha3T, b1, b2]
  rfl
theorem tx1T : txB [t2T, t1T, [120]] h1T = [120] := by
  have b1 : (h1T == h1T) = true := by decide +kernel
  unfold txB
  simp only [List.reverse_cons, List.reverse_nil, List.nil_append, List.cons_append, List.find?_cons, sha1T, b1]
  rfl
theorem flat0T : flatY h3T [t2T, t1T, [120]] = (l0T, 0) := by
  have g3 : getM (ksB [t2T, t1T, [120]]) (txB [t2T, t1T, [120]]) h3T = some t2T := by unfold getM; rw [ks0T, if_pos (by simp), tx3T]
  have g2 : getM (ksB [t2T, t1T, [120]]) (txB [t2T, t1T, [120]]) h2T = some t1T := by unfold getM; rw [ks0T, if_pos (by simp), tx2T]
  have g1 : getM (ksB [t2T, t1T, [120]]) (txB [t2T, t1T, [120]]) h1T = some [120] := by unfold getM; rw [ks0T, if_pos (by simp), tx1T]
  unfold flatY
  generalize getM (ksB [t2T, t1T, [120]]) (txB [t2T, t1T, [120]]) = get at *
  have e1 : flatD get 101 h2T [97, 47] [] = (l0T, 0) := by
    rw [flatD, g2]
    simp only [rd1T]
    rw [if_neg (by decide), if_neg (by simp), flatN]
    rw [if_neg (by decide), if_neg (by decide)]
    simp only [g1]
    rw [if_neg (by decide), flatN]; rfl
  rw [flatD, g3]
  simp only [rd2T]
  rw [if_neg (by decide), if_neg (by simp), flatN]
  rw [if_neg (by decide), if_pos rfl]
  show (if (flatD get 101 h2T [97, 47] []).2 = 0 then _ else _) = _
  rw [e1, if_pos rfl, flatN]
  show ((flatD get 101 h2T [97, 47] []).1, 0) = _
  rw [e1]
theorem treeBegun_ok : Calc cx 5 [] (.bool true) :=
  pure_intro (fun a w => Tryz.call5 a w) Tryz.func5 rfl Tryz.ntmps5 rfl .bool fun B => by
    have hl0 : FilsOk l0T := ⟨by decide, by intro f hf; simp [l0T] at hf; subst hf; decide, by intro f hf; simp [l0T] at hf; subst hf; decide⟩
    have hB := Blobs_ok (st := true) (fl := true) l0T hl0
    have hR := Root_ok (st := true) (fl := true) l0T hl0
    have hF := Flat_gen (st := true) (fl := false) id h3T [t2T, t1T, [120]] (by decide) (by decide) (fun _ => rfl) (fun _ => by
      rw [flat0T]
      exact Sort1_ok (ksB [t2T, t1T, [120]]) (txB [t2T, t1T, [120]]) 0 ⟨[97, 47, 98], [120], false⟩)
    have hS := SameFiles_ok (st := true) (st' := true) (fl := true) (fl' := false) l0T l0T (by decide) (by decide)
    rw [decide_eq_true rfl] at hS
    unfold blobAV at hB
    unfold rootAV at hR
    rw [chk0T, if_pos rfl, blob0T] at hB
    rw [chk0T, if_pos rfl, root0T] at hR
    have hft : flatT id h3T [t2T, t1T, [120]] = (l0T, 0) := by
      unfold flatT
      rw [if_neg (by decide +kernel), if_pos (by decide +kernel), flat0T, if_pos rfl]; rfl
    rw [hft] at hF
    refine pa [.v (.tup [.sl true false 1 (texts [t2T, t1T, [120]]), .int .i64 ((0 : Nat) : Int)]), .v (.tup [.str h3T, .int .i64 ((0 : Nat) : Int)]), .v (.tup [.sl true false 3 (fils l0T), .int .i64 ((0 : Nat) : Int)]), .b true, .b true, .b true, .v (.bool true)] rfl ?_ ?_
    · (repeat' with_reducible apply AllP_cons) <;> try exact aC
      · exact ⟨_, hB, .cons (.refl (.sl (fun _ => rfl) (fils_free l0T))) (.nil _)⟩
      · exact ⟨_, hR, .cons (.refl (.sl (fun _ => rfl) (fils_free l0T))) (.nil _)⟩
      · exact ⟨_, hF, .cons (.refl .str) (.cons (.refl (.sl (fun _ => rfl) (texts_any _))) (.nil _))⟩
      · exact ⟨_, hS, .cons (.refl (.sl (fun _ => rfl) (fils_free l0T))) (.cons (.refl (.sl (fun _ => rfl) (fils_free l0T))) (.nil _))⟩
    exact S_retc .bool rfl trivial rfl
end Go.Proofs.YtjkeekbfgnmngaaGreatDoor
end
section
set_option linter.unusedVariables false
set_option linter.unusedSimpArgs false
set_option maxRecDepth 20000
set_option maxHeartbeats 4000000
namespace Go.Proofs.YtjkeekbfgnmngaaGreatDoor
open Go Go.Ab
theorem avS_fils (l : List Fil) : l.length ≤ avS (fils l) ∧ ∀ f ∈ l, f.path.length + f.text.length ≤ avS (fils l) := by
  induction l with
  | nil => exact ⟨Nat.zero_le _, fun f hf => by cases hf⟩
  | cons g r ih =>
    have e : avS (fils (g :: r)) = (g.path.length + (g.text.length + (0 + 0))) + 1 + avS (fils r) := by
      show avS (filA g :: fils r) = _
      simp only [avS, filA, avB, avC]
    rw [e]
    refine ⟨by rw [List.length_cons]; omega, fun f hf => ?_⟩
    rcases List.mem_cons.1 hf with rfl | hf
    · omega
    · have := ih.2 f hf; omega
theorem fils_of {l : List Fil} (hk : avB (.sl true false 3 (fils l)) ≤ 1048576) : FilsOk l := by
  have h : avS (fils l) ≤ 1048576 := by simpa only [avB] using hk
  have := avS_fils l
  exact ⟨by omega, fun f hf => by have := this.2 f hf; omega, fun f hf => by have := this.2 f hf; omega⟩
end Go.Proofs.YtjkeekbfgnmngaaGreatDoor
end
section
set_option linter.unusedVariables false
set_option linter.unusedSimpArgs false
set_option maxRecDepth 20000
set_option maxHeartbeats 4000000
namespace Go.Proofs.YtjkeekbfgnmngaaGreatDoor
open Go Go.Ab
def cutF (dir : List UInt8) (f : Fil) : Fil := ⟨f.path.drop (dir.length + 1), f.text, f.run⟩
def undT (l : List Fil) (dir : List UInt8) : List Fil := (l.filter (fun f => insT dir f.path)).map (cutF dir)
theorem und_step {l : List Fil} {i : Nat} (h : i < l.length) (dir : List UInt8) : undT (l.take (i + 1)) dir = undT (l.take i) dir ++ (if insT dir l[i].path = true then [cutF dir l[i]] else []) := by
  unfold undT
  rw [List.take_succ_eq_append_getElem h, List.filter_append, List.map_append]
  congr 1
  cases hi : insT dir l[i].path with
  | true => rw [List.filter_cons_of_pos (by simpa using hi)]; rfl
  | false => rw [List.filter_cons_of_neg (by simpa using hi)]; rfl
theorem und_len (l : List Fil) (dir : List UInt8) : (undT l dir).length ≤ l.length := by
  unfold undT; rw [List.length_map]; exact List.length_filter_le _ _
end Go.Proofs.YtjkeekbfgnmngaaGreatDoor
end
section
set_option linter.unusedVariables false
set_option linter.unusedSimpArgs false
set_option maxRecDepth 20000
set_option maxHeartbeats 4000000
namespace Go.Proofs.YtjkeekbfgnmngaaGreatDoor
open Go Go.Ab
def flatSV (y : List Fil × Nat) : AV := .tup [.sl true false 3 (fils (if y.2 = 0 then y.1 else [])), .int .i64 (y.2 : Nat)]
theorem flatS {f : FuncId} {args : List AV} {y : List Fil × Nat} (h : Calc cx f args (flatAV y)) : Calc cx f args (flatSV y) :=
  h.weak (.tup (by intro x hx; simp at hx; rcases hx with rfl | rfl; exact .sl (fun _ => rfl) (fils_free _); exact .int)) fun r w v hv => by
    unfold flatAV at hv
    unfold flatSV
    by_cases he : y.2 = 0
    · rw [if_pos he] at hv ⊢; exact hv
    · rw [if_neg he] at hv ⊢
      cases hv with
      | tup hn hall =>
        refine .tup hn fun i hi => ?_
        match i, hi with
        | 0, hi =>
          have h0 := hall 0 (by simp)
          have h0 : VRel r w _ .nils := h0
          show VRel r w _ (.sl true false 3 [])
          generalize Array.getD _ 0 undef = z at h0 ⊢
          cases h0
          exact .sl0 (fun h => by cases h)
        | 1, hi => exact hall 1 (by simp)
        | k + 2, hi => exact absurd hi (by simp)
end Go.Proofs.YtjkeekbfgnmngaaGreatDoor
end
section
set_option linter.unusedVariables false
set_option linter.unusedSimpArgs false
set_option maxRecDepth 20000
set_option maxHeartbeats 4000000
namespace Go.Proofs.YtjkeekbfgnmngaaGreatDoor
open Go Go.Ab
def lessN (s : List UInt8) : List (List UInt8) → Nat
  | [] => 0
  | x :: r => if Op.bytesLess x s = true then lessN s r + 1 else 0
def addT (l : List (List UInt8)) (s : List UInt8) : List (List UInt8) := if l[lessN s l]? = some s then l else l.take (lessN s l) ++ s :: l.drop (lessN s l)
theorem lessN_le (s : List UInt8) : ∀ l : List (List UInt8), lessN s l ≤ l.length
  | [] => Nat.le_refl _
  | x :: r => by
    rw [lessN]
    split
    · have := lessN_le s r; rw [List.length_cons]; omega
    · exact Nat.zero_le _
theorem lessN_lt {s : List UInt8} : ∀ {l : List (List UInt8)} {i : Nat} (hi : i < l.length), i < lessN s l → Op.bytesLess l[i] s = true
  | x :: r, i, hi, h => by
    rw [lessN] at h
    split at h
    · rename_i hx
      cases i with
      | zero => exact hx
      | succ i => exact lessN_lt (l := r) (by simpa using hi) (by omega)
    · omega
theorem lessN_at {s : List UInt8} : ∀ {l : List (List UInt8)} (h : lessN s l < l.length), Op.bytesLess l[lessN s l] s = false
  | x :: r, h => by
    by_cases hx : Op.bytesLess x s = true
    · have e : lessN s (x :: r) = lessN s r + 1 := by rw [lessN, if_pos hx]
      have h' : lessN s r < r.length := by rw [e, List.length_cons] at h; omega
      have := lessN_at h'
      simp only [e, List.getElem_cons_succ]
      exact this
    · have e : lessN s (x :: r) = 0 := by rw [lessN, if_neg hx]
      simp only [e, List.getElem_cons_zero]
      simpa using hx
theorem txl (x : List (List UInt8)) : (texts x).length = x.length := List.length_map ..
theorem AddText_ok {fl : Bool} (l : List (List UInt8)) (s : List UInt8) (hl : l.length ≤ 1000000000) : Calc cx 46 [.sl true fl 1 (texts l), .str s] (.sl true false 1 (texts (addT l s))) :=
  pure_intro (fun a w => Tryz.call46 a w) Tryz.func46 rfl Tryz.ntmps46 rfl (.sl (fun _ => rfl) (texts_any _)) fun B => by
    have htl : (texts l).length = l.length := by simp [texts]
    have hle := lessN_le s l
    refine pB [] rfl ?_
    refine S_while (α := Nat) (fun i => [(0, .sl true fl 1 (texts l)), (1, .str s), (5, .int .i64 (i : Nat))]) (fun _ => []) (fun i => i ≤ lessN s l) (fun i => l.length - i) 0
      (Nat.zero_le _) (.cons rfl (.cons rfl (.cons rfl (.nil _)))) rfl ?_
    intro i hi
    have hi : i ≤ lessN s l := hi
    have hT : cutL (some (i : Int)) none (texts l) = texts (l.drop i) := by simp [cutL, texts]
    have hD : cutL none (some (i : Int)) (texts l) = texts (l.take i) := by simp [cutL, texts]
    have hone' : ∀ (x : List (List UInt8)), ∀ y ∈ texts x, y.one = true := by
      intro x y hy
      obtain ⟨t, _, rfl⟩ := List.mem_map.1 hy; rfl
    have hone : ∀ {xs : List AV} (x : List (List UInt8)), xs = texts x → ∀ y ∈ flatA 1 xs, y.one = true := by
      intro xs x hx y hy
      have hy : y ∈ xs := hy
      rw [hx] at hy
      exact hone' x y hy
    by_cases hlt : i < l.length
    · have e1 : decide ((i : Int) < (((texts l).length : Nat) : Int)) = true := decide_eq_true (by omega)
      have g1 : (texts l)[(i : Int).toNat]? = some (.str l[i]) := by rw [Int.toNat_natCast]; simp [texts, List.getElem?_eq_getElem hlt]
      by_cases hil : i < lessN s l
      · have e2 := lessN_lt hlt hil
        refine pB [.b true, .v (.str l[i]), .b true] rfl ?_
        exact S_round (i + 1) (by show l.length - (i + 1) < l.length - i; omega) hil (.cons rfl (.cons rfl (.cons (nX (by omega)) (.nil _)))) rfl
      · have hie : i = lessN s l := by omega
        have e2 : Op.bytesLess l[i] s = false := by subst hie; exact lessN_at hlt
        by_cases heq : l[i] = s
        · have e3 : (l[i] == s) = true := by simpa using heq
          have hres : addT l s = l := by unfold addT; rw [← hie, List.getElem?_eq_getElem hlt, heq, if_pos rfl]
          rw [hres]
          refine pB [.b true, .v (.str l[i]), .b false, .b true, .v (.str l[i]), .b true] rfl ?_
          refine S_ret ⟨_, _, rfl, trivial, _, rfl, ?_⟩
          show Frz true [] (.sl true fl 1 (texts l)) (.sl true false 1 (texts l))
          exact .full (fun _ => rfl) (texts_any l)
        · have e3 : (l[i] == s) = false := by simpa using heq
          have hres : addT l s = l.take i ++ s :: l.drop i := by unfold addT; rw [← hie, List.getElem?_eq_getElem hlt, if_neg (fun h => heq (Option.some.inj h))]
          rw [hres]
          refine pa [.b true, .v (.str l[i]), .b false, .b true, .v (.str l[i]), .b false, .d 9 10 [] (fun _ => [(0, some (.cells (.str s :: texts (l.drop i)) ⟨false, none⟩))]) [.ms 0 0 0 ((l.drop i).length + 1) 1 false]] rfl ?_ ?_
          · (repeat' with_reducible apply AllP_cons) <;> try exact aC
            · exact hone _ hT
            · exact hone _ hT
            · rw [hT, txl, List.length_drop]; left; omega
            · show (1 + (cutL (some (i : Int)) none (texts l)).length) * 16 ≤ 140737488355328
              rw [hT, txl, List.length_drop]; omega
            · show 1 + (cutL (some (i : Int)) none (texts l)).length ≤ 9223372036854775807
              rw [hT, txl, List.length_drop]; omega
            · show AV.ms 0 0 0 (1 + (cutL (some (i : Int)) none (texts l)).length) 1 false = _
              rw [hT, txl, Nat.add_comm]
            · show ([(0, some (.cells ([.str s] ++ cutL (some (i : Int)) none (texts l)) ⟨false, none⟩))] : Heap) = _
              rw [hT]; rfl
            · show 0 + ((l.drop i).length + 1) * 1 ≤ (AV.str s :: texts (l.drop i)).length
              rw [List.length_cons, txl]; omega
            · intro y hy
              have hy : y ∈ (AV.str s :: texts (l.drop i)) := List.mem_of_mem_take hy
              rcases List.mem_cons.1 hy with rfl | hy
              · rfl
              · obtain ⟨t, _, rfl⟩ := List.mem_map.1 hy; rfl
            · exact hone _ hD
            · show ((cutL none (some (i : Int)) (texts l)).length + ((l.drop i).length + 1)) * 16 ≤ 140737488355328
              rw [hD, txl, List.length_take, List.length_drop]; omega
            · rw [hD, txl, List.length_take, List.length_drop]; omega
          refine S_ret ⟨_, _, rfl, trivial, _, rfl, ?_⟩
          show Frz true [(0, some (.cells (.str s :: texts (l.drop i)) ⟨false, none⟩)), (0, some (.cells (cutL none (some (i : Int)) (texts l) ++ (AV.str s :: texts (l.drop i)).take (((l.drop i).length + 1) * 1)) ⟨false, none⟩))] (.ms 1 0 0 ((cutL none (some (i : Int)) (texts l)).length + ((l.drop i).length + 1)) 1 false) _
          have hxs : texts (l.take i ++ s :: l.drop i) = texts (l.take i) ++ (AV.str s :: texts (l.drop i)) := by simp [texts]
          rw [hD, List.take_of_length_le (l := (AV.str s :: texts (l.drop i))) (by rw [List.length_cons, txl]; omega), ← hxs]
          exact Frz.ms1 rfl (hone' _) (by rw [hxs, List.length_append, List.length_cons, txl, txl]) (texts_any _)
    · have hie : i = l.length := by omega
      have hin : lessN s l = l.length := by omega
      have e1 : decide ((i : Int) < (((texts l).length : Nat) : Int)) = false := decide_eq_false (by omega)
      have hres : addT l s = l ++ [s] := by unfold addT; rw [hin, List.getElem?_eq_none (Nat.le_refl _), if_neg (by simp), List.take_length, List.drop_length]
      rw [hres]
      refine pa [.b false, .b false, .b false, .b false, .d 9 10 [1000001] (fun σ => σ) [.sl true true 1 [.str s]]] rfl ?_ ?_
      · (repeat' with_reducible apply AllP_cons) <;> try exact aC
        · exact OpSpec.append0 (st := true) (fl := true) (st' := true) (fl' := _) (sz := 1) rfl rfl rfl rfl (by show AV.sl true _ 1 (cutL (some (i : Int)) none (texts l)) = _; rw [hT, hie, List.drop_length]; rfl)
        · exact hone _ hD
        · show ((cutL none (some (i : Int)) (texts l)).length + 1) * 16 ≤ 140737488355328
          rw [hD, txl, List.length_take]; omega
        · show (cutL none (some (i : Int)) (texts l)).length + 1 ≤ 9223372036854775807
          rw [hD, txl, List.length_take]; omega
      refine S_ret ⟨_, _, rfl, trivial, _, rfl, ?_⟩
      show Frz true [(0, some (.cells (cutL none (some (i : Int)) (texts l) ++ [.str s]) ⟨false, none⟩))] (.ms 0 0 0 ((cutL none (some (i : Int)) (texts l)).length + 1) 1 false) _
      have hxs : texts (l ++ [s]) = texts l ++ [.str s] := by simp [texts]
      rw [hD, hie, List.take_length, ← hxs]
      exact Frz.ms1 rfl (hone' _) (by rw [hxs, List.length_append]; rfl) (texts_any _)
end Go.Proofs.YtjkeekbfgnmngaaGreatDoor
end
section
set_option linter.unusedVariables false
set_option linter.unusedSimpArgs false
set_option maxRecDepth 20000
set_option maxHeartbeats 4000000
namespace Go.Proofs.YtjkeekbfgnmngaaGreatDoor
open Go Go.Ab
def setT (l : List (List UInt8)) : List (List UInt8) := sortT (l.foldl addU [])
theorem fold_mem {x : List UInt8} (l a : List (List UInt8)) : x ∈ l.foldl addU a ↔ x ∈ a ∨ x ∈ l := by
  have := addU_fold_mem (fun t : List UInt8 => t) (x := x) l a
  rw [this]
  constructor
  · rintro (h | ⟨f, h, rfl⟩)
    · exact .inl h
    · exact .inr h
  · rintro (h | h)
    · exact .inl h
    · exact .inr ⟨x, h, rfl⟩
theorem nodup_perm {a b : List (List UInt8)} (ha : a.Nodup) (hb : b.Nodup) (h : ∀ x, x ∈ a ↔ x ∈ b) : a.Perm b := by
  exact (List.perm_ext_iff_of_nodup ha hb).2 h
theorem setT_ext {a b : List (List UInt8)} (h : ∀ x, x ∈ a ↔ x ∈ b) : setT a = setT b :=
  sortT_eq (nodup_perm (foldU_nodup .nil) (foldU_nodup .nil) fun x => by rw [fold_mem, fold_mem, h x])
theorem setT_mem {l : List (List UInt8)} {x : List UInt8} : x ∈ setT l ↔ x ∈ l := by
  unfold setT
  rw [(sortT_perm _).mem_iff, fold_mem]; simp
theorem setT_len (l : List (List UInt8)) : (setT l).length ≤ l.length := by
  unfold setT
  rw [(sortT_perm _).length_eq]
  have := addU_fold_len (fun t : List UInt8 => t) l []
  simpa using this
theorem addT_sort {m : List (List UInt8)} (hm : m.Nodup) (s : List UInt8) : addT (sortT m) s = sortT (addU m s) := by
  obtain ⟨l, hl⟩ : ∃ l, l = sortT m := ⟨_, rfl⟩
  have hlt : ∀ (i j : Nat) (hij : i < j) (hj : j < l.length), l[i]'(by omega) < l[j] := by
    subst hl; exact fun i j hij hj => sort_lt hm hij hj
  have hmem : ∀ x, x ∈ l ↔ x ∈ m := fun x => by rw [hl]; exact (sortT_perm m).mem_iff
  rw [← hl]
  have hk := lessN_le s l
  by_cases hs : l[lessN s l]? = some s
  · rw [addT, if_pos hs, addU, if_pos ((hmem s).1 (List.mem_of_getElem? hs)), hl]
  · have hbefore : ∀ i (hi : i < l.length), i < lessN s l → l[i] < s := fun i hi h => by
      have := lessN_lt hi h
      rw [bl_eq] at this; simpa using this
    have hafter : ∀ i (hi : i < l.length), lessN s l ≤ i → s < l[i] := by
      intro i hi h
      have hk2 : lessN s l < l.length := by omega
      have h1 := lessN_at hk2
      rw [bl_eq] at h1
      have h1 : ¬ l[lessN s l] < s := by simpa using h1
      have h2 : l[lessN s l] ≠ s := fun e => hs (by rw [List.getElem?_eq_getElem hk2, e])
      have h3 : s < l[lessN s l] := by
        rcases Std.lt_trichotomy l[lessN s l] s with h | h | h
        · exact absurd h h1
        · exact absurd h h2
        · exact h
      rcases Nat.lt_or_ge (lessN s l) i with h4 | h4
      · exact List.lt_trans h3 (hlt _ _ h4 hi)
      · have : lessN s l = i := by omega
        simpa only [this] using h3
    have hns : s ∉ m := by
      intro h
      obtain ⟨i, hi, e⟩ := List.getElem_of_mem ((hmem s).2 h)
      rcases Nat.lt_or_ge i (lessN s l) with h1 | h1
      · have := hbefore i hi h1; rw [e] at this; exact List.lt_irrefl _ this
      · have := hafter i hi h1; rw [e] at this; exact List.lt_irrefl _ this
    rw [addT, if_neg hs, addU, if_neg hns]
    refine perm_sorted ?_ ?_ (sortT_pw _)
    · refine List.perm_middle.trans ?_
      rw [List.take_append_drop]
      refine List.Perm.trans ?_ (sortT_perm _).symm
      rw [hl]
      refine ((sortT_perm m).cons s).trans ?_
      exact (List.perm_append_singleton s m).symm
    · rw [List.pairwise_append]
      have hpw : l.Pairwise (fun x y => x ≤ y) := by rw [hl]; exact sortT_pw m
      refine ⟨hpw.sublist (List.take_sublist _ _), ?_, ?_⟩
      · rw [List.pairwise_cons]
        refine ⟨fun x hx => ?_, hpw.sublist (List.drop_sublist _ _)⟩
        obtain ⟨i, hi, rfl⟩ := List.getElem_of_mem hx
        rw [List.getElem_drop]
        rw [List.length_drop] at hi
        exact List.le_of_lt (hafter _ (by omega) (by omega))
      · intro x hx y hy
        obtain ⟨i, hi, rfl⟩ := List.getElem_of_mem hx
        rw [List.length_take] at hi
        rw [List.getElem_take]
        have h1 := hbefore i (by omega) (by omega)
        rcases List.mem_cons.1 hy with rfl | hy
        · exact List.le_of_lt h1
        · obtain ⟨j, hj, rfl⟩ := List.getElem_of_mem hy
          rw [List.length_drop] at hj
          rw [List.getElem_drop]
          exact List.le_of_lt (List.lt_trans h1 (hafter _ (by omega) (by omega)))
theorem addT_set (l : List (List UInt8)) (s : List UInt8) : addT (setT l) s = setT (l ++ [s]) := by
  unfold setT
  rw [addT_sort (foldU_nodup .nil), List.foldl_append]; rfl
def relT (l : List Fil) (dir : List UInt8) : List Fil := if dir = [] then l else undT l dir
def pathT (dir n : List UInt8) : List UInt8 := if dir = [] then n else dir ++ [47] ++ n
theorem nms_set (l : List Fil) : sortT (nmsT l) = setT (l.map fun f => fstT f.path) := by
  unfold nmsT setT
  rw [List.foldl_map]
theorem und_mem {l : List Fil} {dir : List UInt8} {g : Fil} : g ∈ undT l dir ↔ ∃ f ∈ l, insT dir f.path = true ∧ cutF dir f = g := by
  unfold undT
  simp only [List.mem_map, List.mem_filter]
  constructor
  · rintro ⟨f, ⟨h1, h2⟩, h3⟩; exact ⟨f, h1, h2, h3⟩
  · rintro ⟨f, h1, h2, h3⟩; exact ⟨f, ⟨h1, h2⟩, h3⟩
theorem drop_dir (dir x : List UInt8) : (dir ++ [47] ++ x).drop (dir.length + 1) = x := by
  have e : dir.length + 1 = (dir ++ [47]).length := by simp
  rw [e, List.drop_left]
theorem ins_cut {dir p : List UInt8} (h : insT dir p = true) : p = dir ++ [47] ++ p.drop (dir.length + 1) := by
  unfold insT at h
  rw [List.isPrefixOf_iff_prefix] at h
  obtain ⟨x, rfl⟩ := h
  rw [drop_dir]
theorem ins_mk (dir x : List UInt8) : insT dir (dir ++ [47] ++ x) = true := by
  unfold insT; rw [List.isPrefixOf_iff_prefix]; exact ⟨x, rfl⟩
theorem rel_grp {l : List Fil} {dir n : List UInt8} (hn : n.count 47 = 0) (hn0 : n ≠ []) (hne : ∀ f ∈ relT l dir, f.path ≠ n) : relT l (pathT dir n) = grT (relT l dir) n := by
  have hp0 : pathT dir n ≠ [] := by unfold pathT; split; exact hn0; simp
  rw [relT, if_neg hp0]
  by_cases hd : dir = []
  · subst hd
    have e1 : relT l [] = l := if_pos rfl
    rw [e1] at hne ⊢
    rw [pathT, if_pos rfl]
    unfold undT grT
    have hf : l.filter (fun f => insT n f.path) = l.filter (fun f => fstT f.path == n) := by
      apply List.filter_congr
      intro f hf
      rw [Bool.eq_iff_iff]
      simp only [beq_iff_eq]
      constructor
      · intro h; exact ins_fst hn h
      · intro h
        rcases fst_ins h with h1 | h1
        · exact absurd h1 (hne f hf)
        · exact h1
    rw [hf]
    apply List.map_congr_left
    intro f hf
    obtain ⟨hf1, hf2⟩ := List.mem_filter.1 hf
    have hf2 : fstT f.path = n := by simpa using hf2
    rcases fst_ins hf2 with h1 | h1
    · exact absurd h1 (hne f hf1)
    · unfold cutF stp
      have e := ins_cut h1
      have e2 : rstT f.path = f.path.drop (n.length + 1) := by
        conv => lhs; rw [e, List.append_assoc]
        exact (fst_of hn).2
      rw [e2]
  · have e1 : relT l dir = undT l dir := if_neg hd
    rw [e1] at hne ⊢
    rw [pathT, if_neg hd]
    unfold undT grT
    rw [List.filter_map, List.map_map, List.filter_filter]
    have key : ∀ f ∈ l, insT (dir ++ [47] ++ n) f.path = true → insT dir f.path = true ∧ fstT (f.path.drop (dir.length + 1)) = n ∧ rstT (f.path.drop (dir.length + 1)) = f.path.drop ((dir ++ [47] ++ n).length + 1) := by
      intro f hf h
      have e := ins_cut h
      generalize f.path.drop ((dir ++ [47] ++ n).length + 1) = x at e
      have e2 : f.path = dir ++ [47] ++ (n ++ 47 :: x) := by rw [e]; simp
      have e3 : f.path.drop (dir.length + 1) = n ++ 47 :: x := by rw [e2, drop_dir]
      rw [e3]
      exact ⟨by rw [e2]; exact ins_mk _ _, (fst_of hn).1, (fst_of hn).2⟩
    have hf : l.filter (fun f => insT (dir ++ [47] ++ n) f.path) = l.filter (fun a => insT dir a.path && ((fun f => fstT f.path == n) ∘ cutF dir) a) := by
      apply List.filter_congr
      intro f hf
      rw [Bool.eq_iff_iff]
      simp only [Bool.and_eq_true, Function.comp, beq_iff_eq]
      constructor
      · intro h
        have := key f hf h
        exact ⟨this.1, this.2.1⟩
      · rintro ⟨h1, h2⟩
        have h2 : fstT (f.path.drop (dir.length + 1)) = n := h2
        have hm : cutF dir f ∈ undT l dir := und_mem.2 ⟨f, hf, h1, rfl⟩
        rcases fst_ins h2 with h3 | h3
        · exact absurd h3 (hne _ hm)
        · have e := ins_cut h1
          have e4 := ins_cut h3
          rw [e, e4, show dir ++ [47] ++ (n ++ [47] ++ (f.path.drop (dir.length + 1)).drop (n.length + 1)) = (dir ++ [47] ++ n) ++ [47] ++ (f.path.drop (dir.length + 1)).drop (n.length + 1) by simp]
          exact ins_mk _ _
    have hf' : l.filter (fun a => ((fun f => fstT f.path == n) ∘ cutF dir) a && insT dir a.path) = l.filter (fun f => insT (dir ++ [47] ++ n) f.path) := by
      rw [hf]
      apply List.filter_congr
      intro f _; rw [Bool.and_comm]
    first | rw [hf'] | rw [← hf]
    apply List.map_congr_left
    intro f hf
    obtain ⟨hf1, hf2⟩ := List.mem_filter.1 hf
    have := (key f hf1 hf2).2.2
    unfold cutF
    show _ = stp ⟨f.path.drop (dir.length + 1), f.text, f.run⟩
    unfold stp
    rw [this]
theorem rel_file {l : List Fil} {dir n : List UInt8} {f : Fil} (hn : n ≠ []) : (∃ g ∈ relT l dir, g.path = n ∧ g.text = f.text ∧ g.run = f.run) ↔ ∃ g ∈ l, g.path = pathT dir n ∧ g.text = f.text ∧ g.run = f.run := by
  unfold relT pathT
  by_cases hd : dir = []
  · rw [if_pos hd, if_pos hd]
  · rw [if_neg hd, if_neg hd]
    constructor
    · rintro ⟨g, hg, h1, h2, h3⟩
      obtain ⟨f', hf', hi, rfl⟩ := und_mem.1 hg
      refine ⟨f', hf', ?_, h2, h3⟩
      have h1 : f'.path.drop (dir.length + 1) = n := h1
      rw [← h1]; exact ins_cut hi
    · rintro ⟨g, hg, h1, h2, h3⟩
      refine ⟨cutF dir g, und_mem.2 ⟨g, hg, by rw [h1]; exact ins_mk _ _, rfl⟩, ?_, h2, h3⟩
      show g.path.drop (dir.length + 1) = n
      rw [h1, drop_dir]
theorem rel_step {l : List Fil} {i : Nat} (h : i < l.length) (dir : List UInt8) : relT (l.take (i + 1)) dir = relT (l.take i) dir ++ (if dir = [] then [l[i]] else if insT dir l[i].path = true then [cutF dir l[i]] else []) := by
  unfold relT
  by_cases hd : dir = []
  · rw [if_pos hd, if_pos hd, if_pos hd, List.take_succ_eq_append_getElem h]
  · rw [if_neg hd, if_neg hd, if_neg hd]; exact und_step h dir
end Go.Proofs.YtjkeekbfgnmngaaGreatDoor
end
section
set_option linter.unusedVariables false
set_option linter.unusedSimpArgs false
namespace Go.Ab
open Go
structure KeyLaw {α : Type} [DecidableEq α] (cx : Cx) (kt : TypeId) (key : α → AV) : Prop where
  check : ∀ (e : Bool) (r : Rl) (w : World) (v : Value) (a : α), VRel r w v (key a) → (Instr.checkKey e 10000 kt v).run cx.P w = .ok () w
  equal : ∀ (r : Rl) (w : World) (u v : Value) (a b : α), VRel r w u (key a) → VRel r w v (key b) → (Op.equal kt u v).run cx.P w = .ok (decide (a = b)) w
  bits : ∀ (r : Rl) (w : World) (u v : Value) (a : α), VRel r w u (key a) → VRel r w v (key a) → Instr.sameBits 10000 u v = true
  slow : ∃ d, cx.P.underlying kt = some d ∧ ∀ k e l i, Instr.findNow d k (e :: l) i = none
def fieldsFit (P : Program) : List Field → List AV → Bool
  | [], _ => true
  | f :: fs, xs => match aLoad P f.type (xs.drop f.offset) with
    | some y => keyFits P f.type y && fieldsFit P fs xs
    | none => false
theorem checkKey_one {P : Program} {w : World} {k : TypeId} {key : Value} {r : Rl} {a : AV} (e : Bool) (d : Nat) (h : keyFits P k a = true) (ha : VRel r w key a) : (Instr.checkKey e (d + 1) k key).run P w = .ok () w := by
  obtain ⟨q, hu, hd⟩ := keyFits_spec h
  unfold Instr.checkKey
  rcases hd with ⟨rfl, s, rfl⟩ | ⟨j, rfl, n, m, rfl⟩ | ⟨rfl, x, rfl⟩ <;> cases ha <;> simp [run_underlying hu]
theorem checkKey_struct {P : Program} {w : World} {k : TypeId} {v : Value} {r : Rl} {az : List AV} {fs : Array Field} (e : Bool) (hu : P.underlying k = some (.struct fs)) (hf : fieldsFit P fs.toList az = true) (ha : VRel r w v (.agg az)) : (Instr.checkKey e 10000 k v).run P w = .ok () w := by
  have hva : ∃ xs, v = .agg xs := by cases ha; exact ⟨_, rfl⟩
  obtain ⟨xs, rfl⟩ := hva
  show (Instr.checkKey e (9998 + 1 + 1) k (.agg xs)).run P w = _
  rw [Instr.checkKey]
  simp only [Sem.run_bind, run_underlying hu, Result.andThen_ok]
  rw [← Array.forIn_toList]
  generalize fs.toList = L at hf
  induction L with
  | nil => simp
  | cons f L ih =>
    rw [fieldsFit] at hf
    split at hf
    case h_2 => cases hf
    rename_i y hy
    rw [Bool.and_eq_true] at hf
    obtain ⟨z, p1, p2⟩ := part_run ha hy
    have p3 := checkKey_one e 9998 hf.1 p2
    by_cases hn : f.name = "_"
    · simp only [List.forIn_cons, Sem.run_bind, hn, ne_eq, not_true_eq_false, if_false, Result.andThen_ok, Sem.run_pure]
      exact ih hf.2
    · simp only [List.forIn_cons, Sem.run_bind, hn, ne_eq, not_false_eq_true, if_true, Result.andThen_ok, p1, p3, Sem.run_pure]
      exact ih hf.2
theorem equal_struct {P : Program} {w : World} {t : TypeId} {u v : Value} {r : Rl} {az bs : List AV} {fs : Array Field} {b : Bool} (ht : P.underlying t = some (.struct fs)) (hc : cmpOk P t = true) (hb : eqFs P fs.toList az bs = some b) (hx : VRel r w u (.agg az)) (hy : VRel r w v (.agg bs)) :
    (Op.equal t u v).run P w = .ok b w := by
  have hxa : ∃ xs, u = .agg xs := by cases hx; exact ⟨_, rfl⟩
  have hya : ∃ xs, v = .agg xs := by cases hy; exact ⟨_, rfl⟩
  obtain ⟨xs, rfl⟩ := hxa
  obtain ⟨ys, rfl⟩ := hya
  have hfo : P.fieldsOf t = fs := by simp [Program.fieldsOf, ht]
  unfold cmpOk at hc
  rw [ht] at hc
  simp only [Bool.and_eq_true, Bool.not_eq_true', List.all_eq_true, bne_iff_ne] at hc
  show (Op.equalIn (9998 + 1 + 1) t _ _).run P w = _
  rw [run_equalIn_struct w (9998 + 1) t xs ys (by rw [hfo]; exact ht) hc.1.1, hfo]
  exact eqFs_run 9998 hx hy fs.toList hb hc.2
def plainA : AV → Bool
  | .str _ => true
  | .int _ _ => true
  | .bool _ => true
  | _ => false
theorem bits_one {r : Rl} {w : World} {u v : Value} {a : AV} (d : Nat) (h : plainA a = true) (hu : VRel r w u a) (hv : VRel r w v a) : Instr.sameBits d u v = true := by
  cases a <;> first | cases h | skip
  · cases hu; cases hv; unfold Instr.sameBits; simp
  · cases hu; cases hv; unfold Instr.sameBits; simp
  · cases hu with
    | str h1 =>
      cases hv with
      | str h2 =>
        unfold Instr.sameBits
        exact (MapKept.bytes_beq _ _).2 (ByteArray.ext (Array.toList_inj.1 (h1.trans h2.symm)))
theorem bits_struct {r : Rl} {w : World} {u v : Value} {az : List AV} (h : az.all plainA = true) (hu : VRel r w u (.agg az)) (hv : VRel r w v (.agg az)) : Instr.sameBits 10000 u v = true := by
  cases hu with
  | agg hn h1 =>
    cases hv with
    | agg hm h2 =>
      rename_i xs ys
      unfold Instr.sameBits
      rw [Bool.and_eq_true]
      refine ⟨by simp [hn, hm], ?_⟩
      rw [List.all_eq_true]
      rintro ⟨x, y⟩ hxy
      obtain ⟨i, hi, e⟩ := List.getElem_of_mem hxy
      rw [List.length_zip, Array.length_toList, Array.length_toList] at hi
      rw [List.getElem_zip] at e
      have hia : i < az.length := by omega
      have k1 := h1 i hia
      have k2 := h2 i hia
      have e1 : xs.getD i undef = x := by
        rw [Array.getD_eq_getD_getElem?, Array.getElem?_eq_getElem (by omega)]
        exact (congrArg Prod.fst e)
      have e2 : ys.getD i undef = y := by
        rw [Array.getD_eq_getD_getElem?, Array.getElem?_eq_getElem (by omega)]
        exact (congrArg Prod.snd e)
      rw [e1] at k1; rw [e2] at k2
      exact bits_one _ (List.all_eq_true.1 h _ (List.getElem_mem hia)) k1 k2
theorem KeyLaw.struct {α : Type} [DecidableEq α] {cx : Cx} {kt : TypeId} {fs : Array Field} {parts : α → List AV} (hu : cx.P.underlying kt = some (.struct fs)) (hc : cmpOk cx.P kt = true) (hf : ∀ a, fieldsFit cx.P fs.toList (parts a) = true) (hp : ∀ a, (parts a).all plainA = true)
    (he : ∀ a b, eqFs cx.P fs.toList (parts a) (parts b) = some (decide (a = b))) : KeyLaw cx kt (fun a => .agg (parts a)) where
  check := fun e r w v a h => checkKey_struct e hu (hf a) h
  equal := fun r w u v a b h1 h2 => equal_struct hu hc (he a b) h1 h2
  bits := fun r w u v a h1 h2 => bits_struct (hp a) h1 h2
  slow := ⟨_, hu, fun k e l i => rfl⟩
section
variable {α : Type} [DecidableEq α]
def mapG (key : α → AV) (ks : List α) (val : α → AV) : List (AV × AV) := ks.map fun k => (key k, val k)
theorem KeyLaw.find {cx : Cx} {kt : TypeId} {key : α → AV} (L : KeyLaw cx kt key) {r : Rl} {w : World} {a : α} {k : Value} (hk : VRel r w k (key a)) : ∀ (es : List MapEntry) (ks : List α) (i : Nat), es.length = ks.length → (∀ j (h : j < ks.length), ∃ e, es[j]? = some e ∧ VRel r w e.key (key ks[j])) →
    (a ∉ ks ∧ (Instr.findAsking kt k es i).run cx.P w = .ok none w) ∨ (a ∈ ks ∧ ∃ e, es[ks.idxOf a]? = some e ∧ (Instr.findAsking kt k es i).run cx.P w = .ok (some (i + ks.idxOf a, e.val)) w)
  | [], [], i, _, _ => .inl ⟨by simp, by simp [Instr.findAsking]⟩
  | [], _ :: _, _, hl, _ => by simp at hl
  | _ :: _, [], _, hl, _ => by simp at hl
  | e :: es, x :: ks, i, hl, hr => by
    obtain ⟨e0, q1, q2⟩ := hr 0 (by simp)
    simp only [List.getElem?_cons_zero, Option.some.injEq, List.getElem_cons_zero] at q1 q2
    subst q1
    have heq := L.equal r w k e.key a x hk q2
    by_cases hax : a = x
    · subst hax
      refine .inr ⟨by simp, e, by simp, ?_⟩
      rw [decide_eq_true rfl] at heq
      rw [Instr.findAsking]
      simp only [Sem.run_bind, heq, Result.andThen_ok, if_true, Sem.run_pure, List.idxOf_cons_self, Nat.add_zero]
    · rw [decide_eq_false hax] at heq
      have hf : (Instr.findAsking kt k (e :: es) i).run cx.P w = (Instr.findAsking kt k es (i + 1)).run cx.P w := by
        conv => lhs; rw [Instr.findAsking]
        simp [heq]
      have hx : (x == a) = false := by simpa using Ne.symm hax
      rcases KeyLaw.find L hk es ks (i + 1) (by simpa using hl) (fun j hj => by
        obtain ⟨e', m1, m2⟩ := hr (j + 1) (by simp; omega)
        exact ⟨e', by simpa using m1, by simpa using m2⟩) with ⟨h1, h2⟩ | ⟨h1, e', h2, h3⟩
      · exact .inl ⟨by simp [hax, h1], by rw [hf]; exact h2⟩
      · refine .inr ⟨List.mem_cons_of_mem _ h1, e', ?_, ?_⟩
        · rw [List.idxOf_cons, hx]; simpa using h2
        · rw [hf, h3, List.idxOf_cons, hx]
          simp only [cond_false]
          rw [show i + 1 + ks.idxOf a = i + (ks.idxOf a + 1) by omega]
theorem KeyLaw.findKey {cx : Cx} {kt : TypeId} {key : α → AV} (L : KeyLaw cx kt key) {r : Rl} {w : World} {a : α} {k : Value} (hk : VRel r w k (key a)) {es : Array MapEntry} {clock : Nat} {ks : List α} {val : α → AV} {st : Option (List Nat × Nat)} (hm : MapIs r w es clock (mapG key ks val) st) :
    (a ∉ ks ∧ (Instr.findKey kt k es.toList).run cx.P w = .ok none w) ∨ (a ∈ ks ∧ ∃ e, es[ks.idxOf a]? = some e ∧ VRel r w e.val (val a) ∧ VRel r w e.key (key a) ∧ (Instr.findKey kt k es.toList).run cx.P w = .ok (some (ks.idxOf a, e.val)) w) := by
  have hlen : (mapG key ks val).length = ks.length := by simp [mapG]
  have hat : ∀ j (h : j < ks.length), ∃ e, es[j]? = some e ∧ VRel r w e.key (key ks[j]) ∧ VRel r w e.val (val ks[j]) := by
    intro j hj
    obtain ⟨e, h1, h2, h3⟩ := hm.2.1 j (by omega)
    refine ⟨e, h1, ?_, ?_⟩
    · simpa [mapG] using h2
    · simpa [mapG] using h3
  obtain ⟨d, hd, hs⟩ := L.slow
  have h := L.find hk es.toList ks 0 (by rw [Array.length_toList, hm.1, hlen]) (fun j hj => by
    obtain ⟨e, h1, h2, _⟩ := hat j hj
    exact ⟨e, by rw [Array.getElem?_toList]; exact h1, h2⟩)
  have hfk : (Instr.findKey kt k es.toList).run cx.P w = (Instr.findAsking kt k es.toList 0).run cx.P w := by
    unfold Instr.findKey
    cases hes : es.toList with
    | nil => simp [run_underlying hd, Instr.findNow, Instr.findAsking]
    | cons e l => simp [run_underlying hd, hs]
  rw [hfk]
  rcases h with h | ⟨h1, e, h2, h3⟩
  · exact .inl h
  · refine .inr ⟨h1, e, by rw [← Array.getElem?_toList]; exact h2, ?_, ?_, by rw [h3, Nat.zero_add]⟩
    · obtain ⟨e', m1, m2, m3⟩ := hat _ (List.idxOf_lt_length_of_mem h1)
      rw [Array.getElem?_toList, m1] at h2
      obtain rfl := Option.some.inj h2
      rw [List.getElem_idxOf] at m3; exact m3
    · obtain ⟨e', m1, m2, m3⟩ := hat _ (List.idxOf_lt_length_of_mem h1)
      rw [Array.getElem?_toList, m1] at h2
      obtain rfl := Option.some.inj h2
      rw [List.getElem_idxOf] at m2; exact m2
variable {cx : Cx} {n : Nat} {fr : Fr} {σ : Heap}
end
end Go.Ab
end
section
set_option linter.unusedVariables false
set_option linter.unusedSimpArgs false
set_option maxRecDepth 20000
set_option maxHeartbeats 4000000
namespace Go.Proofs.YtjkeekbfgnmngaaGreatDoor
open Go Go.Ab
def RawD (x : List (List UInt8)) (e : Nat) (o : Out) (s : Heap) : Prop :=
  (e ≠ 0 ∧ o = .ret (.tup [.nils, .int .i64 (e : Nat)])) ∨ (e = 0 ∧ x = [] ∧ o = .ret (.tup [.sl true false 1 [], .int .i64 0])) ∨ (e = 0 ∧ ∃ id ver, o = .ret (.tup [.ms id ver 0 x.length 1 false, .int .i64 0]) ∧ s[id]? = some (ver, some (.cells (x.map AV.str) ⟨false, none⟩)))
end Go.Proofs.YtjkeekbfgnmngaaGreatDoor
end
section
set_option linter.unusedVariables false
set_option linter.unusedSimpArgs false
set_option maxRecDepth 20000
set_option maxHeartbeats 2000000
namespace Go.Proofs.YtjkeekbfgnmngaaGreatDoor
open Go Go.Ab
theorem Proof_raw {st fl : Bool} (l : List (List UInt8)) (i : Int) (hl : l.length ≤ 1048576) : CallOk cx 16 [.sl st fl 1 (texts l), .int .i64 i] [] (RawD (proofV l i) (proofE l i)) :=
  callOk_intro (fun a w => Tryz.call16 a w) Tryz.func16 rfl Tryz.ntmps16 rfl fun B => by
    have htl := texts_len l
    have lend : ∀ σ : Heap, Frz false σ (.sl st fl 1 (texts l)) (.sl st fl 1 (texts l)) := fun σ => .refl (.sl (fun h => by cases h) (texts_any l))
    refine ab 1000 rfl trivial ?_
    refine S_pure rfl rfl rfl (check_ok (st := st) (fl := fl) l (by omega)) (.cons (lend _) (.nil _)) ?_
    refine ab 1000 rfl trivial ?_
    refine S_bne rfl (fun h => ?_) (fun h => ?_)
    · have h : checkL l 2000 ≠ 0 := by have : ((checkL l 2000 : Nat) : Int) ≠ 0 := h; omega
      have hE : proofE l i = checkL l 2000 := by rw [proofE, if_pos h]
      refine ab 1000 rfl trivial ?_
      exact S_ret ⟨_, _, rfl, trivial, .inl ⟨by rw [hE]; exact h, by rw [hE]; rfl⟩⟩
    have h : checkL l 2000 = 0 := by have : ((checkL l 2000 : Nat) : Int) = 0 := h; omega
    have hf := checkL_fit h
    refine ab 1000 rfl trivial ?_
    have yes3 : i < 0 ∨ (l.length : Int) ≤ i → proofE l i = 3 := fun h3 => by rw [proofE, if_neg (by omega), if_pos h3]
    refine S_guard rfl rfl rfl rfl (fun h2 => ?_) (fun h2 => ?_)
    · have h2 : i < 0 := of_decide_eq_true h2
      refine ab 1000 rfl trivial ?_
      refine S_cond (b := true) rfl (fun _ => ?_) (fun h => by cases h)
      refine ab 1000 rfl trivial ?_
      exact S_ret ⟨_, _, rfl, trivial, .inl ⟨by rw [yes3 (.inl h2)]; decide, by rw [yes3 (.inl h2)]; rfl⟩⟩
    have h2 : ¬ i < 0 := of_decide_eq_false h2
    refine ab 1000 rfl trivial ?_
    refine S_dec rfl (fun h3 => ?_) (fun h3 => ?_)
    · have h3 : (l.length : Int) ≤ i := by have : (((texts l).length : Nat) : Int) ≤ i := h3; omega
      refine ab 1000 rfl trivial ?_
      exact S_ret ⟨_, _, rfl, trivial, .inl ⟨by rw [yes3 (.inr h3)]; decide, by rw [yes3 (.inr h3)]; rfl⟩⟩
    have h3 : ¬ (l.length : Int) ≤ i := by have : ¬ (((texts l).length : Nat) : Int) ≤ i := h3; omega
    have hE : proofE l i = 0 := by rw [proofE, if_neg (by omega), if_neg (by omega)]
    obtain ⟨i', rfl⟩ := Int.eq_ofNat_of_zero_le (show 0 ≤ i by omega)
    have hlen := hf.len
    refine ab 1000 rfl trivial ?_
    obtain ⟨q, hq⟩ : ∃ q, q = proofL l i' := ⟨_, rfl⟩
    have hP := proof_ok l.length (st := st) (fl := fl) l i' rfl (by omega) (by omega) hf
    have hV : proofV l (i' : Int) = q := by rw [proofV, hE, if_pos rfl, Int.toNat_natCast, hq]
    rw [← hq] at hP
    rw [hV, hE]
    refine S_callf [] hP rfl (.cons (.free (.sl (fun h => by cases h) (texts_any l))) (.cons (.free .int) (.nil _))) (Part.mk' (es := []) rfl rfl (.nil _)) rfl rfl ?_ ?_
    · intro y σ1 h
      obtain ⟨h1, rfl⟩ := h
      cases h1
      refine ⟨.ms 0 q.length 0 q.length 1 false, [(q.length, some (.cells (texts q) ⟨false, none⟩))], .cons (.live (.cells (Rns.free (texts_any q)))) (.nil _), .ms rfl, ?_⟩
      show S cx _ _ _ _ _ [(q.length, some (Box.cells (texts q) ⟨false, none⟩))]
      refine ab 1000 rfl trivial ?_
      exact S_ret ⟨_, _, rfl, trivial, .inr (.inr ⟨rfl, 0, q.length, rfl, rfl⟩)⟩
    · intro y σ1 h
      cases h.1
theorem Blobs_raw {st fl : Bool} (l : List Fil) (hl : FilsOk l) : CallOk cx 17 [.sl st fl 3 (fils l)] [] (RawD (blobT l) (chkT l)) :=
  callOk_intro (fun a w => Tryz.call17 a w) Tryz.func17 rfl Tryz.ntmps17 rfl fun B => by
    have hC := Check_ok (st := st) (fl := fl) l hl
    by_cases h : chkT l = 0
    · rw [h] at hC
      rw [h]
      have hd := DirOk.of h
      have hp := packed_ok (st := st) (fl := fl) 100 0 [] l hd .nil
      have hfn := foldU_nodup (ts := (dirT 101 l).2) (bs := []) .nil
      have hks : (addU ((dirT 101 l).2.foldl addU []) (dirT 101 l).1).Nodup := addU_nodup hfn
      have hne : addU ((dirT 101 l).2.foldl addU []) (dirT 101 l).1 ≠ [] := fun e => by have := (addU_mem (x := (dirT 101 l).1) (l := (dirT 101 l).2.foldl addU []) (s := (dirT 101 l).1)).2 (.inr rfl); rw [e] at this; cases this
      have hlen : (addU ((dirT 101 l).2.foldl addU []) (dirT 101 l).1).length ≤ 1000000000 := by
        have h1 := blb_count hd
        have h2 := addU_fold_len (fun t : List UInt8 => t) (dirT 101 l).2 []
        have h2 : ((dirT 101 l).2.foldl addU []).length ≤ 0 + (dirT 101 l).2.length := h2
        have h3 : (addU ((dirT 101 l).2.foldl addU []) (dirT 101 l).1).length ≤ ((dirT 101 l).2.foldl addU []).length + 1 := by unfold addU; split <;> simp
        have h4 := hd.len
        have h5 : l.length * 101 ≤ 60 * 101 := Nat.mul_le_mul_right _ h4
        omega
      have hsz : ∀ x ∈ addU ((dirT 101 l).2.foldl addU []) (dirT 101 l).1, x.length ≤ 1000000000 := by
        intro x hx
        rcases addU_mem.1 hx with hx | rfl
        · have hx := (addU_fold_mem (fun t : List UInt8 => t) (dirT 101 l).2 []).1 hx
          rcases hx with hx | ⟨t, ht, rfl⟩
          · cases hx
          · have := blb_len hd t ht; show t.length ≤ _; omega
        · have := dir_len hd; omega
      refine pa [.v (.int .i64 ((0 : Nat) : Int)), .b false, .f (.map 0 0) (fun _ => [(0, some (.map [] (some ([], 0))))]), .s] rfl ?_ ?_
      · (repeat' with_reducible apply AllP_cons) <;> try exact aC
        · exact ⟨_, hC, .cons (.refl (.sl (fun h => by cases h) (fils_free l))) (.nil _)⟩
        · exact OpSpec.mapN (C := []) rfl trivial
      refine S_unstamp (id := 0) rfl ?_ ⟨.skip, _, .inr ⟨_, _, _, rfl⟩⟩
      refine pa [.f (.str (dirT 101 l).1) (fun _ => [(0, bxB ((dirT 101 l).2.foldl addU []))]), .f (.tup []) (fun _ => [(0, bxB (addU ((dirT 101 l).2.foldl addU []) (dirT 101 l).1))]),
        .f (.func (.func 75) [] [.ptr 1 0 0]) (fun _ => [(0, bxB (addU ((dirT 101 l).2.foldl addU []) (dirT 101 l).1)), (0, some (.cells [.map 0 0] ⟨false, some 66⟩))]), .f (.ms 2 0 0 (blobT l).length 1 false) (fun σ => [(0, bxB (addU ((dirT 101 l).2.foldl addU []) (dirT 101 l).1)), (0, some (.cells [.map 0 0] ⟨false, some 66⟩)), (0, some (.cells ((blobT l).map AV.str) ⟨false, none⟩))])] rfl ?_ ?_
      · (repeat' with_reducible apply AllP_cons) <;> try exact aC
        · exact OpSpec.mput (kt := 9) (et := 4) (ks := (dirT 101 l).2.foldl addU []) (val := fun _ => .bool true) (s := (dirT 101 l).1) rfl (Tryz.underlying66) rfl rfl rfl rfl rfl hfn (putH _ _ _)
        · exact KeysB_ok rfl
        · exact SortedB_raw (ks := addU ((dirT 101 l).2.foldl addU []) (dirT 101 l).1) (val := fun _ => .bool true) rfl rfl hks hne hlen hsz
      exact S_ret ⟨_, _, rfl, trivial, .inr (.inr ⟨rfl, 2, 0, rfl, rfl⟩)⟩
    · refine pa [.v (.int .i64 (chkT l : Nat)), .b true] rfl ?_ ?_
      · (repeat' with_reducible apply AllP_cons) <;> try exact aC
        · exact ⟨_, hC, .cons (.refl (.sl (fun h => by cases h) (fils_free l))) (.nil _)⟩
        · show ((((chkT l : Nat) : Int)) != 0) = true
          rw [chk_bne]; simpa using h
      exact S_ret ⟨_, _, rfl, trivial, .inl ⟨h, rfl⟩⟩
end Go.Proofs.YtjkeekbfgnmngaaGreatDoor
end
section
set_option linter.unusedVariables false
set_option linter.unusedSimpArgs false
set_option maxRecDepth 20000
namespace Go.Proofs.YtjkeekbfgnmngaaGreatDoor
open Go Go.Ab
theorem gPow : Tryz.prog.globalNamed "internal/strconv.uint64pow10" = some 7 := by kernel_rfl
theorem pow10_whole : (Lib.pow10Tab.map fun z => Value.int .u64 z).toArray = pow10V := by unfold Lib.pow10Tab pow10V; rw [List.map_map]; rfl
end Go.Proofs.YtjkeekbfgnmngaaGreatDoor
end
section
set_option linter.unusedVariables false
set_option linter.unusedSimpArgs false
namespace Go.Ab
open Go
def MethP (P : Program) (T : TypeId) (name : String) (f : FuncId) : Prop := ∀ v w, (method (P.types.size + Made.depth) T v name).run P w = .ok (f, v) w
def MethL (P : Program) (T : TypeId) (name : String) (f : FuncId) (el : TypeId) : Prop := ∀ a w, (method (P.types.size + Made.depth) T (.pointer (some a)) name).run P w = ((loadVar el a).run P w).andThen fun x w' => .ok (f, x) w'
inductive Recv (cx : Cx) (σ : Heap) (T : TypeId) (name : String) (f : FuncId) : AV → AV → Prop
  | val {v} (h : MethP cx.P T name f) : Recv cx σ T name f v v
  | load {id ver off : Nat} {cs : List AV} {g : Tag} {el : TypeId} {x : AV} (h : MethL cx.P T name f el) (hb : boxAt σ id = some (ver, cs, g)) (hl : aLoad cx.P el (cs.drop off) = some x) : Recv cx σ T name f (.ptr id ver off) x
theorem Recv.run {cx : Cx} {r : Rl} {σ : Heap} {w : World} {T : TypeId} {name : String} {f : FuncId} {v x : AV} {z : Value} (hi : Inv cx r σ w) (h : Recv cx σ T name f v x) (hz : VRel r w z v) :
    ∃ u, (method (cx.P.types.size + Made.depth) T z name).run cx.P w = .ok (f, u) w ∧ VRel r w u x := by
  cases h with
  | val h => exact ⟨z, h z w, hz⟩
  | load h hb hl =>
    cases hz with
    | ptr hρ =>
      rename_i b' o _ _ _
      obtain ⟨v', h1, h2⟩ := aLoad_run (P := cx.P) ((hi.cells hb rfl hρ).cells'.drop _) hl
      exact ⟨v', by rw [h]; rw [h1]; rfl, h2⟩
section
variable {cx : Cx} {n : Nat} {B : Bs} {k : List AI} {Q : Post} {fr : Fr} {σ : Heap}
theorem OpSpec.store {o : Oper} {C : List Prop} {σ' : Heap} (h : storeA cx fr σ o.op = some (C, σ')) (hC : AllP C) : OpSpec cx n fr σ o (.tup []) σ' := by
  intro r a w hi hf
  have he : ∀ x, VRel r w (a.eval x) (ev cx fr x) := fun x => ev_rel hi hf x
  obtain ⟨dst, op, ty, pos, aft, guard⟩ := o
  simp only at h
  unfold storeA at h
  split at h
  case h_2 => cases h
  rename_i t s x
  have hs := he s
  have hx := he x
  split at h
  case h_2 => cases h
  rename_i m hm
  split at h
  case h_3 => cases h
  all_goals
    rename_i id ver off hse
    rw [hse] at hs
    split at h
    case h_2 => cases h
    rename_i cur cs hσ
    simp only [Option.some.injEq, Prod.mk.injEq] at h; obtain ⟨rfl, rfl⟩ := h
    obtain ⟨h1, h2, h3, h4, _⟩ := hC
    unfold execOp
    try simp only
    generalize hz : a.eval s = z at hs
    cases hs
    rename_i b o' hρ
    obtain ⟨w', r', k1, k2, k3⟩ := store_main hi hm hσ h3 h4 h1 (allOne_mem h2) hx hρ
    refine ⟨r', w', undef, .inr ⟨?_, rfl⟩, .tup rfl (fun i h => absurd h (by simp)), k2, k3⟩
    simp [Instr.storeAt, Instr.sureAddr, k1]
end
end Go.Ab
end
section
set_option linter.unusedVariables false
set_option linter.unusedSimpArgs false
namespace Go.Ab
open Go
theorem CallOk.frame {cx : Cx} {f : FuncId} {args args' : List AV} {σ σs σs' es : Heap} {x x' : AV} (ids : List Nat) (h : CallOk cx f args σs (fun e s => e = .ret x ∧ s = σs')) (ha : Rns ids args args') (hp : Part ids σs σ)
    (hes : RnH (ids ++ newIds σ.length (es.length - ids.length)) σs' es) (hx : Rn (ids ++ newIds σ.length (es.length - ids.length)) x x') : CallOk cx f args' σ (fun e s => e = .ret x' ∧ s = putAll σ ids es) := by
  refine ⟨h.1, fun r w vs hi hv => ?_⟩
  have hsub := frame_down hi hp
  have hvs : VRels (r.sub ids) w vs args := by
    refine ⟨hv.1.trans ha.1.symm, fun i hi' => ?_⟩
    refine (ha.2 i hi' (by rw [← ha.1]; exact hi')).down (r := r) (r' := r.sub ids) (fun _ h => h) (fun _ h => h) hi.SI (fun i j ver p h1 h2 => ?_) (hv.2 i (by rw [← ha.1]; exact hi'))
    simp only [Rl.sub, h1]; exact h2
  refine (h.2 _ w vs hsub hvs).mono fun e w' ⟨out, σ1, r1, hRo, ho, hi1, hx1⟩ => ?_
  obtain ⟨rfl, rfl⟩ := hRo
  obtain ⟨q1, q2, q3⟩ := frame_up hi hp hi1 hx1 rfl hes
  cases e with
  | returned u => exact ⟨.ret x', _, _, ⟨rfl, rfl⟩, q3 _ _ _ hx ho, q1, q2⟩
  | panicked chain => exact ho.elim
  | outgrown => exact ho.elim
theorem CallOk.fresh {cx : Cx} {f : FuncId} {args : List AV} {σs es : Heap} {x x' : AV} (σ : Heap) (h : CallOk cx f args [] (fun e s => e = .ret x ∧ s = σs)) (ha : ∀ a ∈ args, Free false a) (hes : RnH (newIds σ.length es.length) σs es) (hx : Rn (newIds σ.length es.length) x x') :
    CallOk cx f args σ (fun e s => e = .ret x' ∧ s = σ ++ es) := by
  have := CallOk.frame (σ := σ) (es := es) [] h (Rns.free ha) ⟨List.nodup_nil, (fun j hj => by cases hj), rfl, (fun i j e hi => by simp at hi)⟩ (by simpa using hes) (x' := x') (by simpa using hx)
  simpa only [putAll] using this
end Go.Ab
end
section
set_option linter.unusedVariables false
set_option linter.unusedSimpArgs false
namespace Go.Ab
open Go
section
variable {cx : Cx} {n : Nat} {B : Bs} {k : List AI} {Q : Post} {fr : Fr} {σ : Heap}
def hp2 (σ σ1 σ2 : Heap) (j1 j2 : Nat) (listed : Array Bool) : Heap := bif listed.getD j2 false then σ2 else bif listed.getD j1 false then σ1 else σ
theorem OpSpec.aop {σ' : Heap} {o : Oper} {C : List Prop} {v : AV} (h : aOp cx [] o.dst o.op fr σ = some (C, v, σ')) (hC : AllP C) : OpSpec cx n fr σ o v σ' := fun r a w hi hf => aOp_run hi hf h hC
end
end Go.Ab
end
section
set_option linter.unusedVariables false
set_option linter.unusedSimpArgs false
namespace Go.Ab
open Go
section
variable {cx : Cx} {n : Nat} {B : Bs} {k : List AI} {Q : Post} {fr : Fr} {σ : Heap}
theorem firstDead_no : ∀ (σ : Heap) (k : Nat), (∀ e ∈ σ, ∃ x, e.2 = some x) → firstDead σ k = none
  | [], _, _ => rfl
  | (v, y) :: r, k, h => by
    obtain ⟨x, hx⟩ := h (v, y) (List.mem_cons_self ..)
    have hx : y = some x := hx
    subst hx
    exact firstDead_no r (k + 1) (fun e he => h e (List.mem_cons_of_mem _ he))
end
end Go.Ab
end
section
set_option linter.unusedVariables false
set_option linter.unusedSimpArgs false
namespace Go.Ab
open Go
section
variable {cx : Cx} {n : Nat} {B : Bs} {k : List AI} {Q : Post} {fr : Fr} {σ : Heap}
def Alive (σ : Heap) : Prop := ∀ e ∈ σ, ∃ x, e.2 = some x
theorem Alive.app {σ : Heap} (h : Alive σ) (v : Nat) (x : Box) : Alive (σ ++ [(v, some x)]) := fun e he => by
  rcases List.mem_append.1 he with he | he
  · exact h e he
  · rw [List.mem_singleton.1 he]; exact ⟨x, rfl⟩
theorem Alive.set {σ : Heap} (h : Alive σ) (i v : Nat) (x : Box) : Alive (σ.set i (v, some x)) := fun e he => by
  rcases List.mem_or_eq_of_mem_set he with he | he
  · exact h e he
  · rw [he]; exact ⟨x, rfl⟩
theorem Alive.alloc {σ : Heap} (h : Alive σ) (x : Box) : allocH σ x = (σ.length, 0, σ ++ [(0, some x)]) := by unfold allocH; rw [firstDead_no σ 0 h]
theorem OpSpec.loadP {o : Oper} {t : TypeId} {a : Operand} {m id ver off : Nat} {cs : List AV} {g : Tag} {x : AV} (ho : o.op = .load t a) (ha : aggT cx.P t = some false) (hm : szOf cx.P t = some m) (hea : ev cx fr a = .ptr id ver off)
    (hσ : σ[id]? = some (ver, some (.cells cs g))) (hx : (cs.drop off)[0]? = some x) : OpSpec cx n fr σ o x σ := by
  intro r ac w hi hf
  refine loadA_run (C := [ver = ver, (cs.drop off)[0]? = some x]) hi hf ?_ ⟨rfl, hx, trivial⟩
  rw [ho]
  simp only [loadA, ha, hm, hea, boxAt, hσ, loadA.loadC]
theorem OpSpec.loadPA {o : Oper} {t : TypeId} {a : Operand} {m id ver off : Nat} {cs : List AV} {g : Tag} {x : AV} (ho : o.op = .load t a) (ha : aggT cx.P t = some true) (hm : szOf cx.P t = some m) (hea : ev cx fr a = .ptr id ver off)
    (hσ : σ[id]? = some (ver, some (.cells cs g))) (hl : m ≤ (cs.drop off).length) (hx : x = .agg ((cs.drop off).take m)) : OpSpec cx n fr σ o x σ := by
  intro r ac w hi hf
  refine loadA_run (C := [ver = ver, m ≤ (cs.drop off).length, x = .agg ((cs.drop off).take m)]) hi hf ?_ ⟨rfl, hl, hx, trivial⟩
  rw [ho]
  simp only [loadA, ha, hm, hea, boxAt, hσ, loadA.loadC]
theorem OpSpec.storeP {o : Oper} {t : TypeId} {a x : Operand} {m id ver off : Nat} {cs : List AV} {gT : Option TypeId} {y : AV} {σ' : Heap} (ho : o.op = .store t a x) (hm : szOf cx.P t = some m) (hea : ev cx fr a = .ptr id ver off) (hx : ev cx fr x = y) (hyc : y.cells.length = m) (hy : allOne y.cells = true)
    (hσ : σ[id]? = some (ver, some (.cells cs ⟨false, gT⟩))) (hoff : off + m ≤ cs.length) (hσ' : σ' = σ.set id (ver, some (.cells (setRange cs off y.cells) ⟨false, gT⟩))) : OpSpec cx n fr σ o (.tup []) σ' := by
  subst hσ'
  refine OpSpec.store (C := [y.cells.length = m, allOne y.cells = true, ver = ver, off + m ≤ cs.length]) ?_ ⟨hyc, hy, rfl, hoff, trivial⟩
  rw [ho]
  simp only [storeA, hm, hea, hσ, hx]
theorem OpSpec.allocE {o : Oper} {e : TypeId} {z : List AV} {g : Option TypeId} (ho : o.op = .alloc e) (hz : zeroA cx.P e = some z) (h1 : allOne z = true) (hg : tyS cx.P e = g) (hσ : Alive σ) : OpSpec cx n fr σ o (.ptr σ.length 0 0) (σ ++ [(0, some (.cells z ⟨false, g⟩))]) := by
  refine OpSpec.aop (C := []) ?_ trivial
  rw [ho]
  simp only [aOp, hz, h1, cond_true, hg, hσ.alloc]
theorem OpSpec.boxE {o : Oper} {e : TypeId} {x : Operand} {y : AV} {g : Option TypeId} (ho : o.op = .box e x) (hx : ev cx fr x = y) (h1 : allOne y.cells = true) (hg : tyS cx.P e = g) (hσ : Alive σ) : OpSpec cx n fr σ o (.ptr σ.length 0 0) (σ ++ [(0, some (.cells y.cells ⟨false, g⟩))]) := by
  refine OpSpec.aop (C := []) ?_ trivial
  rw [ho]
  simp only [aOp, hx, h1, cond_true, hg, hσ.alloc]
end
end Go.Ab
end
section
set_option linter.unusedVariables false
set_option linter.unusedSimpArgs false
namespace Go.Ab
open Go
section
variable {cx : Cx} {n : Nat} {B : Bs} {k : List AI} {Q : Post} {fr : Fr} {σ : Heap}
theorem S_shareO {ι : Type} {all : Array Oper} {l : List Oper} {K : List Nat} {k' : List AI} (F : ι → Fr) (σ' : ι → Heap) (I : ι → Prop) (hm : (∀ i fr, I i → Weak fr (F i) → S cx n B (.ops all l K :: k') Q fr (σ' i)) → S cx n B k Q fr σ) (hk : ∀ i, I i → S cx n B (.ops all l K :: k') Q (F i) (σ' i)) : S cx n B k Q fr σ :=
  hm fun i _ hi hw => S_ops_weak hw (hk i hi)
end
end Go.Ab
end
section
set_option linter.unusedVariables false
set_option linter.unusedSimpArgs false
namespace Go.Ab
open Go
section
variable {cx : Cx} {n : Nat} {B : Bs} {k : List AI} {Q : Post} {fr : Fr} {σ : Heap}
theorem StepX.d {K : List Nat} {all : Array Oper} {o : Oper} {v : AV} (h : StepX cx n all σ σ K fr o v) : StepD cx n all σ K fr o v := by
  refine ⟨h.1, ?_⟩
  rcases h.2 with ⟨h1, h2, _⟩ | h1
  · exact .inl ⟨h1, h2⟩
  · exact .inr h1
end
end Go.Ab
end
section
set_option linter.unusedVariables false
set_option linter.unusedSimpArgs false
namespace Go.Ab
open Go
theorem AllP_app {C D : List Prop} (h : AllP C) (hd : AllP D) : AllP (C ++ D) := by
  induction C with
  | nil => exact hd
  | cons p r ih => exact ⟨h.1, ih h.2⟩
section
variable {cx : Cx} {n : Nat} {B : Bs} {k : List AI} {Q : Post} {fr : Fr} {σ : Heap}
theorem OpSpec.storeX {o : Oper} {t : TypeId} {a x : Operand} {m id ver off : Nat} {cs : List AV} {gT : Option TypeId} {y : AV} {σ' : Heap} (ho : o.op = .store t a x) (hm : szOf cx.P t = some m) (hea : ev cx fr a = .eptr id ver off) (hx : ev cx fr x = y) (hyc : y.cells.length = m) (hy : allOne y.cells = true)
    (hσ : σ[id]? = some (ver, some (.cells cs ⟨false, gT⟩))) (hoff : off + m ≤ cs.length) (hσ' : σ' = σ.set id (ver, some (.cells (setRange cs off y.cells) ⟨false, gT⟩))) : OpSpec cx n fr σ o (.tup []) σ' := by
  subst hσ'
  refine OpSpec.store (C := [y.cells.length = m, allOne y.cells = true, ver = ver, off + m ≤ cs.length]) ?_ ⟨hyc, hy, rfl, hoff, trivial⟩
  rw [ho]
  simp only [storeA, hm, hea, hσ, hx]
structure DelC (σ : Heap) (id ver i n : Nat) (cs : List AV) (sz : Nat) (id' ver' : Nat) (fl : Bool) (τ : Heap) : Prop where
  h : (i + 1 < n ∧ id' = σ.length ∧ ver' = 0 ∧ fl = false ∧ τ = [(0, some (.cells (cs.take (i * sz) ++ cs.drop ((i + 1) * sz)) ⟨false, none⟩))]) ∨ (i + 1 = n ∧ id' = id ∧ ver' = ver ∧ fl = true ∧ τ = [])
theorem DelC.place {σ τ : Heap} {id ver i n sz id' ver' : Nat} {cs : List AV} {fl : Bool} (h : DelC σ id ver i n cs sz id' ver' fl τ) : id' = id ∨ id' = σ.length := by
  rcases h.h with ⟨_, h1, _⟩ | ⟨_, h1, _⟩
  · exact .inr h1
  · exact .inl h1
theorem DelC.box {σ τ : Heap} {id ver i n sz id' ver' : Nat} {cs : List AV} {fl : Bool} (h : DelC σ id ver i n cs sz id' ver' fl τ) (hcs : cs.length = n * sz) (hσ : σ[id]? = some (ver, some (.cells cs ⟨false, none⟩))) :
    ∃ cs', (σ ++ τ)[id']? = some (ver', some (.cells cs' ⟨false, none⟩)) ∧ cs'.take ((n - 1) * sz) = cs.take (i * sz) ++ cs.drop ((i + 1) * sz) := by
  rcases h.h with ⟨hn, rfl, rfl, _, rfl⟩ | ⟨hn, rfl, rfl, _, rfl⟩
  · refine ⟨_, by simp, List.take_of_length_le ?_⟩
    rw [List.length_append, List.length_take, List.length_drop, hcs]
    have h1 : (i + 1) * sz + (n - (i + 1)) * sz = n * sz := by rw [← Nat.add_mul]; congr 1; omega
    have h2 : i * sz + (n - (i + 1)) * sz = (n - 1) * sz := by rw [← Nat.add_mul]; congr 1; omega
    have h3 : min (i * sz) (n * sz) ≤ i * sz := Nat.min_le_left ..
    omega
  · refine ⟨cs, by rw [List.append_nil]; exact hσ, ?_⟩
    subst hn
    rw [Nat.add_sub_cancel, List.drop_of_length_le (by omega), List.append_nil]
end
end Go.Ab
end
section
set_option linter.unusedVariables false
set_option linter.unusedSimpArgs false
namespace Go.Ab
open Go
theorem set_ne {σ : Heap} {i j : Nat} {x : Nat × Option Box} (h : i ≠ j) : (σ.set j x)[i]? = σ[i]? := by rw [List.getElem?_set, if_neg (Ne.symm h)]
theorem set_eq {σ : Heap} {j : Nat} {x y : Nat × Option Box} (h : σ[j]? = some y) : (σ.set j x)[j]? = some x := by
  have hi : j < σ.length := by
    rcases Nat.lt_or_ge j σ.length with h' | h'
    · exact h'
    · rw [List.getElem?_eq_none h'] at h; cases h
  simp [hi]
theorem lt_of_get {σ : Heap} {i : Nat} {y : Nat × Option Box} (h : σ[i]? = some y) : i < σ.length := by
  rcases Nat.lt_or_ge i σ.length with h' | h'
  · exact h'
  · rw [List.getElem?_eq_none h'] at h; cases h
theorem app_get {σ : Heap} {i : Nat} {y x : Nat × Option Box} (h : σ[i]? = some y) : (σ ++ [x])[i]? = some y := by
  rw [List.getElem?_append_left (lt_of_get h)]; exact h
theorem app_last {σ : Heap} {x : Nat × Option Box} : (σ ++ [x])[σ.length]? = some x := by simp
theorem alive_apps {σ τ : Heap} (h : Alive σ) (ht : Alive τ) : Alive (σ ++ τ) := fun e he => by
  rcases List.mem_append.1 he with he | he
  · exact h e he
  · exact ht e he
theorem apps_get {σ τ : Heap} {i : Nat} {y : Nat × Option Box} (h : σ[i]? = some y) : (σ ++ τ)[i]? = some y := by
  rw [List.getElem?_append_left (lt_of_get h)]; exact h
structure QKeep (σ σ' : Heap) (own own' : Nat → Prop) : Prop where
  len : σ.length ≤ σ'.length
  same : ∀ id, id < σ.length → ¬ own id → σ'[id]? = σ[id]?
  new : ∀ id, own' id → own id ∨ σ.length ≤ id
theorem QKeep.trans {σ σ1 σ2 : Heap} {o o1 o2 : Nat → Prop} (h : QKeep σ σ1 o o1) (h2 : QKeep σ1 σ2 o1 o2) : QKeep σ σ2 o o2 := by
  refine ⟨Nat.le_trans h.len h2.len, fun id hid hno => ?_, fun id hid => ?_⟩
  · have : ¬ o1 id := fun h1 => by
      rcases h.new id h1 with h3 | h3
      · exact hno h3
      · omega
    rw [h2.same id (Nat.lt_of_lt_of_le hid h.len) this, h.same id hid hno]
  · rcases h2.new id hid with h3 | h3
    · exact h.new id h3
    · exact .inr (Nat.le_trans h.len h3)
theorem QKeep.app {σ τ : Heap} {o : Nat → Prop} : QKeep σ (σ ++ τ) o o := ⟨by simp, fun id hid _ => List.getElem?_append_left hid, fun id h => .inl h⟩
theorem QKeep.refl {σ : Heap} {o : Nat → Prop} : QKeep σ σ o o := ⟨Nat.le_refl _, fun id hid _ => rfl, fun id h => .inl h⟩
theorem QKeep.set {σ σ' : Heap} {o o' : Nat → Prop} (h : QKeep σ σ' o o') {id : Nat} (hid : σ.length ≤ id) (x : Nat × Option Box) : QKeep σ (σ'.set id x) o o' :=
  ⟨by rw [List.length_set]; exact h.len, fun j hj hno => by rw [set_ne (by omega)]; exact h.same j hj hno, h.new⟩
theorem QKeep.own {σ σ' : Heap} {o o' o2 : Nat → Prop} (h : QKeep σ σ' o o') (h2 : ∀ id, o2 id → o' id ∨ σ.length ≤ id) : QKeep σ σ' o o2 :=
  ⟨h.len, h.same, fun id hid => (h2 id hid).elim (h.new id) .inr⟩
end Go.Ab
end
section
set_option linter.unusedVariables false
set_option linter.unusedSimpArgs false
set_option maxRecDepth 20000
set_option maxHeartbeats 2000000
namespace Go.Proofs.YtjkeekbfgnmngaaGreatDoor
open Go Go.Ab
def spoT : AV := .str [115, 112, 111, 105, 108, 116]
def spoD (m : Nat) (cs : List AV) : List AV := List.replicate m spoT ++ cs.drop m
theorem spoD_len {m : Nat} {cs : List AV} (h : m ≤ cs.length) : (spoD m cs).length = cs.length := by
  unfold spoD
  rw [List.length_append, List.length_replicate, List.length_drop]; omega
theorem spoD_one {m : Nat} {cs : List AV} (h : m < cs.length) : setRange (spoD m cs) (offN 0 (mulN ((m : Int)).toNat 1)) [spoT] = spoD (m + 1) cs := by
  rw [offN_eq, mulN_eq, Int.toNat_natCast, Nat.zero_add, Nat.mul_one]
  show (spoD m cs).set m spoT = _
  unfold spoD
  rw [List.set_append_right _ _ (by simp), List.length_replicate, Nat.sub_self, List.drop_eq_getElem_cons h, List.set_cons_zero, List.replicate_succ', List.append_assoc]
  rfl
theorem spoilTexts_ok (σ : Heap) (id ver n : Nat) (cs : List AV) (g : Option TypeId) (hb : σ[id]? = some (ver, some (.cells cs ⟨false, g⟩))) (hn : cs.length = n) (hn2 : n ≤ 1099511627776) :
    CallOk cx 13 [.ms id ver 0 n 1 false] σ (fun o u => o = .ret (.tup []) ∧ u = σ.set id (ver, some (.cells (spoD n cs) ⟨false, g⟩))) :=
  callOk_intro (fun a w => Tryz.call13 a w) Tryz.func13 rfl Tryz.ntmps13 rfl fun B => by
    obtain ⟨zb, hzb⟩ : ∃ zb : Nat → Nat × Option Box, zb = fun m => (ver, some (.cells (spoD m cs) ⟨false, g⟩)) := ⟨_, rfl⟩
    have h0 : σ = σ.set id (zb 0) := by
      have : zb 0 = (ver, some (.cells cs ⟨false, g⟩)) := by rw [hzb]; rfl
      rw [this]
      apply List.ext_getElem?
      intro i
      by_cases hi : i = id
      · subst hi; rw [set_eq hb, hb]
      · rw [set_ne hi]
    refine pao [] rfl ?_ ?_
    · (repeat' with_reducible apply AllP_cons) <;> try exact aC
    refine S_while (α := Nat) (fun m => [(0, .ms id ver 0 n 1 false), (2, .int .i64 (m : Nat))]) (fun m => σ.set id (zb m)) (fun m => m ≤ n) (fun m => n - m) 0
      (Nat.zero_le _) (.cons rfl (.cons rfl (.nil _))) h0 ?_
    intro m hm
    have hbm : (σ.set id (zb m))[id]? = some (ver, some (.cells (spoD m cs) ⟨false, g⟩)) := by rw [set_eq hb, hzb]
    by_cases hlt : m < n
    · have e1 : decide ((m : Int) < (n : Int)) = true := decide_eq_true (by omega)
      have hm1 : AV.int .i64 (IntKind.i64.wrap ((m : Int) + 1)) = .int .i64 ((m + 1 : Nat) : Int) := ai64 rfl (by omega)
      refine pao [.b true, .v .top, .f (.tup []) (fun _ => σ.set id (zb (m + 1)))] rfl ?_ ?_
      · (repeat' with_reducible apply AllP_cons) <;> try exact aC
        · refine OpSpec.storeX (id := id) (ver := ver) (m := 1) (gT := g) (cs := spoD m cs) (y := spoT) rfl rfl rfl rfl rfl rfl hbm ?_ ?_
          · rw [spoD_len (by omega), hn]
            show offN 0 (mulN ((m : Int)).toNat 1) + 1 ≤ _
            rw [offN_eq, mulN_eq, Int.toNat_natCast]; omega
          · rw [List.set_set, hzb]
            show _ = σ.set id (ver, some (.cells (setRange (spoD m cs) (offN 0 (mulN ((m : Int)).toNat 1)) [spoT]) ⟨false, g⟩))
            rw [spoD_one (by omega)]
      exact S_round (m + 1) (by show n - (m + 1) < n - m; omega) hlt (.cons rfl (.cons hm1 (.nil _))) rfl
    · obtain rfl : m = n := by have : m ≤ n := hm; omega
      have e1 : decide ((m : Int) < (m : Int)) = false := decide_eq_false (by omega)
      refine pao [.b false] rfl ?_ ?_
      · (repeat' with_reducible apply AllP_cons) <;> try exact aC
      exact S_nil ⟨_, _, rfl, trivial, rfl, by rw [hzb]⟩
end Go.Proofs.YtjkeekbfgnmngaaGreatDoor
end
section
set_option linter.unusedVariables false
set_option linter.unusedSimpArgs false
namespace Go.Ab
open Go
theorem Calc.over {cx : Cx} {f : FuncId} {args args' : List AV} {res : AV} {σ : Heap} (hp : Calc cx f args' res) (hz : Frzs σ args args') : CallOk cx f args σ (fun o s => o = .ret res ∧ s = σ) := by
  refine ⟨hp.call.1, fun r w vs hi hv => ?_⟩
  have hvs : VRels { S := r.S, I := fun b => r.I b ∨ Live r σ b, ρ := fun _ _ => none } w vs args' := by
    refine ⟨hv.1.trans hz.1, fun i hi' => ?_⟩
    exact (hz.2 i (by rw [hz.1]; exact hi') hi').rel (r' := { S := r.S, I := fun b => r.I b ∨ Live r σ b, ρ := fun _ _ => none }) hi (fun b h => h) (fun b h => Or.inl (hi.SI b h)) (fun _ b h => Or.inl h) (fun b h => ⟨Or.inr h, fun h => by cases h⟩) (hv.2 i (by rw [hz.1]; exact hi'))
  refine (hp.call.2 _ w vs hi.empty hvs).mono fun e w' ⟨out, σ', r1, ⟨ho, hσ'⟩, hor, hi1, hx1⟩ => ?_
  subst ho; subst hσ'
  cases e with
  | returned u =>
    obtain ⟨hi2, hx2⟩ := after_pure hi hi1 hx1
    have hu : VRel r1 w' u res := hor
    exact ⟨_, _, { S := r1.S, I := fun b => r.I b ∨ r1.S b, ρ := r.ρ }, ⟨rfl, rfl⟩, hu.free hp.free (fun b h => h) (fun b h => .inr h) (fun h => by cases h), hi2, hx2⟩
  | panicked chain => exact hor.elim
  | outgrown => exact hor.elim
end Go.Ab
end
section
set_option linter.unusedVariables false
set_option linter.unusedSimpArgs false
namespace Go.Ab
open Go
section
variable {cx : Cx} {n : Nat} {fr : Fr} {σ : Heap}
theorem OpSpec.append0S {o : Oper} {s x : Operand} {t u : TypeId} {e sz by_ : Nat} {st fl : Bool} {xs : List AV} {y : AV} {C : List Prop} (ho : o.op = .call { callee := .builtin .append, args := #[s, x], argTypes := #[t, u] }) (hel : elemInfo cx.P t = some (e, sz, by_)) (hnt : notInt cx.P u = true)
    (hs : ev cx fr s = .sl st fl sz xs) (hx : ev cx fr x = y) (hy : aSrc sz y σ = some (C, 0, [])) (hC : AllP C) : OpSpec cx n fr σ o (.sl st fl sz xs) σ := by
  intro r ac w hi hf
  have h1 := ev_rel hi hf s
  have h2 := ev_rel hi hf x
  rw [hs] at h1
  rw [hx] at h2
  obtain ⟨dst, op, ty, pos, after, guard⟩ := o
  simp only at ho
  subst ho
  obtain ⟨i, z, hu, hinfo, hz, hz1, hz2, hz3⟩ := elemInfo_some hel
  obtain ⟨d, hd, hdk⟩ := notInt_some hnt
  obtain ⟨bs, hbs⟩ := run_len_call cx.P w ac.eval .append #[s, x] #[t, u] dst ty pos after guard
  have key : ∀ (a b : Value), VRel r w a (.sl st fl sz xs) → VRel r w b y → (Builtin.append_ #[t, u] ty #[a, b]).run cx.P w = .ok a w := by
    intro a b ha hb
    obtain ⟨hl1, hl2, news, hl3, hl4⟩ := aSrc_run hi hy hC hb
    have hnews : news = [] := List.eq_nil_of_length_eq_zero (by rw [hl3.1]; rfl)
    subst hnews
    cases a with
    | slice p n' cap =>
      obtain ⟨q1, q2, _, _⟩ := sl_cells ha
      exact run_append_room' (P := cx.P) (w := w) (ty := ty) (base := p) (sLen := n') (sCap := cap) hu hd hdk hinfo hz2 hl1 hl4 (by omega) (w2 := w) (stO_nil _ _ _ _)
    | _ => cases ha
  refine ⟨r, w, ac.eval s, .inl ?_, h1, hi, Ext.refl _ _ _⟩
  rw [hbs]
  simp only [builtin, List.map_toArray, List.map_cons, List.map_nil]
  exact exec_v (key _ _ h1 h2)
theorem OpSpec.appendS {o : Oper} {s x : Operand} {t u : TypeId} {e sz by_ m : Nat} {xs ys zs : List AV} {st : Bool} {y : AV} {C : List Prop} (ho : o.op = .call { callee := .builtin .append, args := #[s, x], argTypes := #[t, u] }) (hel : elemInfo cx.P t = some (e, sz, by_)) (hnt : notInt cx.P u = true)
    (hs : ev cx fr s = .sl st true sz xs) (hx : ev cx fr x = y) (hy : aSrc sz y σ = some (C, m, ys)) (hC : AllP C) (hy1 : ∀ z ∈ ys, z.one = true) (hx1 : ∀ z ∈ flatA sz xs, z.one = true) (hm : m ≠ 0 ∨ xs = []) (hσ : Alive σ)
    (hb1 : (xs.length + m) * by_ ≤ 140737488355328) (hb2 : xs.length + m ≤ 9223372036854775807) (hz : flatA sz xs ++ ys = zs) :
    OpSpec cx n fr σ o (.ms σ.length 0 0 (xs.length + m) sz false) (σ ++ [(0, some (.cells zs ⟨false, tyU8 cx.P e⟩))]) := by
  subst hz
  refine OpSpec.aop (C := C ++ [∀ y ∈ ys, y.one = true, sz = sz, ∀ y ∈ flatA sz xs, y.one = true, m ≠ 0 ∨ xs = [], (xs.length + m) * by_ ≤ 140737488355328, xs.length + m ≤ 9223372036854775807]) ?_ (AllP_app hC ⟨hy1, rfl, hx1, hm, hb1, hb2, trivial⟩)
  rw [ho]
  show aAppend cx.P t u (ev cx fr s) (ev cx fr x) σ = _
  rw [hs, hx]
  unfold aAppend
  rw [hel]
  simp only [hnt, cond_true, hy, hσ.alloc]
end
end Go.Ab
end
section
set_option linter.unusedVariables false
set_option linter.unusedSimpArgs false
set_option maxRecDepth 20000
set_option maxHeartbeats 2000000
namespace Go.Proofs.YtjkeekbfgnmngaaGreatDoor
open Go Go.Ab
def FK (k : Nat) (u : Heap) (v : AV) (sz : Nat) (cs : List AV) : Prop :=
  (v = .sl true false sz [] ∧ cs = []) ∨ ∃ n, n ≤ 1000000000 ∧ v = .ms k 0 0 n sz false ∧ cs.length = n * sz ∧ u[k]? = some (0, some (.cells cs ⟨false, none⟩))
theorem FK.keep {k : Nat} {u u' : Heap} {v : AV} {sz : Nat} {cs : List AV} (h : FK k u v sz cs) (hk : u'[k]? = u[k]?) : FK k u' v sz cs := by
  rcases h with h | ⟨n, h0, h1, h2, h3⟩
  · exact .inl h
  · exact .inr ⟨n, h0, h1, h2, by rw [hk]; exact h3⟩
def Up (σ u : Heap) : Prop := ∃ τ : Heap, u = σ ++ τ ∧ Alive τ
theorem celsF_nil {x : List Fil} (h : celsF x = []) : x = [] := by
  have := cels_len x
  rw [h] at this
  cases x with
  | nil => rfl
  | cons f r => simp at this
theorem RawF.L {f : FuncId} {args args' : List AV} {σ : Heap} {x : List Fil} {e : Nat} (h : CallOk cx f args' [] (RawF x e)) (hx : e = 0 → x.length ≤ 1000000000) (hz : Frzs σ args args') :
    CallOk cx f args σ (fun o u => ∃ v, o = .ret (.tup [v, .int .i64 (e : Nat)]) ∧ Up σ u ∧ FK σ.length u v 3 (celsF (if e = 0 then x else []))) := by
  by_cases hq : e = 0 ∧ x ≠ []
  · obtain ⟨he, hx0⟩ := hq
    have h2 := CallOk.lift (cs := celsF x) (n := x.length) (sz := 3) (e := .int .i64 0) (g := ⟨false, none⟩) (fun h => hx0 (celsF_nil h)) (h.mono fun o s hr => by
      rcases hr with ⟨h0, _⟩ | ⟨_, id, ver, ho, hb⟩
      · exact absurd he h0
      · exact ⟨id, ver, ho, hb⟩) hz (cels_free x) .int
    refine h2.mono fun o u ⟨ho, hu⟩ => ⟨.ms σ.length 0 0 x.length 3 false, by subst he; exact ho, ⟨_, hu, fun e he => ?_⟩, .inr ⟨x.length, hx he, rfl, by rw [if_pos he]; exact cels_len x, by rw [hu, if_pos he]; exact app_last⟩⟩
    rw [List.mem_singleton.1 he]; exact ⟨_, rfl⟩
  · have hx0 : (if e = 0 then x else []) = [] := by
      by_cases he : e = 0
      · rw [if_pos he]; exact Classical.byContradiction fun h => hq ⟨he, h⟩
      · rw [if_neg he]
    have hc := flatS (RawF.calc h)
    unfold flatSV at hc
    rw [hx0] at hc
    refine (hc.over hz).mono fun o u ⟨ho, hu⟩ => ⟨_, ho, ⟨[], by rw [hu, List.append_nil], fun e he => by cases he⟩, .inl ⟨rfl, by rw [hx0]; rfl⟩⟩
theorem RawD.L {f : FuncId} {args args' : List AV} {σ : Heap} {x : List (List UInt8)} {e : Nat} (h : CallOk cx f args' [] (RawD x e)) (hx : e = 0 → x.length ≤ 1000000000) (hz : Frzs σ args args') :
    CallOk cx f args σ (fun o u => ∃ v, o = .ret (.tup [v, .int .i64 (e : Nat)]) ∧ Up σ u ∧ FK σ.length u v 1 (texts (if e = 0 then x else []))) := by
  by_cases hq : e = 0 ∧ x ≠ []
  · obtain ⟨he, hx0⟩ := hq
    by_cases hh : ∃ y, y = x.map AV.str
    case neg => exact absurd ⟨_, rfl⟩ hh
    have h2 := CallOk.lift (cs := texts x) (n := x.length) (sz := 1) (e := .int .i64 0) (g := ⟨false, none⟩) (fun h => hx0 (by simpa [texts] using h)) (h.mono fun o s hr => by
      rcases hr with ⟨h0, _⟩ | ⟨_, h0, _⟩ | ⟨_, id, ver, ho, hb⟩
      · exact absurd he h0
      · exact absurd h0 hx0
      · exact ⟨id, ver, ho, hb⟩) hz (texts_any x) .int
    refine h2.mono fun o u ⟨ho, hu⟩ => ⟨.ms σ.length 0 0 x.length 1 false, by subst he; exact ho, ⟨_, hu, fun e he => ?_⟩, .inr ⟨x.length, hx he, rfl, by rw [if_pos he, texts_len]; omega, by rw [hu, if_pos he]; exact app_last⟩⟩
    rw [List.mem_singleton.1 he]; exact ⟨_, rfl⟩
  · have hx0 : (if e = 0 then x else []) = [] := by
      by_cases he : e = 0
      · rw [if_pos he]; exact Classical.byContradiction fun h => hq ⟨he, h⟩
      · rw [if_neg he]
    have hc : Calc cx f args' (.tup [.sl true false 1 [], .int .i64 (e : Nat)]) := calc_of (.tup (by intro x hx; simp at hx; rcases hx with rfl | rfl; exact .sl (fun _ => rfl) (by intro x hx; cases hx); exact .int)) (h.mono fun o s hr => by
      rcases hr with ⟨h0, rfl⟩ | ⟨h0, _, rfl⟩ | ⟨h0, id, ver, ho, hb⟩
      · exact ⟨_, rfl, Fzs.tup (.cons .nils (.cons (.refl .int) .nil))⟩
      · subst h0; exact ⟨_, rfl, .refl (.tup (by intro x hx; simp at hx; rcases hx with rfl | rfl; exact .sl (fun _ => rfl) (by intro x hx; cases hx); exact .int))⟩
      · rw [if_pos h0] at hx0
        subst h0; subst hx0
        exact ⟨_, ho, Fzs.tup (.cons (.ms (cs := []) (by unfold boxAt; rw [hb]; rfl) (Nat.le_refl _) rfl (by intro x hx; cases hx) rfl (by intro x hx; cases hx)) (.cons (.refl .int) .nil))⟩)
    refine (hc.over hz).mono fun o u ⟨ho, hu⟩ => ⟨_, ho, ⟨[], by rw [hu, List.append_nil], fun e he => by cases he⟩, .inl ⟨rfl, by rw [hx0]; rfl⟩⟩
theorem flatTx (l : List (List UInt8)) : texts l = (texts l).flatMap AV.cells := by
  unfold texts
  induction l with
  | nil => rfl
  | cons x l ih => show AV.str x :: l.map AV.str = _; rw [ih]; rfl
theorem FK.frzT {k : Nat} {u : Heap} {v : AV} {x : List (List UInt8)} (h : FK k u v 1 (texts x)) : Frz false u v (.sl false false 1 (texts x)) := by
  have hcl := texts_len x
  rcases h with ⟨rfl, h⟩ | ⟨n, _, rfl, h1, h2⟩
  · rw [h]; exact .lend rfl (fun h => by cases h) (by intro x hx; cases hx)
  · obtain rfl : n = x.length := by omega
    exact .ms (cs := texts x) (by unfold boxAt; rw [h2]) (by omega) (by rw [List.drop_zero, ← flatTx]; exact List.take_of_length_le (by omega)) (fun y hy => by obtain ⟨z, _, rfl⟩ := List.mem_map.1 hy; rfl) (texts_len _) (texts_any _)
structure But (v : AV) (u s : Heap) : Prop where
  len : s.length = u.length
  same : ∀ i, (∀ ver n sz, v ≠ .ms i ver 0 n sz false) → s[i]? = u[i]?
  al : Alive u → Alive s
theorem spoilT_L {k : Nat} {u : Heap} {v : AV} {cs : List AV} (h : FK k u v 1 cs) : CallOk cx 13 [v] u (fun o s => o = .ret (.tup []) ∧ But v u s) := by
  rcases h with ⟨rfl, h⟩ | ⟨n, hn, rfl, h1, h2⟩
  · have h0 : Calc cx 13 [.sl true false 1 []] (.tup []) :=
      pure_intro (fun a w => Tryz.call13 a w) Tryz.func13 rfl Tryz.ntmps13 rfl (.tup (by intro x hx; cases hx)) fun B => by
        refine pao [] rfl ?_ ?_
        · (repeat' with_reducible apply AllP_cons) <;> try exact aC
        refine S_while (α := Nat) (fun m => [(0, .sl true false 1 []), (2, .int .i64 0)]) (fun m => []) (fun m => True) (fun m => 0) 0
          trivial (.cons rfl (.cons rfl (.nil _))) rfl ?_
        intro m hm
        refine pao [.b false] rfl ?_ ?_
        · (repeat' with_reducible apply AllP_cons) <;> try exact aC
        exact S_nil ⟨_, _, rfl, trivial, _, rfl, .refl (.tup (by intro x hx; cases hx))⟩
    exact (h0.over (.cons (.refl (.sl (fun h => by cases h) (by intro x hx; cases hx))) (.nil _))).mono fun o s ⟨ho, hs⟩ => ⟨ho, by rw [hs], fun i _ => by rw [hs], fun h => by rw [hs]; exact h⟩
  · exact (spoilTexts_ok u k 0 n cs none h2 (by omega) (by omega)).mono fun o s ⟨ho, hs⟩ => ⟨ho, by rw [hs, List.length_set], fun i hi => by rw [hs]; exact set_ne fun h => hi 0 n _ (by rw [h]), fun h => by rw [hs]; exact Alive.set h _ _ _⟩
theorem FK.lt {k : Nat} {u : Heap} {v : AV} {sz i : Nat} {cs : List AV} (h : FK k u v sz cs) {ver n m : Nat} (hv : v = .ms i ver 0 n m false) : i = k ∧ k < u.length := by
  rcases h with ⟨rfl, _⟩ | ⟨n', _, rfl, _, h2⟩
  · cases hv
  · cases hv; exact ⟨rfl, lt_of_get h2⟩
theorem FK.but {k k' : Nat} {u0 u s : Heap} {v w : AV} {sz sz' : Nat} {cs cs' : List AV} (h : FK k u v sz cs) (hb : But w u s) (hw : FK k' u0 w sz' cs') (hk : k' < u0.length → k ≠ k') : FK k s v sz cs :=
  h.keep (hb.same k fun ver n m e => by have := hw.lt e; exact hk this.2 this.1)
end Go.Proofs.YtjkeekbfgnmngaaGreatDoor
end
section
set_option linter.unusedVariables false
set_option linter.unusedSimpArgs false
namespace Go.Ab
open Go
section
variable {cx : Cx} {n : Nat} {B : Bs} {k : List AI} {Q : Post} {fr : Fr} {σ : Heap}
inductive Wv : AV → AV → Prop
  | refl {a} : Wv a a
  | nils {st fl sz} : Wv .nils (.sl st fl sz [])
  | sl {st fl st' fl' sz xs} (h1 : st' = true → st = true) (h2 : fl' = true → fl = true) : Wv (.sl st fl sz xs) (.sl st' fl' sz xs)
theorem Wv.rel {r : Rl} {w : World} {v : Value} {a a' : AV} (h : Wv a a') (hv : VRel r w v a) : VRel r w v a' := by
  cases h with
  | refl => exact hv
  | nils => cases hv; exact .sl0 (fun _ => rfl)
  | sl h1 h2 =>
    cases hv with
    | sl0 hf => exact .sl0 (fun h => hf (h2 h))
    | sl hn hc0 hf hI hS hsz f hc hv => exact .sl hn hc0 (fun h => hf (h2 h)) hI (fun h => hS (h1 h)) hsz f hc hv
theorem Wv.one {a a' : AV} (h : Wv a a') (ho : a.one = true) : a'.one = true := by
  cases h with
  | refl => exact ho
  | nils => rfl
  | sl _ _ => rfl
inductive Wvs : List AV → List AV → Prop
  | nil : Wvs [] []
  | cons {a b az bs} (h : Wv a b) (hs : Wvs az bs) : Wvs (a :: az) (b :: bs)
theorem Wvs.len {az bs : List AV} (h : Wvs az bs) : az.length = bs.length := by
  induction h with
  | nil => rfl
  | cons _ _ ih => simp [ih]
theorem Wvs.get {az bs : List AV} (h : Wvs az bs) : ∀ (i : Nat) (h1 : i < az.length) (h2 : i < bs.length), Wv az[i] bs[i] := by
  induction h with
  | nil => intro i h1; simp at h1
  | cons h hs ih =>
    intro i h1 h2
    cases i with
    | zero => exact h
    | succ i => exact ih i (by simpa using h1) (by simpa using h2)
theorem S_nilF {todo : List AI} (t sz : Nat) (st fl : Bool) (h : fr.get t = .nils) (hT : ∃ c k, todo = .code c :: k ∨ ∃ all l K, todo = .ops all l K :: k)
    (hk : S cx n B todo Q ((t, .sl st fl sz []) :: fr) σ) : S cx n B todo Q fr σ := by
  have key : ∀ r w a, FRel r w n fr a → FRel r w n ((t, .sl st fl sz []) :: fr) a := by
    intro r w a hf
    refine ⟨hf.size, fun s => ?_, fun vs hm => ?_⟩
    · rw [Fr.get_cons]
      split
      · rename_i hs
        subst hs
        have hv := hf.get t
        rw [h] at hv
        exact Wv.rel .nils hv
      · exact hf.get s
    · rw [Fr.get_cons] at hm
      split at hm
      · cases hm
      · exact hf.defs vs hm
  obtain ⟨c, k, hT⟩ := hT
  rcases hT with rfl | ⟨all, l, K, rfl⟩
  · exact fun r a w hi hf hd hx => hk r a w hi (key r w a hf) hd hx
  · exact fun r a w hi hf hd hx => hk r a w hi (key r w a hf) hd hx
end
end Go.Ab
end
section
set_option linter.unusedVariables false
set_option linter.unusedSimpArgs false
set_option maxRecDepth 20000
set_option maxHeartbeats 4000000
namespace Go.Proofs.YtjkeekbfgnmngaaGreatDoor
open Go Go.Ab
def fsT (g : List Fil) : List (List UInt8) := g.map fun f => fstT f.path
def dirAV (y : List UInt8 × List (List UInt8)) : AV := .tup [.str y.1, .sl true false 1 (texts (setT y.2))]
theorem dirAV_free (y : List UInt8 × List (List UInt8)) : Free true (dirAV y) := .tup (by intro x hx; simp at hx; rcases hx with rfl | rfl; exact .str; exact .sl (fun _ => rfl) (texts_any _))
theorem texts_gt {x : List (List UInt8)} {i : Nat} (h : i < x.length) : (texts x)[(i : Int).toNat]? = some (.str x[i]) := by
  rw [Int.toNat_natCast]; simp [texts, List.getElem?_eq_getElem h]
theorem set_nil : setT [] = [] := by unfold setT sortT; simp
theorem set_step (A : List (List UInt8)) (s : List UInt8) : texts (addT (setT A) s) = texts (setT (A ++ [s])) := by rw [addT_set]
def kdK (l : List Fil) (P : List UInt8) (k : Nat) : Nat := match (l.take k).find? (fun f => f.path == P) with | none => 3 | some f => if f.run = true then 2 else 1
def txK (l : List Fil) (P : List UInt8) (k : Nat) : List UInt8 := match (l.take k).find? (fun f => f.path == P) with | none => [] | some f => f.text
theorem find_step {l : List Fil} {P : List UInt8} {k : Nat} (h : k < l.length) (hok : okT l) : (l.take (k + 1)).find? (fun f => f.path == P) = if l[k].path = P then some l[k] else (l.take k).find? (fun f => f.path == P) := by
  rw [List.take_succ_eq_append_getElem h, List.find?_append]
  by_cases e : l[k].path = P
  · rw [if_pos e]
    have hn : (l.take k).find? (fun f => f.path == P) = none := by
      rw [List.find?_eq_none]
      intro f hf hfe
      obtain ⟨j, hj, rfl⟩ := List.getElem_of_mem hf
      rw [List.length_take] at hj
      rw [List.getElem_take] at hfe
      have h1 := List.pairwise_iff_getElem.1 hok.1 j k (by omega) h (by omega)
      have h2 : (l[j]'(by omega)).path = P := by simpa using hfe
      rw [h2, e, bl_irr] at h1; cases h1
    rw [hn]; simp [e]
  · rw [if_neg e]
    simp [e]
theorem ok_uniq {l : List Fil} (hok : okT l) {f g : Fil} (hf : f ∈ l) (hg : g ∈ l) (h : f.path = g.path) : f = g := by
  obtain ⟨i, hi, rfl⟩ := List.getElem_of_mem hf
  obtain ⟨j, hj, rfl⟩ := List.getElem_of_mem hg
  rcases Nat.lt_trichotomy i j with h1 | h1 | h1
  · have := List.pairwise_iff_getElem.1 hok.1 i j hi hj h1
    rw [h, bl_irr] at this; cases this
  · subst h1; rfl
  · have := List.pairwise_iff_getElem.1 hok.1 j i hj hi h1
    rw [h, bl_irr] at this; cases this
theorem blb_take (dir : List Fil → List UInt8 × List (List UInt8)) (l : List Fil) (ks : List (List UInt8)) (j : Nat) : (blbsT dir l (ks.take j)).length ≤ (blbsT dir l ks).length := by
  conv => rhs; rw [← List.take_append_drop j ks]
  unfold blbsT
  rw [List.flatMap_append, List.length_append]; omega
theorem Directory_ok {st fl : Bool} (l : List Fil) (hl : DirOk 101 l) : ∀ (d : Nat) (dir : List UInt8), d ≤ 1000 → dir.length ≤ 200 → DirOk (d + 1) (relT l dir) → Calc cx 45 [.sl st fl 3 (fils l), .str dir] (dirAV (dirT (d + 1) (relT l dir))) := by
  intro d
  induction d using Nat.strongRecOn with | ind d ih => ?_
  intro dir hd1000 hdir hr
  exact pure_intro (fun a w => Tryz.call45 a w) Tryz.func45 rfl Tryz.ntmps45 rfl (dirAV_free _) fun B => by
    have hll := fils_len l
    have hlen := hl.len
    refine pB [] rfl ?_
    refine S_nilF 6 1 true false rfl ⟨_, _, .inl rfl⟩ ?_
    refine S_while (α := Nat) (fun i => [(0, .sl st fl 3 (fils l)), (1, .str dir), (6, .sl true false 1 (texts (setT (fsT (relT (l.take i) dir))))), (7, .int .i64 (i : Nat))]) (fun _ => []) (fun i => i ≤ l.length) (fun i => l.length - i) 0
      (Nat.zero_le _) (.cons rfl (.cons rfl (.cons (by
        have : relT (l.take 0) dir = [] := by unfold relT undT; split <;> rfl
        rw [this]; show AV.sl true false 1 [] = AV.sl true false 1 (texts (setT [])); rw [set_nil]; rfl) (.cons rfl (.nil _))))) rfl ?_
    intro i hi
    have hi : i ≤ l.length := hi
    by_cases hlt : i < l.length
    · have e1 : decide ((i : Int) < (((fils l).length : Nat) : Int)) = true := decide_eq_true (by omega)
      have g1 : (fils l)[(i : Int).toNat]? = some (filA l[i]) := fils_get hlt
      have hm := List.getElem_mem hlt
      have hpf := (path_fst (hl.path _ hm)).2.1
      have hrs := rel_step hlt dir
      have hsl : (setT (fsT (relT (l.take i) dir))).length ≤ 60 := by
        refine Nat.le_trans (setT_len _) ?_
        unfold fsT
        rw [List.length_map]
        unfold relT
        split
        · rw [List.length_take]; omega
        · refine Nat.le_trans (und_len _ _) ?_
          rw [List.length_take]; omega
      have hN := IsInside_ok dir l[i].path (by omega) (by omega)
      have hw64 : IntKind.i64.wrap ((dir.length : Int) + 1) = ((dir.length + 1 : Nat) : Int) := w64 (by omega) (by omega)
      have hcut : cutL (some (IntKind.i64.wrap ((dir.length : Int) + 1))) none l[i].path = l[i].path.drop (dir.length + 1) := by
        rw [hw64]; simp [cutL]
      have rnd : ∀ x : List UInt8, fsT (relT (l.take (i + 1)) dir) = fsT (relT (l.take i) dir) ++ [x] → texts (addT (setT (fsT (relT (l.take i) dir))) x) = texts (setT (fsT (relT (l.take (i + 1)) dir))) := fun x hx => by rw [hx, set_step]
      by_cases hd : dir = []
      · rw [if_pos hd] at hrs
        have hx := rnd (fstT l[i].path) (by rw [hrs]; unfold fsT; rw [List.map_append]; rfl)
        have e2 : (!(dir == [])) = false := by rw [hd]; rfl
        have hP := Parts_ok l[i].path (by omega)
        have hA := AddText_ok (fl := false) (setT (fsT (relT (l.take i) dir))) (fstT l[i].path) (by omega)
        have g2 : (texts (splitB 47 l[i].path))[((0 : Nat) : Int).toNat]? = some (.str (fstT l[i].path)) := by rw [split_fst]; rfl
        have g3 : 0 < (texts (splitB 47 l[i].path)).length := by rw [split_fst]; simp [texts]
        rw [hx] at hA
        refine pa [.b true, .v (filA l[i]), .b false, .v (.sl true false 1 (texts (splitB 47 l[i].path))), .v (.str (fstT l[i].path)), .v (.sl true false 1 (texts (setT (fsT (relT (l.take (i + 1)) dir)))))] rfl ?_ ?_
        · (repeat' with_reducible apply AllP_cons) <;> try exact aC
          · exact ⟨_, hP, .cons (.refl .str) (.nil _)⟩
          · exact ⟨_, hA, .cons (.refl (.sl (fun h => by cases h) (texts_any _))) (.cons (.refl .str) (.nil _))⟩
        exact S_round (i + 1) (by show l.length - (i + 1) < l.length - i; omega) hlt (.cons rfl (.cons rfl (.cons rfl (.cons (nX (by omega)) (.nil _))))) rfl
      · rw [if_neg hd] at hrs
        have e2 : (!(dir == [])) = true := by simpa using hd
        cases hin : insT dir l[i].path with
        | false =>
          rw [hin] at hN hrs
          rw [if_neg (by simp), List.append_nil] at hrs
          refine pa [.b true, .v (filA l[i]), .b true, .v (.bool false), .b true] rfl ?_ ?_
          · (repeat' with_reducible apply AllP_cons) <;> try exact aC
            · exact ⟨_, hN, .cons (.refl .str) (.cons (.refl .str) (.nil _))⟩
          exact S_round (i + 1) (by show l.length - (i + 1) < l.length - i; omega) hlt (.cons rfl (.cons rfl (.cons (by rw [hrs]; rfl) (.cons (nX (by omega)) (.nil _))))) rfl
        | true =>
          rw [hin] at hN hrs
          rw [if_pos rfl] at hrs
          have hpl : dir.length + 1 ≤ l[i].path.length := ((ins_iff dir l[i].path).1 hin).1
          obtain ⟨X, hX⟩ : ∃ X, X = cutL (some (IntKind.i64.wrap ((dir.length : Int) + 1))) none l[i].path := ⟨_, rfl⟩
          have hXd : X = l[i].path.drop (dir.length + 1) := hX.trans hcut
          have hx := rnd (fstT X) (by rw [hrs, hXd]; unfold fsT; rw [List.map_append]; rfl)
          have hXl : X.length ≤ 100 := by rw [hXd, List.length_drop]; omega
          have hP := Parts_ok X (by omega)
          have hA := AddText_ok (fl := false) (setT (fsT (relT (l.take i) dir))) (fstT X) (by omega)
          have g2 : (texts (splitB 47 X))[((0 : Nat) : Int).toNat]? = some (.str (fstT X)) := by rw [split_fst]; rfl
          have g3 : 0 < (texts (splitB 47 X)).length := by rw [split_fst]; simp [texts]
          rw [hx] at hA
          refine pa [.b true, .v (filA l[i]), .b true, .v (.bool true), .b false, .v (.sl true false 1 (texts (splitB 47 X))), .v (.str (fstT X)), .v (.sl true false 1 (texts (setT (fsT (relT (l.take (i + 1)) dir)))))] rfl ?_ ?_
          · (repeat' with_reducible apply AllP_cons) <;> try exact aC
            · exact ⟨_, hN, .cons (.refl .str) (.cons (.refl .str) (.nil _))⟩
            · exact ⟨_, hP, .cons (by rw [hX]; exact .refl .str) (.nil _)⟩
            · exact ⟨_, hA, .cons (.refl (.sl (fun h => by cases h) (texts_any _))) (.cons (.refl .str) (.nil _))⟩
          exact S_round (i + 1) (by show l.length - (i + 1) < l.length - i; omega) hlt (.cons rfl (.cons rfl (.cons rfl (.cons (nX (by omega)) (.nil _))))) rfl
    · have hil : i = l.length := by omega
      subst hil
      have e1 : decide ((l.length : Int) < (((fils l).length : Nat) : Int)) = false := decide_eq_false (by omega)
      rw [List.take_length]
      have hdirT : dirT (d + 1) (relT l dir) = (packNs (nodsT (dirT d) (relT l dir) (sortT (nmsT (relT l dir)))), blbsT (dirT d) (relT l dir) (sortT (nmsT (relT l dir)))) := rfl
      have hksE : setT (fsT (relT l dir)) = sortT (nmsT (relT l dir)) := (nms_set _).symm
      rw [hdirT, hksE]
      obtain ⟨rl, hrl⟩ : ∃ rl, rl = relT l dir := ⟨_, rfl⟩
      rw [← hrl] at hr ⊢
      have hkm : ∀ n ∈ sortT (nmsT rl), n ∈ nmsT rl := fun n hn => (sortT_perm _).mem_iff.1 hn
      have hkl : (sortT (nmsT rl)).length ≤ 60 := by rw [(sortT_perm _).length_eq]; exact Nat.le_trans (nms_len _) hr.len
      have hchk := nods_chk hr (dirT d)
      have hPN := PackNodes_ok (st := false) (fl := false) _ (chk_fit hchk)
      generalize hks : sortT (nmsT rl) = ks at *
      refine pB [.b false] rfl ?_
      refine S_ghostF (t := 9) 3 ⟨false, none⟩ rfl rfl ⟨_, _, .inl rfl⟩ ?_
      refine S_dead ?_ ⟨_, _, .inl rfl⟩
      refine S_nilF 10 1 true false rfl ⟨_, _, .inl rfl⟩ ?_
      refine S_while (α := Nat) (fun j => [(0, .sl st fl 3 (fils l)), (1, .str dir), (6, .sl true false 1 (texts ks)), (11, .int .i64 (j : Nat)), (9, .ms 0 j 0 j 3 false), (10, .sl true false 1 (texts (setT (blbsT (dirT d) rl (ks.take j)))))])
        (fun j => [(j, some (.cells ((nodes (nodsT (dirT d) rl (ks.take j))).flatMap AV.cells) ⟨false, none⟩)), (j, none)]) (fun j => j ≤ ks.length) (fun j => ks.length - j) 0
        (Nat.zero_le _) (.cons rfl (.cons rfl (.cons rfl (.cons rfl (.cons rfl (.cons (by show AV.sl true false 1 [] = AV.sl true false 1 (texts (setT [])); rw [set_nil]; rfl) (.nil _))))))) rfl ?_
      intro j hj
      have hj : j ≤ ks.length := hj
      by_cases hjt : j < ks.length
      · have e2 : decide ((j : Int) < (((texts ks).length : Nat) : Int)) = true := decide_eq_true (by rw [txl]; omega)
        have g2 : (texts ks)[(j : Int).toNat]? = some (.str ks[j]) := texts_gt hjt
        have hn := hkm _ (List.getElem_mem hjt)
        have hnl : ks[j].length ≤ 100 := by
          obtain ⟨f, hf, he⟩ := nms_mem.1 hn
          have h1 := (path_fst (hr.path _ hf)).2.1
          have h2 := fst_len f.path
          rw [he] at h2; omega
        obtain ⟨P, hP⟩ : ∃ P, P = pathT dir ks[j] := ⟨_, rfl⟩
        by_cases hd : dir = []
        case' pos =>
          have e3 : (!(dir == [])) = false := by rw [hd]; rfl
          have hPv : P = ks[j] := by rw [hP, pathT, if_pos hd]
          refine pa [.b true, .v (.str ks[j]), .b false, .v (.str ks[j])] rfl ?_ ?_
        case' neg =>
          have e3 : (!(dir == [])) = true := by simpa using hd
          have hPv : P = dir ++ [47] ++ ks[j] := by rw [hP, pathT, if_neg hd]
          refine pa [.b true, .v (.str ks[j]), .b true, .v (.str ks[j])] rfl ?_ ?_
        case pos.refine_1 | neg.refine_1 =>
          (repeat' with_reducible apply AllP_cons) <;> try exact aC
          all_goals (show ((((dir ++ [47]).length + ks[j].length : Nat) : Int) ≤ 9223372036854775807); rw [List.length_append, List.length_singleton]; omega)
        all_goals
          refine S_while (α := Nat) (fun k => [(0, .sl st fl 3 (fils l)), (1, .str dir), (6, .sl true false 1 (texts ks)), (11, .int .i64 (j : Nat)), (9, .ms 0 j 0 j 3 false), (10, .sl true false 1 (texts (setT (blbsT (dirT d) rl (ks.take j))))), (12, .str P), (13, .ptr 1 (j + 1) 0), (14, .str (txK l P k)), (15, .int .i64 (k : Nat))])
            (fun k => [(j, some (.cells ((nodes (nodsT (dirT d) rl (ks.take j))).flatMap AV.cells) ⟨false, none⟩)), (j + 1, some (.cells [.str ks[j], .int .i64 (kdK l P k : Nat), .str []] ⟨false, some 125⟩))]) (fun k => k ≤ l.length) (fun k => l.length - k) 0
            (Nat.zero_le _) (.cons rfl (.cons rfl (.cons rfl (.cons rfl (.cons rfl (.cons rfl (.cons (by rw [hPv]; rfl) (.cons rfl (.cons rfl (.cons rfl (.nil _))))))))))) rfl ?_
          clear hPv
          intro k hk
          have hk : k ≤ l.length := hk
          by_cases hkt : k < l.length
          · have e4 : decide ((k : Int) < (((fils l).length : Nat) : Int)) = true := decide_eq_true (by omega)
            have g4 : (fils l)[(k : Int).toNat]? = some (filA l[k]) := fils_get hkt
            have hfs := find_step (P := P) hkt hl.ok
            by_cases heq : l[k].path = P
            · rw [if_pos heq] at hfs
              have e5 : (l[k].path == P) = true := by simpa using heq
              cases hrun : l[k].run with
              | true =>
                have g5 : (fils l)[(k : Int).toNat]? = some (.agg [.str l[k].path, .str l[k].text, .bool true]) := by rw [g4, ← hrun]; rfl
                refine pa [.b true, .v (filA l[k]), .b true, .d 6 7 [] (fun σ => σ.head! :: (j + 1, some (.cells [.str ks[j], .int .i64 1, .str []] ⟨false, some 125⟩)) :: []) [filA l[k], .tup []], .v (.agg [.str l[k].path, .str l[k].text, .bool true]), .b true] rfl ?_ ?_
                · (repeat' with_reducible apply AllP_cons) <;> try exact aC
                  all_goals trace_state
                  all_goals sorry
                exact S_round (k + 1) (by show l.length - (k + 1) < l.length - k; omega) hkt (.cons rfl (.cons rfl (.cons rfl (.cons rfl (.cons rfl (.cons rfl (.cons rfl (.cons rfl (.cons (by unfold txK; rw [hfs]; rfl) (.cons (nX (by omega)) (.nil _))))))))))) (by unfold kdK; rw [hfs]; simp only [hrun]; rfl)
              | false =>
                have g5 : (fils l)[(k : Int).toNat]? = some (.agg [.str l[k].path, .str l[k].text, .bool false]) := by rw [g4, ← hrun]; rfl
                refine pa [.b true, .v (filA l[k]), .b true, .d 6 7 [] (fun σ => σ.head! :: (j + 1, some (.cells [.str ks[j], .int .i64 1, .str []] ⟨false, some 125⟩)) :: []) [filA l[k], .tup []], .v (.agg [.str l[k].path, .str l[k].text, .bool false]), .b false] rfl ?_ ?_
                · (repeat' with_reducible apply AllP_cons) <;> try exact aC
                  all_goals trace_state
                  all_goals sorry
                exact S_round (k + 1) (by show l.length - (k + 1) < l.length - k; omega) hkt (.cons rfl (.cons rfl (.cons rfl (.cons rfl (.cons rfl (.cons rfl (.cons rfl (.cons rfl (.cons (by unfold txK; rw [hfs]; rfl) (.cons (nX (by omega)) (.nil _))))))))))) (by unfold kdK; rw [hfs]; simp only [hrun]; rfl)
            · rw [if_neg heq] at hfs
              have e5 : (l[k].path == P) = false := by simpa using heq
              refine pa [.b true, .v (filA l[k]), .b false] rfl ?_ ?_
              · (repeat' with_reducible apply AllP_cons) <;> try exact aC
                all_goals trace_state
                all_goals sorry
              exact S_round (k + 1) (by show l.length - (k + 1) < l.length - k; omega) hkt (.cons rfl (.cons rfl (.cons rfl (.cons rfl (.cons rfl (.cons rfl (.cons rfl (.cons rfl (.cons (by unfold txK; rw [hfs]; rfl) (.cons (nX (by omega)) (.nil _))))))))))) (by unfold kdK; rw [hfs])
          · have hkl2 : k = l.length := by omega
            subst hkl2
            have e4 : decide ((l.length : Int) < (((fils l).length : Nat) : Int)) = false := decide_eq_false (by omega)
            have hWb : (blbsT (dirT d) rl (ks.take (j + 1))).length ≤ 60060 := by
              refine Nat.le_trans (blb_take _ _ _ _) ?_
              have h1 := blb_count hr
              have h2 : (dirT (d + 1) rl).2 = blbsT (dirT d) rl (sortT (nmsT rl)) := rfl
              rw [h2, hks] at h1
              have h3 := hr.len
              have h4 : rl.length * (d + 1) ≤ 60 * (d + 1) := Nat.mul_le_mul_right _ h3
              omega
            have hstep : ∀ e : NodeV × List (List UInt8), entT (dirT d) ks[j] (grT rl ks[j]) = e → nodsT (dirT d) rl (ks.take (j + 1)) = nodsT (dirT d) rl (ks.take j) ++ [e.1] ∧ blbsT (dirT d) rl (ks.take (j + 1)) = blbsT (dirT d) rl (ks.take j) ++ e.2 := by
              intro e he
              unfold nodsT blbsT
              rw [List.take_succ_eq_append_getElem hjt, List.map_append, List.flatMap_append]
              simp only [List.map_cons, List.map_nil, List.flatMap_cons, List.flatMap_nil, List.append_nil]
              rw [he]; exact ⟨rfl, rfl⟩
            have hend : ∀ (m : NodeV), nodsT (dirT d) rl (ks.take (j + 1)) = nodsT (dirT d) rl (ks.take j) ++ [m] → (nodes (nodsT (dirT d) rl (ks.take j))).flatMap AV.cells ++ [.str m.name, .int .i64 m.kind, .str m.dig] = (nodes (nodsT (dirT d) rl (ks.take (j + 1)))).flatMap AV.cells := by
              intro m hm
              rw [hm]; unfold nodes
              rw [List.map_append, List.flatMap_append]; rfl
            have hcn : ((nodes (nodsT (dirT d) rl (ks.take j))).flatMap AV.cells).length = j * 3 := by
              rw [ncel_len]; unfold nodsT; rw [List.length_map, List.length_take, Nat.min_eq_left (by omega)]
            have hnc : ks[j].count 47 = 0 := by
              obtain ⟨f, _, he⟩ := nms_mem.1 hn
              rw [← he]; exact fst_no _
            have hn0 : ks[j] ≠ [] := by
              obtain ⟨f, hf, he⟩ := nms_mem.1 hn
              intro h0
              have := (path_fst (hr.path _ hf)).1
              rw [he, h0] at this; simp [isName] at this
            rcases hr.sub hn with ⟨f, hf, hfp, hfr, hgf⟩ | ⟨hne, hsub⟩
            · have hfind : ∃ g, l.find? (fun f => f.path == P) = some g ∧ g.text = f.text ∧ g.run = f.run := by
                obtain ⟨g, hg, h1, h2, h3⟩ := (rel_file (l := l) (dir := dir) (n := ks[j]) (f := f) hn0).1 ⟨f, by rw [← hrl]; exact hf, hfp, rfl, rfl⟩
                rw [← hP] at h1
                cases hq : l.find? (fun f => f.path == P) with
                | none => rw [List.find?_eq_none] at hq; exact absurd (by simpa using h1) (hq g hg)
                | some g' =>
                  have h4 := List.mem_of_find?_eq_some hq
                  have h5 : g'.path = P := by simpa using List.find?_some hq
                  have := ok_uniq hl.ok h4 hg (h5.trans h1.symm)
                  subst this
                  exact ⟨_, rfl, h2, h3⟩
              obtain ⟨g, hg1, hg2, hg3⟩ := hfind
              have htx : txK l P l.length = f.text := by unfold txK; rw [List.take_length, hg1]; exact hg2
              have hft := hr.text f hf
              have hS := SumR_ok f.text (by omega)
              rw [htx]
              cases hrun : f.run with
              | true =>
                have hkd : kdK l P l.length = 2 := by unfold kdK; rw [List.take_length, hg1]; show (if g.run = true then 2 else 1) = 2; rw [hg3, hrun]; rfl
                rw [hkd]
                have hent : entT (dirT d) ks[j] (grT rl ks[j]) = (⟨ks[j], 2, sha f.text⟩, [f.text]) := by rw [hgf, entT, if_pos rfl, hrun]; rfl
                obtain ⟨s1, s2⟩ := hstep _ hent
                have hA := AddText_ok (fl := false) (setT (blbsT (dirT d) rl (ks.take j))) f.text (by rw [s2, List.length_append] at hWb; have := setT_len (blbsT (dirT d) rl (ks.take j)); omega)
                rw [set_step] at hA
                simp only at s2
                rw [← s2] at hA
                refine pan 42 [.b false, .b false, .v (.sl true false 1 (texts (setT (blbsT (dirT d) rl (ks.take (j + 1)))))), .v (.str (sha f.text))] rfl ?_ ?_
                · (repeat' with_reducible apply AllP_cons) <;> try exact aC
                  · exact ⟨_, hA, .cons (.refl (.sl (fun h => by cases h) (texts_any _))) (.cons (.refl .str) (.nil _))⟩
                  · exact ⟨_, hS, .cons (.refl .str) (.nil _)⟩
                  · show 0 + j * 3 = _
                    rw [hcn]; omega
                  · show (j + 1) * 40 ≤ 140737488355328
                    omega
                refine S_drop (id := 1) rfl ?_ ⟨.skip, _, .inr ⟨_, _, _, rfl⟩⟩
                refine S_heap [(j + 1, some (.cells ((nodes (nodsT (dirT d) rl (ks.take (j + 1)))).flatMap AV.cells) ⟨false, none⟩)), (j + 1, none)] ?_ ?_
                · rw [← hend _ s1]; rfl
                refine pB [] rfl ?_
                exact S_round (j + 1) (by show ks.length - (j + 1) < ks.length - j; omega) hjt (.cons rfl (.cons rfl (.cons rfl (.cons (nX (by omega)) (.cons rfl (.cons rfl (.nil _))))))) rfl
              | false =>
                have hkd : kdK l P l.length = 1 := by unfold kdK; rw [List.take_length, hg1]; show (if g.run = true then 2 else 1) = 1; rw [hg3, hrun]; rfl
                rw [hkd]
                have hent : entT (dirT d) ks[j] (grT rl ks[j]) = (⟨ks[j], 1, sha f.text⟩, [f.text]) := by rw [hgf, entT, if_pos rfl, hrun]; rfl
                obtain ⟨s1, s2⟩ := hstep _ hent
                have hA := AddText_ok (fl := false) (setT (blbsT (dirT d) rl (ks.take j))) f.text (by rw [s2, List.length_append] at hWb; have := setT_len (blbsT (dirT d) rl (ks.take j)); omega)
                rw [set_step] at hA
                simp only at s2
                rw [← s2] at hA
                refine pan 42 [.b false, .b false, .v (.sl true false 1 (texts (setT (blbsT (dirT d) rl (ks.take (j + 1)))))), .v (.str (sha f.text))] rfl ?_ ?_
                · (repeat' with_reducible apply AllP_cons) <;> try exact aC
                  · exact ⟨_, hA, .cons (.refl (.sl (fun h => by cases h) (texts_any _))) (.cons (.refl .str) (.nil _))⟩
                  · exact ⟨_, hS, .cons (.refl .str) (.nil _)⟩
                  · show 0 + j * 3 = _
                    rw [hcn]; omega
                  · show (j + 1) * 40 ≤ 140737488355328
                    omega
                refine S_drop (id := 1) rfl ?_ ⟨.skip, _, .inr ⟨_, _, _, rfl⟩⟩
                refine S_heap [(j + 1, some (.cells ((nodes (nodsT (dirT d) rl (ks.take (j + 1)))).flatMap AV.cells) ⟨false, none⟩)), (j + 1, none)] ?_ ?_
                · rw [← hend _ s1]; rfl
                refine pB [] rfl ?_
                exact S_round (j + 1) (by show ks.length - (j + 1) < ks.length - j; omega) hjt (.cons rfl (.cons rfl (.cons rfl (.cons (nX (by omega)) (.cons rfl (.cons rfl (.nil _))))))) rfl
            · have hno : ∀ f ∈ rl, f.path ≠ ks[j] := by
                intro f hf e
                have hfs : fstT f.path = ks[j] := by
                  rw [e]
                  rcases fst_ok ks[j] with ⟨_, h, _⟩ | ⟨h, _⟩
                  · exact h
                  · omega
                have hrs : rstT f.path = [] := by
                  rw [e]
                  rcases fst_ok ks[j] with ⟨_, _, h⟩ | ⟨h, _⟩
                  · exact h
                  · omega
                exact hne (stp f) (List.mem_map.2 ⟨f, List.mem_filter.2 ⟨hf, by simpa using hfs⟩, rfl⟩) hrs
              have hfind : l.find? (fun f => f.path == P) = none := by
                rw [List.find?_eq_none]
                intro g hg hgp
                have hgp : g.path = P := by simpa using hgp
                obtain ⟨g', hg', h1, _⟩ := (rel_file (l := l) (dir := dir) (n := ks[j]) (f := g) hn0).2 ⟨g, hg, by rw [hgp, hP], rfl, rfl⟩
                exact hno g' (by rw [hrl]; exact hg') h1
              have htx : txK l P l.length = [] := by unfold txK; rw [List.take_length, hfind]
              have hkd : kdK l P l.length = 3 := by unfold kdK; rw [List.take_length, hfind]
              have hrg : relT l P = grT rl ks[j] := by rw [hP, hrl]; exact rel_grp hnc hn0 (by rw [← hrl]; exact hno)
              have hgne := gr_ne hn
              obtain ⟨f0, r0, hfr⟩ : ∃ f r, grT rl ks[j] = f :: r := by
                cases hq : grT rl ks[j] with
                | nil => exact absurd hq hgne
                | cons f r => exact ⟨f, r, rfl⟩
              have hd1 : ∃ d', d = d' + 1 := by
                cases d with
                | zero => have := hsub.dep f0 (by rw [hfr]; simp); omega
                | succ d' => exact ⟨d', rfl⟩
              obtain ⟨d', hd1⟩ := hd1
              have hP0 : P ≠ [] := by rw [hP]; unfold pathT; split <;> simp [hn0]
              have hPl : P.length ≤ 100 := by
                have h1 : f0 ∈ relT l P := by rw [hrg, hfr]; simp
                rw [relT, if_neg hP0] at h1
                obtain ⟨g, hg, hi, _⟩ := und_mem.1 h1
                have h2 := ((ins_iff P g.path).1 hi).1
                have h3 := (path_fst (hl.path _ hg)).2.1
                omega
              have hih := ih d' (by omega) P (by omega) (by omega) (by rw [hrg, ← hd1]; exact hsub)
              rw [hrg, ← hd1] at hih
              have hent : entT (dirT d) ks[j] (grT rl ks[j]) = (⟨ks[j], 3, sha (dirT d (grT rl ks[j])).1⟩, (dirT d (grT rl ks[j])).2 ++ [(dirT d (grT rl ks[j])).1]) := by
                rw [hfr, entT, if_neg (hne f0 (by rw [hfr]; simp))]
              obtain ⟨s1, s2⟩ := hstep _ hent
              have hsl := dir_len hsub
              rw [htx, hkd]
              generalize dirT d (grT rl ks[j]) = y at *
              obtain ⟨tx, tb⟩ := y
              simp only at s1 s2 hsl
              obtain ⟨A, hA⟩ : ∃ A, A = blbsT (dirT d) rl (ks.take j) := ⟨_, rfl⟩
              rw [← hA] at s2 ⊢
              rw [s2] at hWb
              rw [List.length_append, List.length_append, List.length_singleton] at hWb
              have hMl := setT_len tb
              have hS := SumR_ok tx (by omega)
              refine pa [.b false, .b true, .v (dirAV (tx, tb))] rfl ?_ ?_
              · (repeat' with_reducible apply AllP_cons) <;> try exact aC
                · exact ⟨_, hih, .cons (.refl (.sl (fun h => by cases h) (fils_free l))) (.cons (.refl .str) (.nil _))⟩
              refine S_while (α := Nat) (fun k => [(0, .sl st fl 3 (fils l)), (1, .str dir), (6, .sl true false 1 (texts ks)), (11, .int .i64 (j : Nat)), (9, .ms 0 j 0 j 3 false), (10, .sl true false 1 (texts (setT (A ++ (setT tb).take k)))), (13, .ptr 1 (j + 1) 0), (14, .str tx), (17, .sl true false 1 (texts (setT tb))), (18, .int .i64 (k : Nat))])
                (fun k => [(j, some (.cells ((nodes (nodsT (dirT d) rl (ks.take j))).flatMap AV.cells) ⟨false, none⟩)), (j + 1, some (.cells [.str ks[j], .int .i64 (3 : Nat), .str []] ⟨false, some 125⟩))]) (fun k => k ≤ (setT tb).length) (fun k => (setT tb).length - k) 0
                (Nat.zero_le _) (.cons rfl (.cons rfl (.cons rfl (.cons rfl (.cons rfl (.cons (by rw [List.take_zero, List.append_nil]; rfl) (.cons rfl (.cons rfl (.cons rfl (.cons rfl (.nil _))))))))))) rfl ?_
              intro k hk
              have hk : k ≤ (setT tb).length := hk
              by_cases hkt : k < (setT tb).length
              · have e6 : decide ((k : Int) < (((texts (setT tb)).length : Nat) : Int)) = true := decide_eq_true (by rw [txl]; omega)
                have g6 : (texts (setT tb))[(k : Int).toNat]? = some (.str (setT tb)[k]) := texts_gt hkt
                have hB := AddText_ok (fl := false) (setT (A ++ (setT tb).take k)) (setT tb)[k] (by
                  have h1 := setT_len (A ++ (setT tb).take k)
                  rw [List.length_append, List.length_take] at h1; omega)
                have hBe : texts (addT (setT (A ++ (setT tb).take k)) (setT tb)[k]) = texts (setT (A ++ (setT tb).take (k + 1))) := by
                  rw [set_step, List.take_succ_eq_append_getElem hkt, List.append_assoc]
                rw [hBe] at hB
                refine pa [.b true, .v (.str (setT tb)[k]), .v (.sl true false 1 (texts (setT (A ++ (setT tb).take (k + 1)))))] rfl ?_ ?_
                · (repeat' with_reducible apply AllP_cons) <;> try exact aC
                  · exact ⟨_, hB, .cons (.refl (.sl (fun h => by cases h) (texts_any _))) (.cons (.refl .str) (.nil _))⟩
                exact S_round (k + 1) (by show (setT tb).length - (k + 1) < (setT tb).length - k; omega) hkt (.cons rfl (.cons rfl (.cons rfl (.cons rfl (.cons rfl (.cons rfl (.cons rfl (.cons rfl (.cons rfl (.cons (nX (by omega)) (.nil _))))))))))) rfl
              have hke : k = (setT tb).length := by omega
              subst hke
              have e6 : decide ((((setT tb).length : Nat) : Int) < (((texts (setT tb)).length : Nat) : Int)) = false := decide_eq_false (by rw [txl]; omega)
              have hAe : setT (A ++ (setT tb).take (setT tb).length) = setT (A ++ tb) := setT_ext fun x => by
                rw [List.take_length, List.mem_append, List.mem_append, setT_mem]
              rw [hAe]
              have hA' := AddText_ok (fl := false) (setT (A ++ tb)) tx (by
                have h1 := setT_len (A ++ tb)
                rw [List.length_append] at h1; omega)
              rw [set_step, List.append_assoc, ← s2] at hA'
              have hA := hA'
              refine pan 35 [.b false, .v (.sl true false 1 (texts (setT (blbsT (dirT d) rl (ks.take (j + 1)))))), .v (.str (sha tx))] rfl ?_ ?_
              · (repeat' with_reducible apply AllP_cons) <;> try exact aC
                · exact ⟨_, hA, .cons (.refl (.sl (fun h => by cases h) (texts_any _))) (.cons (.refl .str) (.nil _))⟩
                · exact ⟨_, hS, .cons (.refl .str) (.nil _)⟩
                · show 0 + j * 3 = _
                  rw [hcn]; omega
                · show (j + 1) * 40 ≤ 140737488355328
                  omega
              refine S_drop (id := 1) rfl ?_ ⟨.skip, _, .inr ⟨_, _, _, rfl⟩⟩
              refine S_heap [(j + 1, some (.cells ((nodes (nodsT (dirT d) rl (ks.take (j + 1)))).flatMap AV.cells) ⟨false, none⟩)), (j + 1, none)] ?_ ?_
              · rw [← hend _ s1]; rfl
              refine pB [] rfl ?_
              exact S_round (j + 1) (by show ks.length - (j + 1) < ks.length - j; omega) hjt (.cons rfl (.cons rfl (.cons rfl (.cons (nX (by omega)) (.cons rfl (.cons rfl (.nil _))))))) rfl
      · have hje : j = ks.length := by omega
        subst hje
        have e2 : decide ((ks.length : Int) < (((texts ks).length : Nat) : Int)) = false := decide_eq_false (by rw [txl]; omega)
        rw [List.take_length]
        have hnn : (nodsT (dirT d) rl ks).length = ks.length := by unfold nodsT; exact List.length_map ..
        have hcn := ncel_len (nodsT (dirT d) rl ks)
        refine pa [.b false, .v (.str (packNs (nodsT (dirT d) rl ks)))] rfl ?_ ?_
        · (repeat' with_reducible apply AllP_cons) <;> try exact aC
          · exact ⟨_, hPN, .cons (.ms rfl (by show 0 + ks.length * 3 ≤ _; omega) (by rw [List.drop_zero, List.take_of_length_le (by omega)]) (by intro x hx; obtain ⟨y, _, rfl⟩ := List.mem_map.1 hx; rfl) (by rw [nodes_len]; exact hnn) (nodes_any _)) (.nil _)⟩
        exact S_retc (dirAV_free _) rfl trivial rfl
end Go.Proofs.YtjkeekbfgnmngaaGreatDoor
end
section
set_option linter.unusedVariables false
set_option linter.unusedSimpArgs false
set_option maxRecDepth 20000
set_option maxHeartbeats 4000000
namespace Go.Proofs.YtjkeekbfgnmngaaGreatDoor
open Go Go.Ab
theorem rel_nil (l : List Fil) : relT l [] = l := if_pos rfl
theorem blob_set (l : List Fil) : blobT l = setT ((dirT 101 l).2 ++ [(dirT 101 l).1]) := by
  unfold blobT setT
  rw [List.foldl_append]; rfl
theorem Dir0_ok {st fl : Bool} (l : List Fil) (h : chkT l = 0) : Calc cx 45 [.sl st fl 3 (fils l), .str []] (dirAV (dirT 101 l)) := by
  have hd := DirOk.of h
  have := Directory_ok (st := st) (fl := fl) l hd 100 [] (by decide) (by decide) (by rw [rel_nil]; exact hd)
  rwa [rel_nil] at this
theorem TreeBlobsR_ok {st fl : Bool} (l : List Fil) (h : chkT l = 0) : Calc cx 20 [.sl st fl 3 (fils l)] (.sl true false 1 (texts (blobT l))) :=
  pure_intro (fun a w => Tryz.call20 a w) Tryz.func20 rfl Tryz.ntmps20 rfl (.sl (fun _ => rfl) (texts_any _)) fun B => by
    have hd := DirOk.of h
    have hD := Dir0_ok (st := st) (fl := fl) l h
    have hA := AddText_ok (fl := false) (setT (dirT 101 l).2) (dirT 101 l).1 (by
      have h1 := setT_len (dirT 101 l).2
      have h2 := blb_count hd
      have h3 := hd.len
      have h4 : l.length * 101 ≤ 60 * 101 := Nat.mul_le_mul_right _ h3
      omega)
    rw [set_step, ← blob_set] at hA
    refine pa [.v (dirAV (dirT 101 l)), .v (.sl true false 1 (texts (blobT l)))] rfl ?_ ?_
    · (repeat' with_reducible apply AllP_cons) <;> try exact aC
      · exact ⟨_, hD, .cons (.refl (.sl (fun h => by cases h) (fils_free l))) (.cons (.refl .str) (.nil _))⟩
      · exact ⟨_, hA, .cons (.refl (.sl (fun h => by cases h) (texts_any _))) (.cons (.refl .str) (.nil _))⟩
    exact S_retc (.sl (fun _ => rfl) (texts_any _)) rfl trivial rfl
end Go.Proofs.YtjkeekbfgnmngaaGreatDoor
end
section
set_option linter.unusedVariables false
set_option linter.unusedSimpArgs false
set_option maxRecDepth 20000
namespace Go.Proofs.YtjkeekbfgnmngaaGreatDoor
open Go Go.Ab
theorem rAct_pack (x : ActV) (rest : List UInt8) (he : actE x = 0) : rAct (packA x ++ rest) = some (x, rest) := by
  obtain ⟨h1, h2, h3, h4, h5, m, hm, hm1⟩ := actE_fit he
  obtain ⟨c, i, o, f⟩ := x
  simp only at h1 h2 h3 h4 h5 hm
  subst hm
  have e : packA ⟨c, i, o, m⟩ ++ rest = packTs c ++ (packT i ++ (packTs o ++ (packN 9 m ++ rest))) := by simp [packA]
  rw [e]
  unfold rAct
  rw [rTexts_pack c _ (by omega) h2]
  simp only
  rw [rText_pack i _ (by omega)]
  simp only
  rw [rTexts_pack o _ (by omega) (fun s hs => by have := h5 s hs; omega)]
  simp only
  rw [rNum_pack m _ hm1]
theorem readA_pack (x : ActV) (he : actE x = 0) : readA (packA x) = (x, 0) := by
  have := rAct_pack x [] he
  rw [List.append_nil] at this
  simp only [readA, this, he, and_self, if_true]
theorem packA_len {x : ActV} (he : actE x = 0) : (packA x).length ≤ 20000000 := by
  obtain ⟨h1, h2, h3, h4, h5, m, hm, hm1⟩ := actE_fit he
  have l1 := packTs_bd h1 h2
  have l2 : (packT x.inp).length ≤ 74 := by have := packN_len 9 x.inp.length; rw [packT, List.length_append]; omega
  have l3 := packTs_bd h4 (fun s hs => by have := h5 s hs; omega)
  have l4 := packN_len 9 x.fuel.toNat
  simp only [packA, List.length_append]; omega
end Go.Proofs.YtjkeekbfgnmngaaGreatDoor
end
section
set_option linter.unusedVariables false
set_option linter.unusedSimpArgs false
set_option maxRecDepth 20000
namespace Go.Proofs.YtjkeekbfgnmngaaGreatDoor
open Go Go.Ab
theorem open_l {H : Type} {d : DataW H} {a : AV} (h : RdD Tryz.prog 30 d a) : ∃ l : List (List UInt8), a = .sl true false 1 (texts l) := by
  obtain ⟨ds, xs, rfl, hl, hm, hall, _⟩ := h.inv_sl Tryz.underlying30
  obtain ⟨ys, rfl, hy, hg⟩ := RdD.each AV.str (fun _ _ => True) hl hall (fun d x h => by
    obtain ⟨s, _, rfl, _⟩ := h.inv_str Tryz.underlying9
    exact ⟨s, rfl, trivial⟩)
  have hc : Tryz.prog.cellsOf 9 = 1 := by kernel_rfl
  exact ⟨ys, by rw [hc]; rfl⟩
end Go.Proofs.YtjkeekbfgnmngaaGreatDoor
end
section
set_option linter.unusedVariables false
set_option linter.unusedSimpArgs false
set_option maxRecDepth 20000
namespace Go.Proofs.YtjkeekbfgnmngaaGreatDoor
open Go Go.Ab
theorem open_A {H : Type} {d : DataW H} {a : AV} (h : RdD Tryz.prog 40 d a) : ∃ x : ActV, a = actAV true x := by
  obtain ⟨ds, xs, rfl, rfl, hall⟩ := h.inv_st Tryz.underlying40
  obtain ⟨d0, ds, x0, xs, rfl, rfl, h0, hall⟩ := hall.cons
  obtain ⟨d1, ds, x1, xs, rfl, rfl, h1, hall⟩ := hall.cons
  obtain ⟨d2, ds, x2, xs, rfl, rfl, h2, hall⟩ := hall.cons
  obtain ⟨d3, ds, x3, xs, rfl, rfl, h3, hall⟩ := hall.cons
  obtain ⟨rfl, rfl⟩ := hall.nil
  obtain ⟨l0, rfl⟩ := open_l h0
  obtain ⟨s1, rfl, rfl, _⟩ := h1.inv_str Tryz.underlying9
  obtain ⟨l2, rfl⟩ := open_l h2
  obtain ⟨n3, rfl, rfl, _⟩ := h3.inv_int Tryz.underlying3
  exact ⟨⟨l0, s1, l2, n3⟩, rfl⟩
end Go.Proofs.YtjkeekbfgnmngaaGreatDoor
end
section
set_option linter.unusedVariables false
set_option linter.unusedSimpArgs false
set_option maxRecDepth 20000
set_option maxHeartbeats 8000000
namespace Go.Proofs.YtjkeekbfgnmngaaGreatDoor
open Go Go.Ab
theorem app_litT {n : Nat} {fr : Fr} {σ : Heap} {o : Oper} {s x : Operand} {t u : TypeId} {st st' fl' : Bool} {l : List (List UInt8)} (ho : o.op = .call { callee := .builtin .append, args := #[s, x], argTypes := #[t, u] }) (hel : elemInfo cx.P t = some (9, 1, 16)) (hnt : notInt cx.P u = true)
    (hs : ev cx fr s = .sl st true 1 []) (hx : ev cx fr x = .sl st' fl' 1 (texts l)) (hσ : Alive σ) (hl : l.length ≤ 1000000000) : OpSpec cx n fr σ o (.ms σ.length 0 0 l.length 1 false) (σ ++ [(0, some (.cells (texts l) ⟨false, none⟩))]) := by
  have hone : ∀ y ∈ texts l, y.one = true := fun y hy => by obtain ⟨z, _, rfl⟩ := List.mem_map.1 hy; rfl
  have h := OpSpec.appendS (n := n) (σ := σ) (xs := []) (ys := texts l) (zs := texts l) (m := (texts l).length) (y := .sl st' fl' 1 (texts l)) (sz := 1) (by_ := 16) ho hel hnt hs hx rfl ⟨rfl, hone, trivial⟩ hone (by intro z hz; cases hz) (.inr rfl) hσ
    (by rw [texts_len]; show (0 + l.length) * 16 ≤ _; omega) (by rw [texts_len]; show 0 + l.length ≤ _; omega) rfl
  rw [texts_len, show ([] : List AV).length + l.length = l.length from Nat.zero_add _] at h
  exact h
structure RAtT (l : List (List UInt8)) (a : ActV) (σ : Heap) (tv : AV) : Prop where
  al : Alive σ
  ln : 0 < σ.length
  ab : σ[0]? = some (0, some (.cells [.sl true false 1 (texts a.cmd), .str a.inp, .sl true false 1 (texts a.outs), .int .i64 a.fuel] ⟨false, some 40⟩))
  tb : (l = [] ∧ tv = .sl true true 1 []) ∨ (tv = .ms 1 0 0 l.length 1 false ∧ 1 < σ.length ∧ σ[1]? = some (0, some (.cells (texts l) ⟨false, none⟩)))
theorem RAtT.mono {l : List (List UInt8)} {a : ActV} {σ σ' : Heap} {tv : AV} (h : RAtT l a σ tv) (hl : σ.length ≤ σ'.length) (ha : Alive σ') (hs : ∀ i, i < σ.length → σ'[i]? = σ[i]?) : RAtT l a σ' tv := by
  refine ⟨ha, Nat.lt_of_lt_of_le h.ln hl, by rw [hs 0 h.ln]; exact h.ab, ?_⟩
  rcases h.tb with h1 | ⟨h1, h2, h3⟩
  · exact .inl h1
  · exact .inr ⟨h1, by omega, by rw [hs 1 h2]; exact h3⟩
theorem RAtT.up {l : List (List UInt8)} {a : ActV} {σ u : Heap} {tv : AV} (h : RAtT l a σ tv) (hu : Up σ u) : RAtT l a u tv := by
  obtain ⟨τ, rfl, ht⟩ := hu
  exact h.mono (by simp) (alive_apps h.al ht) fun i hi => List.getElem?_append_left hi
theorem RAtT.frt {l : List (List UInt8)} {a : ActV} {σ : Heap} {tv : AV} (h : RAtT l a σ tv) : Frz false σ tv (.sl false false 1 (texts l)) := by
  have hcl := texts_len l
  rcases h.tb with ⟨rfl, rfl⟩ | ⟨rfl, h2, h3⟩
  · exact .lend rfl (fun h => by cases h) (by intro x hx; cases hx)
  · exact .ms (cs := texts l) (by unfold boxAt; rw [h3]) (by omega) (by rw [List.drop_zero, ← flatTx]; exact List.take_of_length_le (by omega)) (fun y hy => by obtain ⟨z, _, rfl⟩ := List.mem_map.1 hy; rfl) (texts_len _) (texts_any _)
theorem proofE_0 {l : List (List UInt8)} {i : Int} (h : proofE l i = 0) : TextsFit l ∧ 0 ≤ i ∧ i < l.length := by
  unfold proofE at h
  split at h
  · rename_i hc; exact absurd h hc
  · rename_i hc
    split at h
    · cases h
    · rename_i h2
      exact ⟨checkL_fit (by omega), by omega, by omega⟩
theorem proofV_len {l : List (List UInt8)} {i : Int} (h : proofE l i = 0) : (proofV l i).length ≤ 1000000000 := by
  obtain ⟨hf, _, _⟩ := proofE_0 h
  have := hf.len
  have h2 := proofL_len _ l i.toNat rfl
  rw [proofV, if_pos h]
  omega
theorem ProofOfZ {st fl : Bool} {l : List (List UInt8)} {i : Int} (h : proofE l i = 0) : Calc cx 19 [.sl st fl 1 (texts l), .int .i64 i] (.sl true false 1 (texts (proofV l i))) := by
  obtain ⟨hf, h0, h1⟩ := proofE_0 h
  obtain ⟨j, rfl⟩ := Int.eq_ofNat_of_zero_le h0
  have := hf.len
  rw [proofV, if_pos h, Int.toNat_natCast]
  exact own_calc (ProofOfC l.length l j rfl (by omega) (by omega) hf)
theorem blob_len {l : List Fil} (h : chkT l = 0) : (blobT l).length ≤ 1000000000 := by
  have hd := DirOk.of h
  unfold blobT
  rw [(sortT_perm _).length_eq]
  have h1 := blb_count hd
  have h2 := addU_fold_len (fun t : List UInt8 => t) (dirT 101 l).2 []
  have h2 : ((dirT 101 l).2.foldl addU []).length ≤ 0 + (dirT 101 l).2.length := h2
  have h3 : (addU ((dirT 101 l).2.foldl addU []) (dirT 101 l).1).length ≤ ((dirT 101 l).2.foldl addU []).length + 1 := by unfold addU; split <;> simp
  have h4 := hd.len
  have h5 : l.length * 101 ≤ 60 * 101 := Nat.mul_le_mul_right _ h4
  omega
theorem RestTexts_ok {st fl : Bool} (l : List (List UInt8)) (i : Int) (files : List Fil) (a : ActV) (hll : l.length ≤ 1048576) (hcl : ∀ x ∈ l, x.length ≤ 1048576) (hf : avB (.sl true false 3 (fils files)) ≤ 1048576) (ha : avB (actAV true a) ≤ 1048576) :
    Calc cx 4 [.sl true false 1 (texts l), .int .i64 i, .sl true false 3 (fils files), actAV true a] (.bool true) :=
  pure_intro (fun a w => Tryz.call4 a w) Tryz.func4 rfl Tryz.ntmps4 rfl .bool fun B => by
    have hlf := fils_of hf
    have hok : ActOk a := actOk_of ha (by decide)
    have htl := texts_len l
    have mv : ∀ {σ : Heap} {fr : Fr} {o : Oper} {v : AV}, aOp cx [] o.dst o.op fr σ = some ([], v, σ) → OpSpec cx 109 fr σ o v σ := fun h => OpSpec.aop h trivial
    have hal0 : Alive [(0, some (Box.cells [.sl true false 1 (texts a.cmd), .str a.inp, .sl true false 1 (texts a.outs), .int .i64 a.fuel] ⟨false, some 40⟩))] := fun e he => by rw [List.mem_singleton.1 he]; exact ⟨_, rfl⟩
    refine' S_shareO (ι := Heap × AV) (fun x => [(0, .sl true false 1 (texts l)), (1, .int .i64 i), (2, .sl true false 3 (fils files)), (7, .ptr 0 0 0), (32, x.2)]) (fun x => x.1) (fun x => RAtT l a x.1 x.2) ?main0 ?rest0
    case main0 =>
      intro hsh
      by_cases hn : l = []
      case neg =>
        refine pao [.f (.ptr 0 0 0) (fun _ => [(0, some (.cells [.sl true false 1 (texts a.cmd), .str a.inp, .sl true false 1 (texts a.outs), .int .i64 a.fuel] ⟨false, some 40⟩))]), .v (.bool true), .b false, .v (.bool true), .b false, .v (.bool true), .b false,
          .f (.ms 1 0 0 l.length 1 false) (fun s => s ++ [(0, some (.cells (texts l) ⟨false, none⟩))]), .s] rfl ?_ ?_
        · (repeat' with_reducible apply AllP_cons) <;> try exact aC
          all_goals first | exact OpSpec.boxE (y := actAV true a) rfl rfl rfl rfl (fun e he => by cases he) | exact ⟨[], digestBegun_ok, .nil _⟩ | exact ⟨[], wireBegun_ok, .nil _⟩ | exact ⟨[], treeBegun_ok, .nil _⟩ | exact app_litT rfl rfl rfl rfl rfl hal0 (by omega) | trace_state
        exact hsh (_, _) _ ⟨alive_apps hal0 (fun e he => by rw [List.mem_singleton.1 he]; exact ⟨_, rfl⟩), Nat.zero_lt_succ _, rfl, .inr ⟨rfl, Nat.lt_succ_self 1, rfl⟩⟩ (.cons rfl (.cons rfl (.cons rfl (.cons rfl (.cons rfl (.nil _))))))
      case pos =>
        subst hn
        refine pao [.f (.ptr 0 0 0) (fun _ => [(0, some (.cells [.sl true false 1 (texts a.cmd), .str a.inp, .sl true false 1 (texts a.outs), .int .i64 a.fuel] ⟨false, some 40⟩))]), .v (.bool true), .b false, .v (.bool true), .b false, .v (.bool true), .b false,
          .f (.sl true true 1 []) (fun s => s), .s] rfl ?_ ?_
        · (repeat' with_reducible apply AllP_cons) <;> try exact aC
          all_goals first | exact OpSpec.boxE (y := actAV true a) rfl rfl rfl rfl (fun e he => by cases he) | exact ⟨[], digestBegun_ok, .nil _⟩ | exact ⟨[], wireBegun_ok, .nil _⟩ | exact ⟨[], treeBegun_ok, .nil _⟩ | exact OpSpec.append0S rfl rfl rfl rfl rfl rfl ⟨rfl, fun y hy => absurd hy (by show ¬ y ∈ ([] : List AV); simp), trivial⟩ | trace_state
        exact hsh (_, _) _ ⟨hal0, Nat.zero_lt_succ _, rfl, .inl ⟨rfl, rfl⟩⟩ (.cons rfl (.cons rfl (.cons rfl (.cons rfl (.cons rfl (.nil _))))))
    case rest0 =>
      rintro ⟨σ1, tv⟩ h1
      have h1 : RAtT l a σ1 tv := h1
      refine pao [.o tv (fun s => s)] rfl ?_ ?_
      · (repeat' with_reducible apply AllP_cons) <;> try exact aC
        exact mv rfl
      refine S_while (α := Nat × Heap) (fun x => [(0, .sl true false 1 (texts l)), (1, .int .i64 i), (2, .sl true false 3 (fils files)), (7, .ptr 0 0 0), (9, tv), (10, .int .i64 (x.1 : Nat))]) (fun x => x.2) (fun x => x.1 ≤ 2 ∧ RAtT l a x.2 tv) (fun x => 2 - x.1) (0, σ1)
        ⟨Nat.zero_le _, h1⟩ (.cons rfl (.cons rfl (.cons rfl (.cons rfl (.cons rfl (.cons rfl (.nil _))))))) rfl ?_
      rintro ⟨k, σ⟩ ⟨hk, h3⟩
      have hk : k ≤ 2 := hk
      have h3 : RAtT l a σ tv := h3
      by_cases hlt : k < 2
      case neg =>
        have d1 : decide ((k : Int) < 2) = false := decide_eq_false (by omega)
        have hA := Action_ok (st := true) a hok
        have hld : AV.agg [.sl true false 1 (texts a.cmd), .str a.inp, .sl true false 1 (texts a.outs), .int .i64 a.fuel] = actAV true a := rfl
        by_cases hE : actE a = 0
        case neg =>
          rw [if_neg hE] at hA
          have e1 : (((actE a : Nat) : Int) != 0) = true := by rw [chk_bne]; simpa using hE
          refine pao [.b false, .v (actAV true a), .v (.tup [.str [], .int .i64 (actE a : Nat)]), .b true] rfl ?_ ?_
          · (repeat' with_reducible apply AllP_cons) <;> try exact aC
            all_goals first | exact OpSpec.loadPA rfl rfl rfl rfl h3.ab (lble rfl) rfl | exact ⟨_, hA, .cons (.refl (actAV_free (fun h => by cases h) a)) (.nil _)⟩ | trace_state
          exact S_retc .bool rfl trivial rfl
        case pos =>
        rw [if_pos hE, hE] at hA
        have hR := readA_pack a hE
        have hx : ∃ r, rAct (packA a) = some (a, r) := by
          have := rAct_pack a [] hE
          rw [List.append_nil] at this
          exact ⟨[], this⟩
        obtain ⟨r0, hx⟩ := hx
        have hpl := packA_len hE
        have hSA := SameAction_ok (st := true) (st' := true) a a hok hok
        rw [beq_self_eq_true, beq_self_eq_true, beq_self_eq_true, beq_self_eq_true] at hSA
        refine pao [.b false, .v (actAV true a), .v (.tup [.str (packA a), .int .i64 ((0 : Nat) : Int)]), .b false] rfl ?_ ?_
        · (repeat' with_reducible apply AllP_cons) <;> try exact aC
          all_goals first | exact OpSpec.loadPA rfl rfl rfl rfl h3.ab (lble rfl) rfl | exact ⟨_, hA, .cons (.refl (actAV_free (fun h => by cases h) a)) (.nil _)⟩ | trace_state
        refine S_while (α := Nat × Heap) (fun x => [(7, .ptr 0 0 0), (15, .str (packA a)), (17, .int .i64 (x.1 : Nat))]) (fun x => x.2) (fun x => x.1 ≤ 2 ∧ RAtT l a x.2 tv) (fun x => 2 - x.1) (0, σ)
          ⟨Nat.zero_le _, h3⟩ (.cons rfl (.cons rfl (.cons rfl (.nil _)))) rfl ?_
        rintro ⟨m, σ4⟩ ⟨hm, h4⟩
        have hm : m ≤ 2 := hm
        have h4 : RAtT l a σ4 tv := h4
        by_cases hlt : m < 2
        case neg =>
          have d1 : decide ((m : Int) < 2) = false := decide_eq_false (by omega)
          refine pao [.b false] rfl ?_ ?_
          · (repeat' with_reducible apply AllP_cons) <;> try exact aC
          exact S_retc .bool rfl trivial rfl
        case pos =>
        have d1 : decide ((m : Int) < 2) = true := decide_eq_true (by omega)
        have hi1 : AV.int .i64 (IntKind.i64.wrap ((m : Int) + 1)) = .int .i64 ((m + 1 : Nat) : Int) := ai64 rfl (by omega)
        refine pao [.b true] rfl ?_ ?_
        · (repeat' with_reducible apply AllP_cons) <;> try exact aC
        refine S_callf [] (ReadAction_raw (packA a) (by omega) hx hE rfl) rfl (.cons (.free .str) (.nil _)) (Part.mk' (es := []) rfl rfl (.nil _)) rfl rfl ?_ ?_
        case refine_2 => intro y σ1 h; obtain ⟨_, _, h, _⟩ := h; cases h
        intro y σ5 h
        obtain ⟨u1, u2, h, rfl⟩ := h
        cases h
        obtain ⟨n, hn⟩ : ∃ n, n = σ4.length := ⟨_, rfl⟩
        have hR : Rns (newIds n 9) (actC 5 u1 u2 a) (actC (n + 5) u1 u2 a) := actC_rn rfl rfl
        have bl : ∀ {v : Nat} {l l' : List AV} {g : Tag}, Rns (newIds n 9) l l' → RnE (newIds n 9) (v, some (.cells l g)) (v, some (.cells l' g)) := fun h => .live (.cells h)
        refine ⟨.tup [.agg (actC (n + 5) u1 u2 a), .int .i64 0], rdBs n u1 u2 a r0, ?_, ?_, ?_⟩
        · rw [← hn]
          exact .cons (bl hR) (.cons (bl hR) (.cons (bl (.cons (.free .int) (.nil _))) (.cons (bl (.cons (.free .str) (.nil _))) (.cons (bl hR) (.cons (bl (Rns.free (texts_any a.cmd))) (.cons (bl (Rns.free (texts_any a.outs))) (.cons (bl hR) (.cons (bl (.nil _)) (.nil _)))))))))
        · rw [← hn]
          exact .tup rfl (fun i h h2 => by
            match i, h, h2 with
            | 0, _, _ => exact .agg hR.1 (fun i h => hR.2 i h)
            | 1, _, _ => exact .free .int)
        show S cx _ _ _ _ _ (σ4 ++ rdBs n u1 u2 a r0)
        have hB : (σ4 ++ rdBs n u1 u2 a r0).length = n + 9 := by rw [List.length_append, hn]; rfl
        have h5 : RAtT l a (σ4 ++ rdBs n u1 u2 a r0) tv := h4.up ⟨_, rfl, fun e he => by simp [rdBs] at he; rcases he with rfl | rfl | rfl | rfl | rfl | rfl | rfl | rfl <;> exact ⟨_, rfl⟩⟩
        have hb5 : (σ4 ++ rdBs n u1 u2 a r0)[n + 5]? = some (tb u1 a.cmd) := by rw [List.getElem?_append_right (by omega), show n + 5 - σ4.length = 5 by omega]; rfl
        have hb6 : (σ4 ++ rdBs n u1 u2 a r0)[n + 6]? = some (tb u2 a.outs) := by rw [List.getElem?_append_right (by omega), show n + 6 - σ4.length = 6 by omega]; rfl
        have hsame : ∀ i, i < σ4.length → (σ4 ++ rdBs n u1 u2 a r0)[i]? = σ4[i]? := fun i hi => List.getElem?_append_left hi
        generalize hH5 : σ4 ++ rdBs n u1 u2 a r0 = H5 at *
        obtain ⟨z1, hz1⟩ : ∃ z1 : Nat × Option Box, z1 = (0, some (.cells (actC (n + 5) u1 u2 a) ⟨false, some 40⟩)) := ⟨_, rfl⟩
        have hz : (H5 ++ [actZ 0]).set (n + 9) z1 = H5 ++ [z1] := by rw [List.set_append_right _ _ (by omega), hB, Nat.sub_self]; rfl
        have h6 : RAtT l a (H5 ++ [z1]) tv := h5.up ⟨_, rfl, fun e he => by rw [List.mem_singleton.1 he, hz1]; exact ⟨_, rfl⟩⟩
        have hb9 : (H5 ++ [z1])[n + 9]? = some (0, some (.cells (actC (n + 5) u1 u2 a) ⟨false, some 40⟩)) := by rw [← hB, app_last, hz1]
        have hcl := texts_len a.cmd
        have hol := texts_len a.outs
        have g5 : (H5 ++ [z1])[n + 5]? = some (u1, some (.cells (texts a.cmd) ⟨false, none⟩)) := app_get hb5
        have g6 : (H5 ++ [z1])[n + 6]? = some (u2, some (.cells (texts a.outs) ⟨false, none⟩)) := app_get hb6
        have fz : Frz false (H5 ++ [z1]) (.agg (actC (n + 5) u1 u2 a)) (actAV false a) := .agg rfl (fun i h h' => by
          match i, h, h' with
          | 0, _, _ => exact .ms (cs := texts a.cmd) (by unfold boxAt; rw [g5]) (by omega) (by rw [List.drop_zero, ← flatTx]; exact List.take_of_length_le (by omega)) (fun y hy => by obtain ⟨z, _, rfl⟩ := List.mem_map.1 hy; rfl) (texts_len _) (texts_any _)
          | 1, _, _ => exact .refl .str
          | 2, _, _ => exact .ms (cs := texts a.outs) (by unfold boxAt; rw [g6]) (by omega) (by rw [List.drop_zero, ← flatTx]; exact List.take_of_length_le (by omega)) (fun y hy => by obtain ⟨z, _, rfl⟩ := List.mem_map.1 hy; rfl) (texts_len _) (texts_any _)
          | 3, _, _ => exact .refl .int)
        have hSA := SameAction_ok (st := true) (st' := false) a a hok hok
        rw [beq_self_eq_true, beq_self_eq_true, beq_self_eq_true, beq_self_eq_true] at hSA
        obtain ⟨y1, hy1⟩ : ∃ y1 : Nat × Option Box, y1 = (u1, some (.cells (spoD a.cmd.length (texts a.cmd)) ⟨false, none⟩)) := ⟨_, rfl⟩
        obtain ⟨y2, hy2⟩ : ∃ y2 : Nat × Option Box, y2 = (u2, some (.cells (spoD a.outs.length (texts a.outs)) ⟨false, none⟩)) := ⟨_, rfl⟩
        have hs1 := spoilTexts_ok (H5 ++ [z1]) (n + 5) u1 a.cmd.length (texts a.cmd) none g5 hcl (by have := hok.cmd; omega)
        rw [← hy1] at hs1
        have k6 : ((H5 ++ [z1]).set (n + 5) y1)[n + 6]? = some (u2, some (.cells (texts a.outs) ⟨false, none⟩)) := by rw [set_ne (by omega)]; exact g6
        have k9 : ((H5 ++ [z1]).set (n + 5) y1)[n + 9]? = some (0, some (.cells (actC (n + 5) u1 u2 a) ⟨false, some 40⟩)) := by rw [set_ne (by omega)]; exact hb9
        have hs2 := spoilTexts_ok ((H5 ++ [z1]).set (n + 5) y1) (n + 6) u2 a.outs.length (texts a.outs) none k6 hol (by have := hok.outs; omega)
        rw [← hy2] at hs2
        have hptr : AV.ptr (n + 9) 0 0 = .ptr H5.length 0 0 := by rw [hB]
        refine pao [.f (.ptr (n + 9) 0 0) (fun s => s ++ [actZ 0]), .f (.tup []) (fun _ => H5 ++ [z1]), .b false, .v (actAV true a), .v (.agg (actC (n + 5) u1 u2 a)), .v (.bool true), .b false,
          .v (.ms (n + 5) u1 0 a.cmd.length 1 false), .f (.tup []) (fun s => s.set (n + 5) y1), .v (.ms (n + 6) u2 0 a.outs.length 1 false), .f (.tup []) (fun s => s.set (n + 6) y2)] rfl ?_ ?_
        · (repeat' with_reducible apply AllP_cons) <;> try exact aC
          · rw [hptr]; exact OpSpec.allocE rfl rfl rfl rfl h5.al
          · exact OpSpec.storeP (id := n + 9) (gT := some 40) (cs := [.nils, .str [], .nils, .int .i64 0]) (y := .agg (actC (n + 5) u1 u2 a)) rfl rfl rfl rfl rfl rfl (by rw [← hB]; exact app_last) (lble rfl) (by rw [← hz, hz1]; rfl)
          · exact OpSpec.loadPA rfl rfl rfl rfl h6.ab (lble rfl) rfl
          · exact OpSpec.loadPA rfl rfl rfl rfl hb9 (lble rfl) rfl
          · exact ⟨_, hSA, .cons (.refl (actAV_free (fun h => by cases h) a)) (.cons fz (.nil _))⟩
          · exact OpSpec.loadP rfl rfl rfl rfl hb9 rfl
          · exact OpSpec.loadP rfl rfl rfl rfl k9 rfl
        have h9 : RAtT l a (((H5 ++ [z1]).set (n + 5) y1).set (n + 6) y2) tv := by
          refine h4.mono ?_ ?_ fun j hj => ?_
          · show σ4.length ≤ _
            rw [List.length_set, List.length_set, List.length_append]; omega
          · rw [hy1, hy2]; exact Alive.set (Alive.set h6.al _ _ _) _ _ _
          · have hj : j < σ4.length := hj
            rw [set_ne (by omega), set_ne (by omega), List.getElem?_append_left (by omega)]
            exact hsame j hj
        exact S_round (m + 1, _) (by show 2 - (m + 1) < 2 - m; omega) ⟨by show m + 1 ≤ 2; omega, h9⟩ (.cons rfl (.cons rfl (.cons hi1 (.nil _)))) rfl
      case pos =>
      have d1 : decide ((k : Int) < 2) = true := decide_eq_true (by omega)
      have hi1 : AV.int .i64 (IntKind.i64.wrap ((k : Int) + 1)) = .int .i64 ((k + 1 : Nat) : Int) := ai64 rfl (by omega)
      have hpl : proofE l i = 0 → (proofV l i).length ≤ 1000000000 := proofV_len
      have hP := RawD.L (Proof_raw (st := false) (fl := false) l i hll) hpl (.cons h3.frt (.cons (.refl .int) (.nil σ)))
      refine pao [.b true, .o tv (fun s => s)] rfl ?_ ?_
      · (repeat' with_reducible apply AllP_cons) <;> try exact aC
        all_goals exact mv rfl
      refine S_call rfl rfl rfl hP (fun v u hR => ?_) (fun v s hR => by obtain ⟨_, hR, _⟩ := hR; cases hR)
      obtain ⟨pv, hR, hu, hp⟩ := hR
      cases hR
      have h4 := h3.up hu
      have lu : σ.length ≤ u.length := by obtain ⟨τ, rfl, _⟩ := hu; simp
      have hB := RawD.L (Blobs_raw (st := true) (fl := false) files hlf) (fun h => blob_len h) (.cons (.refl (.sl (fun h => by cases h) (fils_free files))) (.nil u))
      refine pao [.o (.tup [pv, .int .i64 (proofE l i : Nat)]) (fun s => s), .o pv (fun s => s), .o (.int .i64 (proofE l i : Nat)) (fun s => s), .o pv (fun s => s)] rfl ?_ ?_
      · (repeat' with_reducible apply AllP_cons) <;> try exact aC
        all_goals exact mv rfl
      refine S_call rfl rfl rfl hB (fun v u2 hR => ?_) (fun v s hR => by obtain ⟨_, hR, _⟩ := hR; cases hR)
      obtain ⟨bv, hR, hu2, hb⟩ := hR
      cases hR
      have h5 := h4.up hu2
      have lu2 : u.length ≤ u2.length := by obtain ⟨τ, rfl, _⟩ := hu2; simp
      have hS := SameTexts_ok (st := false) (st' := true) (fl := false) (fl' := false) l l (by omega) (by omega)
      rw [beq_self_eq_true] at hS
      have eq0 : ∀ n : Nat, n ≠ 0 → ((n : Int) == 0) = false := fun n h => beq_false_of_ne (by omega)
      have eq1 : ∀ n : Nat, n = 0 → ((n : Int) == 0) = true := fun n h => by rw [h]; rfl
      have hp2 : FK σ.length u2 pv 1 (texts (if proofE l i = 0 then proofV l i else [])) := by
        obtain ⟨τ2, rfl, _⟩ := hu2
        rcases hp with h | ⟨n, h0, h1, h2, h3⟩
        · exact .inl h
        · exact .inr ⟨n, h0, h1, h2, apps_get h3⟩
      refine pao [.o (.tup [bv, .int .i64 (chkT files : Nat)]) (fun s => s), .o bv (fun s => s), .o (.int .i64 (chkT files : Nat)) (fun s => s), .o bv (fun s => s), .o (.int .i64 (chkT files : Nat)) (fun s => s), .o tv (fun s => s), .v (.bool true), .b false, .s] rfl ?_ ?_
      · (repeat' with_reducible apply AllP_cons) <;> try exact aC
        all_goals first | exact mv rfl | exact ⟨_, hS, .cons h5.frt (.cons (.refl (.sl (fun h => by cases h) (texts_any l))) (.nil _))⟩ | trace_state
      refine' S_shareO (ι := Unit) (fun _ => [(0, .sl true false 1 (texts l)), (1, .int .i64 i), (2, .sl true false 3 (fils files)), (7, .ptr 0 0 0), (9, tv), (10, .int .i64 (k : Nat)), (11, pv), (12, .int .i64 (proofE l i : Nat)), (13, bv), (14, .int .i64 (chkT files : Nat)), (64, .bool false)]) (fun _ => u2) (fun _ => True) ?main2 ?rest2
      case main2 =>
        intro hsh
        by_cases hz : proofE l i = 0
        · rw [if_pos hz] at hp2
          have hO := ProofOfZ (st := true) (fl := false) (l := l) (i := i) hz
          have hlz := hpl hz
          have hS2 := SameTexts_ok (st := false) (st' := true) (fl := false) (fl' := false) (proofV l i) (proofV l i) (by omega) (by omega)
          rw [beq_self_eq_true] at hS2
          have e1 := eq1 _ hz
          refine pao [.b true, .o pv (fun s => s), .v (.sl true false 1 (texts (proofV l i))), .v (.bool true), .s] rfl ?_ ?_
          · (repeat' with_reducible apply AllP_cons) <;> try exact aC
            all_goals first | exact mv rfl | exact ⟨_, hO, .cons (.refl (.sl (fun h => by cases h) (texts_any l))) (.cons (.refl .int) (.nil _))⟩ | exact ⟨_, hS2, .cons hp2.frzT (.cons (.refl (.sl (fun h => by cases h) (texts_any _))) (.nil _))⟩ | trace_state
          refine pao [.o (.bool false) (fun s => s), .o (.bool false) (fun s => s), .o (.bool false) (fun s => s), .o (.bool false) (fun s => s), .s] rfl ?_ ?_
          · (repeat' with_reducible apply AllP_cons) <;> try exact aC
            all_goals first | exact mv rfl | trace_state
          exact hsh () _ trivial (.cons rfl (.cons rfl (.cons rfl (.cons rfl (.cons rfl (.cons rfl (.cons rfl (.cons rfl (.cons rfl (.cons rfl (.cons rfl (.nil _))))))))))))
        · have e1 := eq0 _ hz
          refine pao [.b false, .o (.bool false) (fun s => s), .o (.bool false) (fun s => s), .o (.bool false) (fun s => s), .s] rfl ?_ ?_
          · (repeat' with_reducible apply AllP_cons) <;> try exact aC
            all_goals first | exact mv rfl | trace_state
          exact hsh () _ trivial (.cons rfl (.cons rfl (.cons rfl (.cons rfl (.cons rfl (.cons rfl (.cons rfl (.cons rfl (.cons rfl (.cons rfl (.cons rfl (.nil _))))))))))))
      case rest2 =>
      intro _ _
      refine' S_shareO (ι := Unit) (fun _ => [(0, .sl true false 1 (texts l)), (1, .int .i64 i), (2, .sl true false 3 (fils files)), (7, .ptr 0 0 0), (9, tv), (10, .int .i64 (k : Nat)), (11, pv), (12, .int .i64 (proofE l i : Nat)), (13, bv), (14, .int .i64 (chkT files : Nat))]) (fun _ => u2) (fun _ => True) ?main3 ?rest3
      case main3 =>
        intro hsh
        by_cases hz : chkT files = 0
        · rw [if_pos hz] at hb
          have hO := TreeBlobsR_ok (st := true) (fl := false) files hz
          have hS2 := SameTexts_ok (st := false) (st' := true) (fl := false) (fl' := false) (blobT files) (blobT files) (by have := blob_len hz; omega) (by have := blob_len hz; omega)
          rw [beq_self_eq_true] at hS2
          have e1 := eq1 _ hz
          refine pao [.b false, .b true, .o bv (fun s => s), .v (.sl true false 1 (texts (blobT files))), .v (.bool true), .b false, .s] rfl ?_ ?_
          · (repeat' with_reducible apply AllP_cons) <;> try exact aC
            all_goals first | exact mv rfl | exact ⟨_, hO, .cons (.refl (.sl (fun h => by cases h) (fils_free files))) (.nil _)⟩ | exact ⟨_, hS2, .cons hb.frzT (.cons (.refl (.sl (fun h => by cases h) (texts_any _))) (.nil _))⟩ | trace_state
          exact hsh () _ trivial (.cons rfl (.cons rfl (.cons rfl (.cons rfl (.cons rfl (.cons rfl (.cons rfl (.cons rfl (.cons rfl (.cons rfl (.nil _)))))))))))
        · have e1 := eq0 _ hz
          refine pao [.b false, .b false, .b false, .s] rfl ?_ ?_
          · (repeat' with_reducible apply AllP_cons) <;> try exact aC
            all_goals first | exact mv rfl | trace_state
          exact hsh () _ trivial (.cons rfl (.cons rfl (.cons rfl (.cons rfl (.cons rfl (.cons rfl (.cons rfl (.cons rfl (.cons rfl (.cons rfl (.nil _)))))))))))
      case rest3 =>
      intro _ _
      refine pao [.o pv (fun s => s)] rfl ?_ ?_
      · (repeat' with_reducible apply AllP_cons) <;> try exact aC
        all_goals exact mv rfl
      refine S_call rfl rfl rfl (spoilT_L hp2) (fun v s1 hR => ?_) (fun v s hR => by obtain ⟨hR, _⟩ := hR; cases hR)
      obtain ⟨hR, hb1⟩ := hR
      cases hR
      refine pao [.o bv (fun s => s)] rfl ?_ ?_
      · (repeat' with_reducible apply AllP_cons) <;> try exact aC
        all_goals exact mv rfl
      refine S_call rfl rfl rfl (spoilT_L (hb.but hb1 hp (fun h => by omega))) (fun v s2 hR => ?_) (fun v s hR => by obtain ⟨hR, _⟩ := hR; cases hR)
      obtain ⟨hR, hb2⟩ := hR
      cases hR
      refine pao [] rfl ?_ ?_
      · (repeat' with_reducible apply AllP_cons) <;> try exact aC
      have h9 : RAtT l a s2 tv := by
        refine h3.mono (by rw [hb2.len, hb1.len]; show σ.length ≤ u2.length; omega) (hb2.al (hb1.al h5.al)) fun j hj => ?_
        have hj : j < σ.length := hj
        have q2 : ∀ ver n m, bv ≠ .ms j ver 0 n m false := fun ver n m e => by have h := (hb.lt e).1; omega
        have q1 : ∀ ver n m, pv ≠ .ms j ver 0 n m false := fun ver n m e => by have h := (hp.lt e).1; omega
        rw [hb2.same j q2, hb1.same j q1]
        obtain ⟨τ1, rfl, _⟩ := hu
        obtain ⟨τ2, rfl, _⟩ := hu2
        rw [List.append_assoc]
        exact List.getElem?_append_left hj
      exact S_round (k + 1, s2) (by show 2 - (k + 1) < 2 - k; omega) ⟨by show k + 1 ≤ 2; omega, h9⟩ (.cons rfl (.cons rfl (.cons rfl (.cons rfl (.cons rfl (.cons hi1 (.nil _))))))) rfl
end Go.Proofs.YtjkeekbfgnmngaaGreatDoor
end
section
set_option linter.unusedVariables false
set_option linter.unusedSimpArgs false
set_option maxRecDepth 20000
namespace Go.Proofs.YtjkeekbfgnmngaaGreatDoor
open Go Go.Ab
theorem open_file {H : Type} {d : DataW H} {a : AV} (h : RdD Tryz.prog 25 d a) : ∃ f : Fil, a = filA f := by
  obtain ⟨ds, xs, rfl, rfl, hall⟩ := h.inv_st Tryz.underlying25
  obtain ⟨d0, ds, x0, xs, rfl, rfl, h0, hall⟩ := hall.cons
  obtain ⟨d1, ds, x1, xs, rfl, rfl, h1, hall⟩ := hall.cons
  obtain ⟨d2, ds, x2, xs, rfl, rfl, h2, hall⟩ := hall.cons
  obtain ⟨rfl, rfl⟩ := hall.nil
  obtain ⟨s0, rfl, rfl, _⟩ := h0.inv_str Tryz.underlying9
  obtain ⟨s1, rfl, rfl, _⟩ := h1.inv_str Tryz.underlying9
  obtain ⟨b, rfl, rfl⟩ := h2.inv_bool Tryz.underlying4
  exact ⟨⟨s0, s1, b⟩, rfl⟩
theorem open_F {H : Type} {d : DataW H} {a : AV} (h : RdD Tryz.prog 22 d a) : ∃ l : List Fil, a = .sl true false 3 (fils l) := by
  obtain ⟨ds, xs, rfl, hl, hm, hall, _⟩ := h.inv_sl Tryz.underlying22
  obtain ⟨ys, rfl, hy, hg⟩ := RdD.each filA (fun _ _ => True) hl hall (fun d x h => by
    obtain ⟨f, rfl⟩ := open_file h
    exact ⟨f, rfl, trivial⟩)
  have hc : Tryz.prog.cellsOf 25 = 3 := by kernel_rfl
  exact ⟨ys, by rw [hc]; rfl⟩
end Go.Proofs.YtjkeekbfgnmngaaGreatDoor
end
