/-
  Texts of our own, in one file.
-/
import Derived.Test.YtfpdfpdlekngfaaDoorGrpD
section
set_option linter.unusedVariables false
set_option linter.unusedSimpArgs false
set_option maxRecDepth 20000
set_option maxHeartbeats 8000000
namespace Go.Proofs.YtfpdfpdlekngfaaDoor
open Go Go.Ab
theorem pins_one {es : List CI} {first : Nm} (hd : (es.map fun e => sha e.text).Nodup) (pn : ∀ e ∈ es, e.pins = if e.text = first then 1 else 0) (me : ∃ e ∈ es, e.text = first) : pinL es = first.length := by
  obtain ⟨e, he, hef⟩ := me
  obtain ⟨i, hi, rfl⟩ := List.getElem_of_mem he
  have hs : es = es.take i ++ es[i] :: es.drop (i + 1) := by rw [List.getElem_cons_drop, List.take_append_drop]
  have hoth : ∀ k (hk : k < es.length), k ≠ i → es[k].text ≠ first := fun k hk hne h => by
    exact hne (nodup_inj hd (i := k) (k := i) (by simpa using hk) (by simpa using hi) (by simp [h, hef]))
  have h0 : ∀ l : List CI, (∀ e ∈ l, e.pins = 0) → l.filter (fun e => decide (e.pins > 0)) = [] := fun l hl => by
    rw [List.filter_eq_nil_iff]
    intro x hx
    rw [hl x hx]; simp
  have hp1 : ∀ e ∈ es.take i, e.pins = 0 := fun e he => by
    obtain ⟨k, hk, rfl⟩ := List.getElem_of_mem he
    rw [List.getElem_take]
    have hk' : k < i := by rw [List.length_take] at hk; omega
    rw [pn _ (List.getElem_mem (by omega)), if_neg (hoth k (by omega) (by omega))]
  have hp2 : ∀ e ∈ es.drop (i + 1), e.pins = 0 := fun e he => by
    obtain ⟨k, hk, rfl⟩ := List.getElem_of_mem he
    rw [List.getElem_drop]
    rw [List.length_drop] at hk
    rw [pn _ (List.getElem_mem (by omega)), if_neg (hoth (i + 1 + k) (by omega) (by omega))]
  have hpi : es[i].pins = 1 := by rw [pn _ (List.getElem_mem hi), if_pos hef]
  unfold pinL
  rw [hs, List.filter_append, List.filter_cons, h0 _ hp1, h0 _ hp2]
  rw [if_pos (by rw [hpi]; decide)]
  show lenC [es[i]] = _
  unfold lenC
  simp [hef]
structure KI (σ : Heap) (L : CL) (room used : Int) (es : List CI) (ks : List (Nm × Nat)) (first : Nm) (T : List Nm) (n : Nat) : Prop where
  at_ : CAt σ L room used es ks
  lq : L.q = 1
  ok : SOk room used es
  ln : es.length ≤ n
  pn : ∀ e ∈ es, e.pins = if e.text = first then 1 else 0
  me : ∃ e ∈ es, e.text = first
  tx : ∀ e ∈ es, e.text ∈ T
theorem KI.use {σ u : Heap} {L L' : CL} {room used : Int} {es : List CI} {ks : List (Nm × Nat)} {first : Nm} {T : List Nm} {n : Nat} (h : KI σ L room used es ks first T n) {i : Nat} (h2 : CAt u (bump L) room used (useC es i) ks) : KI u (bump L) room used (useC es i) ks first T n := by
  have hp := useC_perm es i
  refine ⟨h2, h.lq, h.ok.use i, by rw [hp.length_eq]; exact h.ln, fun e he => h.pn e (hp.mem_iff.1 he), ?_, fun e he => h.tx e (hp.mem_iff.1 he)⟩
  obtain ⟨e, he, hf⟩ := h.me
  exact ⟨e, hp.mem_iff.2 he, hf⟩
theorem KI.up {σ : Heap} {L : CL} {room used : Int} {es : List CI} {ks : List (Nm × Nat)} {first : Nm} {T : List Nm} {n m : Nat} (h : KI σ L room used es ks first T n) (hm : n ≤ m) : KI σ L room used es ks first T m := ⟨h.at_, h.lq, h.ok, by have := h.ln; omega, h.pn, h.me, h.tx⟩
theorem KI.pin {σ : Heap} {L : CL} {room used : Int} {es : List CI} {ks : List (Nm × Nat)} {first : Nm} {T : List Nm} {n : Nat} (h : KI σ L room used es ks first T n) : pinL es = first.length := pins_one h.at_.dg h.pn h.me
theorem there {es : List CI} (hd : (es.map fun e => sha e.text).Nodup) {s : Nm} (h : ∃ e ∈ es, e.text = s) : ∃ i, ∃ hi : i < es.length, atD es (sha s) = some i ∧ es[i].text = s := by
  obtain ⟨e, he, rfl⟩ := h
  obtain ⟨i, hi, rfl⟩ := List.getElem_of_mem he
  exact ⟨i, hi, atD_of hd hi, rfl⟩
theorem KI.put {σ u : Heap} {L : CL} {room used : Int} {es : List CI} {ks ks' : List (Nm × Nat)} {first s : Nm} {T : List Nm} {n jid : Nat} (h : KI σ L room used es ks first T n) (hs : s ∈ T) (hsl : s.length ≤ 1048576) (hn : n ≤ 1000) (hat : atD es (sha s) = none) (hf : ¬ ((pinL es : Nat) : Int) + (s.length : Nat) > room)
    (h2 : CAt u (bump L) room ((dropS room s.length used es).1 + (s.length : Nat)) ((dropS room s.length used es).2 ++ [⟨s, 0, jid⟩]) ks') : KI u (bump L) room ((dropS room s.length used es).1 + (s.length : Nat)) ((dropS room s.length used es).2 ++ [⟨s, 0, jid⟩]) ks' first T (n + 1) := by
  have hsub := dropS_sub (room := room) (n := s.length) (es := es) (used := used)
  have hln := h.ln
  have hsf : s ≠ first := fun e => by
    obtain ⟨x, hx, hxf⟩ := h.me
    exact atD_none hat x hx (by rw [hxf, e])
  refine ⟨h2, h.lq, h.ok.put hsl (by omega) hf, ?_, fun e he => ?_, ?_, fun e he => ?_⟩
  · rw [List.length_append]
    have := hsub.length_le
    show _ + 1 ≤ _; omega
  · rcases List.mem_append.1 he with he | he
    · exact h.pn e (hsub.subset he)
    · rw [List.mem_singleton.1 he, if_neg hsf]
  · obtain ⟨x, hx, hxf⟩ := h.me
    have hp : x ∈ es.filter fun e => decide (e.pins > 0) := List.mem_filter.2 ⟨hx, by rw [h.pn x hx, if_pos hxf]; rfl⟩
    rw [← dropS_pin (room := room) (n := s.length) (used := used)] at hp
    exact ⟨x, List.mem_append_left _ (List.mem_filter.1 hp).1, hxf⟩
  · rcases List.mem_append.1 he with he | he
    · exact h.tx e (hsub.subset he)
    · rw [List.mem_singleton.1 he]; exact hs
theorem cutL_take (l : List Nm) (k : Nat) : cutL none (some (k : Int)) (texts l) = texts (l.take k) := by simp [cutL, texts]
theorem CasKeeps_ok {st fl : Bool} (room : Int) (first : Nm) (l : List Nm) (hr : -9223372036854775808 ≤ room ∧ room ≤ 9223372036854775807) (hfl : first.length ≤ 1048576) (hll : l.length ≤ 1048576) (hls : ∀ d ∈ l, d.length ≤ 1048576) :
    Calc cx 4 [.int .i64 room, .str first, .sl st fl 1 (texts l)] (.bool true) :=
  pure_intro (fun a w => Tryd.call4 a w) Tryd.func4 rfl Tryd.ntmps4 rfl .bool fun B => by
    have hal0 : Alive ([] : Heap) := fun e he => by cases he
    have htl : (texts l).length = l.length := by simp [texts]
    by_cases hrm : 0 ≤ room ∧ room ≤ 9007199254740991
    case neg =>
      have hN := New_bad room hrm
      refine pao [.v (.bool true), .b false, .v (.tup [.nilp, .int .i64 3]), .b true, .b true] rfl ?_ ?_
      · (repeat' with_reducible apply AllP_cons) <;> try exact aC
        · exact ⟨[], casBegun_ok, .nil _⟩
        · exact ⟨_, hN, .cons (.refl .int) (.nil _)⟩
      exact S_retc .bool rfl trivial rfl
    obtain ⟨hr0, hr1⟩ := hrm
    have hN := New_ok [] room hal0 hr0 hr1
    have h0 := newC_at [] room hal0
    refine pao [.v (.bool true), .b false, .f (.tup [.ptr 1 0 0, .int .i64 0]) (fun s => newC s room), .b false, .b false] rfl ?_ ?_
    · (repeat' with_reducible apply AllP_cons) <;> try exact aC
      · exact ⟨[], casBegun_ok, .nil _⟩
    refine S_heap (newC [] room) rfl ?_
    have hb0 : BdC [] := ⟨by decide, fun e he => by cases he⟩
    by_cases hbig : first.length > 100000
    · have hP := Put_big (newC [] room) (newCL []) room 0 [] [] first h0 hbig hfl
      refine S_call rfl rfl rfl hP (fun v u hR => ?_) (fun v s hR => by obtain ⟨hR, _⟩ := hR; cases hR)
      obtain ⟨hR, _⟩ := hR
      cases hR
      have d2 : decide ((first.length : Int) > 100000) = true := decide_eq_true (by omega)
      by_cases hfr : (first.length : Int) > room
      · have d1 : decide ((first.length : Int) > room) = true := decide_eq_true hfr
        refine pao [.b true, .b true] rfl ?_ ?_
        · (repeat' with_reducible apply AllP_cons) <;> try exact aC
        exact S_ret ⟨_, _, rfl, trivial, _, rfl, .refl .bool⟩
      · have d1 : decide ((first.length : Int) > room) = false := decide_eq_false hfr
        refine pao [.b true, .b false] rfl ?_ ?_
        · (repeat' with_reducible apply AllP_cons) <;> try exact aC
        exact S_ret ⟨_, _, rfl, trivial, _, by rw [show AV.bool (decide ((first.length : Int) > 100000)) = .bool true by rw [d2]]; rfl, .refl .bool⟩
    by_cases hfull : ((pinL ([] : List CI) : Nat) : Int) + (first.length : Nat) > room
    · have hP := Put_full (newC [] room) (newCL []) room 0 [] [] first h0 hb0 (by omega) rfl hfull
      have hp0 : pinL ([] : List CI) = 0 := rfl
      refine S_call rfl rfl rfl hP (fun v u hR => ?_) (fun v s hR => by obtain ⟨hR, _⟩ := hR; cases hR)
      obtain ⟨hR, _⟩ := hR
      cases hR
      have d1 : decide ((first.length : Int) > room) = true := decide_eq_true (by rw [hp0] at hfull; omega)
      refine pao [.b true, .b true] rfl ?_ ?_
      · (repeat' with_reducible apply AllP_cons) <;> try exact aC
      exact S_ret ⟨_, _, rfl, trivial, _, rfl, .refl .bool⟩
    have hP := Put_new (newC [] room) (newCL []) room 0 [] [] first h0 hb0 rfl (by omega) rfl hfull
    refine S_call rfl rfl rfl hP (fun v u hR => ?_) (fun v s hR => by obtain ⟨hR, _⟩ := hR; cases hR)
    obtain ⟨hR, jid, ks, h1, _⟩ := hR
    cases hR
    have hok1 : SOk room ((dropS room first.length 0 []).1 + (first.length : Nat)) ((dropS room first.length 0 []).2 ++ [⟨first, 0, jid⟩]) := SOk.put (used := 0) (es := []) ⟨rfl, hr0, hb0⟩ hfl (by decide) hfull
    have hes1 : (dropS room first.length 0 []).2 ++ [(⟨first, 0, jid⟩ : CI)] = [⟨first, 0, jid⟩] := rfl
    rw [hes1] at h1 hok1
    obtain ⟨used1, hu1⟩ : ∃ used1, used1 = (dropS room first.length 0 []).1 + (first.length : Int) := ⟨_, rfl⟩
    rw [← hu1] at h1 hok1
    obtain ⟨T, hT⟩ : ∃ T, T = [first] ++ l.take 40 := ⟨_, rfl⟩
    have hmin : min (l.length : Int) 40 = ((min l.length 40 : Nat) : Int) := by omega
    have htk : l.take (min l.length 40) = l.take 40 := by
      rcases Nat.le_total l.length 40 with h | h
      · rw [Nat.min_eq_left h, List.take_length, List.take_of_length_le h]
      · rw [Nat.min_eq_right h]
    have hCl := ClashG_ok (st := true) (fl := true) (fun i => if i = 0 then (true, true) else (st, false)) [[first], l.take 40] (by simp) (by
      intro q hq; simp at hq; rcases hq with rfl | rfl
      · simp
      · have := List.length_take_le' 40 l; omega) (by
      intro q hq s hs; simp at hq; rcases hq with rfl | rfl
      · simp at hs; subst hs; omega
      · have := hls s (List.mem_of_mem_take hs); omega)
    have hCA : ∀ s : Heap, Frzs s [.sl true true 1 [.sl true true 1 [.str first], .sl st false 1 (cutL none (some (min (((texts l).length : Nat) : Int) 40)) (texts l))]] [.sl true true 1 (listsG [[first], l.take 40] (fun i => if i = 0 then (true, true) else (st, false)))] := fun s => by
      rw [htl, hmin, cutL_take, htk]
      refine .cons (.refl (.sl (fun h => by cases h) ?_)) (.nil _)
      intro x hx
      simp at hx
      rcases hx with rfl | rfl
      · exact .sl (fun h => by cases h) (texts_any [first])
      · exact .sl (fun h => by cases h) (texts_any _)
    have hf1 : [[first], l.take 40].flatten = T := by rw [hT]; simp
    rw [hf1] at hCl
    cases hcl : clashF [] T with
    | true =>
      rw [hcl] at hCl
      refine pao [.b false, .v (.bool true), .b true] rfl ?_ ?_
      · (repeat' with_reducible apply AllP_cons) <;> try exact aC
        all_goals first | exact ⟨_, hCl, hCA _⟩ | trace_state
      exact S_ret ⟨_, _, rfl, trivial, _, rfl, .refl .bool⟩
    | false =>
      rw [hcl] at hCl
      have hap : Apart T := by
        have := clashF_apart T [] hcl (fun a ha => by cases ha)
        rwa [List.nil_append] at this
      have hd1 : (sha first).length ≤ 9223372036854775807 := by rw [sha_len]; decide
      have hPin := Pin_ok u (bump (newCL [])) room used1 [⟨first, 0, jid⟩] ks (sha first) h1 hd1 (i := 0) (by simp) (atD_last (es := []) (fun e he => by cases he)) ⟨Int.le_refl _, by show (0 : Int) ≤ 1000000000; decide⟩
      refine pao [.b false, .v (.bool false), .b false] rfl ?_ ?_
      · (repeat' with_reducible apply AllP_cons) <;> try exact aC
        all_goals first | exact ⟨_, hCl, hCA _⟩ | trace_state
      refine S_call rfl rfl rfl hPin (fun v u2 hR => ?_) (fun v s hR => by obtain ⟨hR, _⟩ := hR; cases hR)
      obtain ⟨hR, h2, _⟩ := hR
      cases hR
      have hki : KI u2 (bump (newCL [])) room used1 [⟨first, 1, jid⟩] ks first T 1 := by
        refine ⟨h2, rfl, hok1.pin (i := 0) (by simp) 1, Nat.le_refl _, fun e he => ?_, ⟨_, List.mem_singleton.2 rfl, rfl⟩, fun e he => ?_⟩
        · rw [List.mem_singleton.1 he, if_pos rfl]
        · rw [List.mem_singleton.1 he, hT]; simp
      refine pao [.b false] rfl ?_ ?_
      · (repeat' with_reducible apply AllP_cons) <;> try exact aC
      refine S_while (α := (Heap × CL × Int × List CI × List (Nm × Nat)) × Nat) (fun x => [(0, .int .i64 room), (1, .str first), (2, .sl st fl 1 (texts l)), (7, .ptr 1 0 0), (9, .str (sha first)), (10, .int .i64 (x.2 : Nat))]) (fun x => x.1.1)
        (fun x => KI x.1.1 x.1.2.1 room x.1.2.2.1 x.1.2.2.2.1 x.1.2.2.2.2 first T (x.2 + 1) ∧ x.2 ≤ l.length ∧ x.2 ≤ 40) (fun x => l.length - x.2) ((u2, _, used1, _, ks), 0)
        ⟨hki, Nat.zero_le _, Nat.zero_le _⟩ (.cons rfl (.cons rfl (.cons rfl (.cons rfl (.cons rfl (.cons rfl (.nil _))))))) rfl ?_
      rintro ⟨⟨σ, L, used, es, ks2⟩, i⟩ ⟨h, hi1, hi2⟩
      simp only at h hi1 hi2
      have hUn : CallOk cx 16 [.ptr 1 0 0, .str (sha first)] σ (fun o u => o = .ret (.int .i64 0)) := by
        obtain ⟨k, hk, ha, htx⟩ := there h.at_.dg h.me
        have hp : es[k].pins = 1 := by rw [h.pn _ (List.getElem_mem hk), if_pos htx]
        have := Unpin_ok σ L room used es ks2 (sha first) h.at_ hd1 hk ha ⟨by omega, by omega⟩
        rw [h.lq] at this
        refine ⟨this.1, fun r w vs hi hv => (this.2 r w vs hi hv).mono fun e w' ⟨out, σ', r', hR, ho⟩ => ⟨out, σ', r', hR.1, ho⟩⟩
      by_cases hlt1 : i < l.length
      case neg =>
        have d1 : decide ((i : Int) < (((texts l).length : Nat) : Int)) = false := decide_eq_false (by omega)
        refine pao [.b false, .b false] rfl ?_ ?_
        · (repeat' with_reducible apply AllP_cons) <;> try exact aC
        refine S_call rfl rfl rfl hUn (fun v s hR => ?_) (fun v s hR => by cases hR)
        cases hR
        refine pao [] rfl ?_ ?_
        · (repeat' with_reducible apply AllP_cons) <;> try exact aC
        exact S_ret ⟨_, _, rfl, trivial, _, rfl, .refl .bool⟩
      have d1 : decide ((i : Int) < (((texts l).length : Nat) : Int)) = true := decide_eq_true (by omega)
      by_cases hlt2 : i < 40
      case neg =>
        have d2 : decide ((i : Int) < 40) = false := decide_eq_false (by omega)
        refine pao [.b true, .b false] rfl ?_ ?_
        · (repeat' with_reducible apply AllP_cons) <;> try exact aC
        refine S_call rfl rfl rfl hUn (fun v s hR => ?_) (fun v s hR => by cases hR)
        cases hR
        refine pao [] rfl ?_ ?_
        · (repeat' with_reducible apply AllP_cons) <;> try exact aC
        exact S_ret ⟨_, _, rfl, trivial, _, rfl, .refl .bool⟩
      have d2 : decide ((i : Int) < 40) = true := decide_eq_true (by omega)
      have hi1' : AV.int .i64 (IntKind.i64.wrap ((i : Int) + 1)) = .int .i64 ((i + 1 : Nat) : Int) := ai64 rfl (by omega)
      obtain ⟨s, hs⟩ : ∃ s, s = l[i] := ⟨_, rfl⟩
      have hsm : s ∈ l := by rw [hs]; exact List.getElem_mem hlt1
      have hsT : s ∈ T := by
        rw [hT]
        refine List.mem_append_right _ (List.mem_iff_getElem.2 ⟨i, by rw [List.length_take]; omega, ?_⟩)
        rw [List.getElem_take, hs]
      have hsl := hls s hsm
      have hsx : (texts l)[(i : Int).toNat]? = some (.str s) := by rw [Int.toNat_natCast, hs]; simp [texts, hlt1]
      have hpin := h.pin
      refine' S_shareO (ι := (Heap × CL × Int × List CI × List (Nm × Nat)) × Bool) (fun x => [(0, .int .i64 room), (1, .str first), (2, .sl st fl 1 (texts l)), (7, .ptr 1 0 0), (9, .str (sha first)), (10, .int .i64 (i : Nat)), (11, .str (if x.2 = true then sha s else [])), (12, .int .i64 (if x.2 = true then 0 else 2)), (81, .ptr 1 0 0)]) (fun x => x.1.1)
        (fun x => KI x.1.1 x.1.2.1 room x.1.2.2.1 x.1.2.2.2.1 x.1.2.2.2.2 first T (i + 2) ∧ (x.2 = true → ∃ e ∈ x.1.2.2.2.1, e.text = s) ∧ (x.2 = false → s.length > 100000 ∨ (s.length : Int) + (first.length : Nat) > room)) ?main ?rest
      case main =>
        intro hsh
        refine pao [.b true, .b true, .v (.str s), .v (.str s)] rfl ?_ ?_
        · (repeat' with_reducible apply AllP_cons) <;> try exact aC
          · exact OpSpec.loadR rfl rfl rfl rfl rfl
        by_cases hsb : s.length > 100000
        · have hP := Put_big σ L room used es ks2 s h.at_ hsb hsl
          rw [h.lq] at hP
          refine S_call rfl rfl rfl hP (fun v u hR => ?_) (fun v s hR => by obtain ⟨hR, _⟩ := hR; cases hR)
          obtain ⟨hR, a, b, rfl⟩ := hR
          cases hR
          refine pao [] rfl ?_ ?_
          · (repeat' with_reducible apply AllP_cons) <;> try exact aC
          exact hsh ((_, L, used, es, ks2), false) _ ⟨⟨(h.at_.app _ _).app _ _, h.lq, h.ok, by have := h.ln; show es.length ≤ i + 2; omega, h.pn, h.me, h.tx⟩, (fun h => by cases h), fun _ => .inl hsb⟩ (.cons rfl (.cons rfl (.cons rfl (.cons rfl (.cons rfl (.cons rfl (.cons rfl (.cons rfl (.cons rfl (.nil _))))))))))
        cases hat : atD es (sha s) with
        | some k =>
          obtain ⟨hk, hks⟩ := atD_some hat
          have htx : es[k].text = s := hap _ (h.tx _ (List.getElem_mem hk)) _ hsT hks
          have hP := Put_use σ L room used es ks2 s h.at_ h.ok.bd (by omega) hk hat
          rw [h.lq] at hP
          refine S_call rfl rfl rfl hP (fun v u hR => ?_) (fun v s hR => by obtain ⟨hR, _⟩ := hR; cases hR)
          obtain ⟨hR, h3, _⟩ := hR
          cases hR
          refine pao [] rfl ?_ ?_
          · (repeat' with_reducible apply AllP_cons) <;> try exact aC
          exact hsh ((_, bump L, used, useC es k, ks2), true) _ ⟨(h.use (L' := L) h3).up (by omega), fun _ => ⟨_, (useC_perm es k).mem_iff.2 (List.getElem_mem hk), htx⟩, (fun h => by cases h)⟩ (.cons rfl (.cons rfl (.cons rfl (.cons rfl (.cons rfl (.cons rfl (.cons rfl (.cons rfl (.cons rfl (.nil _))))))))))
        | none =>
          by_cases hfu : ((pinL es : Nat) : Int) + (s.length : Nat) > room
          · have hP := Put_full σ L room used es ks2 s h.at_ h.ok.bd (by omega) hat hfu
            rw [h.lq] at hP
            refine S_call rfl rfl rfl hP (fun v u hR => ?_) (fun v s hR => by obtain ⟨hR, _⟩ := hR; cases hR)
            obtain ⟨hR, a, b, rfl⟩ := hR
            cases hR
            refine pao [] rfl ?_ ?_
            · (repeat' with_reducible apply AllP_cons) <;> try exact aC
            exact hsh ((_, L, used, es, ks2), false) _ ⟨⟨(h.at_.app _ _).app _ _, h.lq, h.ok, by have := h.ln; show es.length ≤ i + 2; omega, h.pn, h.me, h.tx⟩, (fun h => by cases h), fun _ => .inr (by rw [hpin] at hfu; omega)⟩ (.cons rfl (.cons rfl (.cons rfl (.cons rfl (.cons rfl (.cons rfl (.cons rfl (.cons rfl (.cons rfl (.nil _))))))))))
          · have hP := Put_new σ L room used es ks2 s h.at_ h.ok.bd h.ok.us (by omega) hat hfu
            rw [h.lq] at hP
            refine S_call rfl rfl rfl hP (fun v u hR => ?_) (fun v s hR => by obtain ⟨hR, _⟩ := hR; cases hR)
            obtain ⟨hR, jid3, ks3, h3, _⟩ := hR
            cases hR
            refine pao [] rfl ?_ ?_
            · (repeat' with_reducible apply AllP_cons) <;> try exact aC
            exact hsh ((_, bump L, _, _, ks3), true) _ ⟨h.put hsT hsl (by omega) hat hfu h3, fun _ => ⟨_, List.mem_append_right _ (List.mem_singleton.2 rfl), rfl⟩, (fun h => by cases h)⟩ (.cons rfl (.cons rfl (.cons rfl (.cons rfl (.cons rfl (.cons rfl (.cons rfl (.cons rfl (.cons rfl (.nil _))))))))))
      case rest =>
        rintro ⟨⟨σ3, L3, used3, es3, ks3⟩, b⟩ ⟨h3, hbt, hbf⟩
        simp only at h3 hbt hbf
        have hRm := Room_ok σ3 L3 room used3 es3 ks3 h3.at_
        rw [h3.lq] at hRm
        obtain ⟨k, hk, ha, htx⟩ := there h3.at_.dg h3.me
        have hG := Get_ok σ3 L3 room used3 es3 ks3 (sha first) h3.at_ hd1 hk ha (by have := h3.ln; omega)
        rw [h3.lq, htx] at hG
        have hfit := h3.ok.fit
        have d3 : decide (used3 > room) = false := decide_eq_false (by omega)
        have d4 : (first != first) = false := by simp
        refine pao [.k (.tup [.int .i64 used3, .int .i64 (es3.length : Nat)])] rfl ?_ ?_
        · (repeat' with_reducible apply AllP_cons) <;> try exact aC
        refine S_call rfl rfl rfl hG (fun v u hR => ?_) (fun v s hR => by obtain ⟨hR, _⟩ := hR; cases hR)
        obtain ⟨hR, h4, _⟩ := hR
        cases hR
        have h4 := h3.use (L' := L3) h4
        cases b with
        | false =>
          have hbf := hbf rfl
          by_cases hc : (s.length : Int) + (first.length : Int) ≤ room
          · have hw : IntKind.i64.wrap ((s.length : Int) + (first.length : Int)) = (s.length : Int) + (first.length : Int) := IntWalk.i64_in _ ⟨by omega, by omega⟩
            have d5 : decide (IntKind.i64.wrap ((s.length : Int) + (first.length : Int)) ≤ room) = true := by rw [hw]; exact decide_eq_true hc
            have d6 : decide ((s.length : Int) ≤ 100000) = false := decide_eq_false (by omega)
            refine pao [.b false, .b false, .b false, .b true, .v (.str s), .v (.str s), .b true, .v (.str s), .v (.str s), .b false] rfl ?_ ?_
            · (repeat' with_reducible apply AllP_cons) <;> try exact aC
              all_goals exact OpSpec.loadR rfl rfl rfl rfl rfl
            exact S_round ((_, _, used3, useC es3 k, ks3), i + 1) (by show l.length - (i + 1) < l.length - i; omega) ⟨h4, hlt1, hlt2⟩ (.cons rfl (.cons rfl (.cons rfl (.cons rfl (.cons rfl (.cons hi1' (.nil _))))))) rfl
          · have hw : IntKind.i64.wrap ((s.length : Int) + (first.length : Int)) = (s.length : Int) + (first.length : Int) := IntWalk.i64_in _ ⟨by omega, by omega⟩
            have d5 : decide (IntKind.i64.wrap ((s.length : Int) + (first.length : Int)) ≤ room) = false := by rw [hw]; exact decide_eq_false hc
            refine pao [.b false, .b false, .b false, .b true, .v (.str s), .v (.str s), .b false, .b false] rfl ?_ ?_
            · (repeat' with_reducible apply AllP_cons) <;> try exact aC
              all_goals exact OpSpec.loadR rfl rfl rfl rfl rfl
            exact S_round ((_, _, used3, useC es3 k, ks3), i + 1) (by show l.length - (i + 1) < l.length - i; omega) ⟨h4, hlt1, hlt2⟩ (.cons rfl (.cons rfl (.cons rfl (.cons rfl (.cons rfl (.cons hi1' (.nil _))))))) rfl
        | true =>
          obtain ⟨e, he, hes⟩ := hbt rfl
          obtain ⟨m, hm, hma, hmt⟩ := there h4.at_.dg (s := s) ⟨e, (useC_perm es3 k).mem_iff.2 he, hes⟩
          have hsd : (sha s).length ≤ 9223372036854775807 := by rw [sha_len]; decide
          have hG2 := Get_ok u (bump L3) room used3 (useC es3 k) ks3 (sha s) h4.at_ hsd hm hma (by have := h4.ln; omega)
          rw [h4.lq, hmt] at hG2
          have hSm := Sum_ok s (by omega)
          have d5 : (s != s) = false := by simp
          have d6 : (sha s != sha s) = false := by simp
          refine pao [.b false, .b false, .b false, .b false] rfl ?_ ?_
          · (repeat' with_reducible apply AllP_cons) <;> try exact aC
          refine S_call rfl rfl rfl hG2 (fun v u5 hR => ?_) (fun v s hR => by obtain ⟨hR, _⟩ := hR; cases hR)
          obtain ⟨hR, h5, _⟩ := hR
          cases hR
          have h5 := h4.use (L' := L3) h5
          refine pao [.b false, .v (.str s), .v (.str s), .b false, .v (.str (sha s)), .b false] rfl ?_ ?_
          · (repeat' with_reducible apply AllP_cons) <;> try exact aC
            · exact OpSpec.loadR rfl rfl rfl rfl rfl
            · exact ⟨_, hSm, .cons (.refl .str) (.nil _)⟩
          exact S_round ((_, _, used3, useC (useC es3 k) m, ks3), i + 1) (by show l.length - (i + 1) < l.length - i; omega) ⟨h5, hlt1, hlt2⟩ (.cons rfl (.cons rfl (.cons rfl (.cons rfl (.cons rfl (.cons hi1' (.nil _))))))) rfl
end Go.Proofs.YtfpdfpdlekngfaaDoor
end
