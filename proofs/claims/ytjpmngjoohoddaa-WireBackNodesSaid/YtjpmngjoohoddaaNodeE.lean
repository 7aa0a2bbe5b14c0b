/-
  Nodes of a tree, packed: the program.
-/
import Derived.Test.YtjpmngjoohoddaaNodeD
import Derived.Test.YtjpmngjoohoddaaWireK
set_option linter.unusedVariables false
set_option linter.unusedSimpArgs false
set_option maxRecDepth 20000
namespace Go.Proofs.Ytjpmngjoohoddaa
open Go Go.Ab

theorem fails_eq (n : NodeV) (e : Nat) : failE (decide (n.kind < 1 ∨ 3 < n.kind)) 7 (failE (!(isName n.name && isDig n.dig)) 1 e) = chkF e n := by
  unfold failE chkF nodeE
  cases (isName n.name && isDig n.dig) <;> by_cases hk : n.kind < 1 ∨ 3 < n.kind <;> by_cases he : e = 0 <;> simp [hk, he]

theorem Nodes_ok {st fl : Bool} (l : List NodeV) (hl : NodesOk l) : Calc cx 29 [.sl st fl 3 (nodes l)] (.tup [.str (if chkN l = 0 then packNs l else []), .int .i64 (chkN l : Nat)]) :=
  pure_intro (fun a w => Try.call29 a w) Try.func29 rfl Try.ntmps29 rfl (ans_free _ _) fun B => by
    have hnl := nodes_len l
    refine ab 1000 rfl trivial ?_
    refine S_ghost 1 ⟨false, some 5⟩ (id := 0) (j := 1) rfl rfl rfl (show (0 : Nat) ≠ 1 by decide) ⟨.skip, _, .inr ⟨_, _, _, rfl⟩⟩ ?_
    by_cases h60 : 60 < l.length
    · have hc : chkN l = 2 := by rw [chkN, if_pos h60]
      rw [hc, if_neg (by decide)]
      refine S_pk 0 1 rfl rfl rfl rfl rfl rfl (.inl rfl) (show [AV.bool (decide (((nodes l).length : Int) > 60)), .int .i64 2] = [.bool true, .int .i64 2] by rw [decide_eq_true (by omega)]) free_bi (fun a ha => fail_ok 0 0 a ha [] true 2 0) free_u (fun u1 a1 ha1 => ?_)
      refine ab 1000 rfl ⟨rfl, trivial⟩ ?_
      refine S_bne rfl (fun _ => ?_) (fun h => absurd (show ((2 : Nat) : Int) = 0 from h) (by decide))
      refine ab 1000 rfl trivial ?_
      refine S_doneE (e := 2) 0 1 rfl rfl rfl rfl rfl rfl ha1 (by decide) ?_
      refine ab 1000 rfl trivial ?_
      exact S_retc (ans_free _ _) rfl trivial rfl
    refine S_pk 0 1 rfl rfl rfl rfl rfl rfl (.inl rfl) (show [AV.bool (decide (((nodes l).length : Int) > 60)), .int .i64 2] = [.bool false, .int .i64 2] by rw [decide_eq_false (by omega)]) free_bi (fun a ha => fail_ok 0 0 a ha [] false 2 0) free_u (fun u1 a1 ha1 => ?_)
    refine ab 1000 rfl ⟨rfl, trivial⟩ ?_
    refine S_bne rfl (fun h => absurd (show ((0 : Nat) : Int) = 0 from rfl) h) (fun _ => ?_)
    refine ab 1000 rfl trivial ?_
    refine S_dead ?_ ⟨_, _, .inl rfl⟩
    refine S_while (α := Nat × Nat × AV × Nat) (fun (i, u, a, b) => [(0, .sl st fl 3 (nodes l)), (4, .ptr 0 0 0), (25, .sl st fl 3 (nodes l)), (26, .int .i64 ((nodes l).length : Nat)), (27, .int .i64 (i : Nat))])
      (fun (i, u, a, b) => [pkB 0 1 0 u a [] ((l.take i).foldl chkF 0), byB u [], (b, none)]) (fun (i, u, a, b) => i ≤ l.length ∧ (a = .nilp ∨ a = .ptr 0 0 0)) (fun (i, u, a, b) => l.length - i) (0, u1, a1, 0)
      ⟨Nat.zero_le _, ha1⟩ (.cons rfl (.cons rfl (.cons rfl (.cons rfl (.cons rfl (.nil _)))))) rfl ?_
    rintro ⟨i, u, a, b⟩ ⟨hi, ha⟩
    have hi : i ≤ l.length := hi
    refine ab 1000 rfl trivial ?_
    refine S_dec rfl (fun hil => ?_) (fun hil => ?_)
    · have hil : i < l.length := by have : ((i : Nat) : Int) < ((nodes l).length : Nat) := hil; omega
      obtain ⟨n, hn⟩ : ∃ n, n = l[i] := ⟨_, rfl⟩
      have hget : (nodes l)[((i : Nat) : Int).toNat]? = some (nodeAV n) := by rw [Int.toNat_natCast, hn]; exact nodes_get hil
      have hm : n ∈ l := by rw [hn]; exact List.getElem_mem hil
      obtain ⟨e, he⟩ : ∃ e, e = (l.take i).foldl chkF 0 := ⟨_, rfl⟩
      refine S_heap [pkB 0 1 0 u a [] e, byB u [], (b, none)] (by rw [he]) ?_
      refine ab 1000 rfl trivial ?_
      refine S_index (nodeAV n) rfl rfl rfl ⟨rfl, by omega, hget, trivial⟩ ?_
      refine ab 1000 rfl ⟨rfl, lble rfl, rfl, trivial⟩ ?_
      refine S_heap [pkB 0 1 0 u a [] e, byB u [], (b + 1, some (.cells [.str n.name, .int .i64 n.kind, .str n.dig] ⟨false, some 93⟩))] rfl ?_
      refine S_pure rfl rfl rfl (isName_ok n.name (hl.name n hm)) (.cons (.refl .str) (.nil _)) ?_
      refine ab 1000 rfl trivial ?_
      refine S_split 5 (fun fr σ => Weak fr [(0, .sl st fl 3 (nodes l)), (4, .ptr 0 0 0), (25, .sl st fl 3 (nodes l)), (26, .int .i64 ((nodes l).length : Nat)), (27, .int .i64 (i : Nat)), (6, .ptr 2 (b + 1) 0), (31, .ptr 0 0 0), (41, .bool !(isName n.name && isDig n.dig))] ∧ σ = [pkB 0 1 0 u a [] e, byB u [], (b + 1, some (.cells [.str n.name, .int .i64 n.kind, .str n.dig] ⟨false, some 93⟩))]) ?_ ?_
      · refine S_guard rfl rfl rfl rfl (fun h => ?_) (fun h => ?_)
        · have h : isName n.name = false := by simpa using (show (!isName n.name) = true from h)
          refine ab 1000 rfl trivial ?_
          exact S_inv ⟨(.cons rfl (.cons rfl (.cons rfl (.cons rfl (.cons rfl (.cons rfl (.cons rfl (.cons (by rw [h]; rfl) (.nil _))))))))), rfl⟩
        · have h : isName n.name = true := by simpa using (show (!isName n.name) = false from h)
          refine ab 1000 rfl ⟨rfl, trivial⟩ ?_
          refine S_pure rfl rfl rfl (digestIs_ok n.dig (hl.dig n hm)) (.cons (.refl .str) (.nil _)) ?_
          refine ab 1000 rfl trivial ?_
          exact S_inv ⟨(.cons rfl (.cons rfl (.cons rfl (.cons rfl (.cons rfl (.cons rfl (.cons rfl (.cons (by rw [h]; rfl) (.nil _))))))))), rfl⟩
      rintro fr σ ⟨hw, rfl⟩
      refine S_opsW hw ?_
      refine S_pk 0 1 rfl rfl rfl rfl rfl rfl ha rfl free_bi (fun a ha => fail_ok 0 u a ha [] (!(isName n.name && isDig n.dig)) 1 e) free_u (fun u2 a2 ha2 => ?_)
      refine ab 1000 rfl ⟨rfl, trivial⟩ ?_
      refine S_split 4 (fun fr σ => Weak fr [(0, .sl st fl 3 (nodes l)), (4, .ptr 0 0 0), (25, .sl st fl 3 (nodes l)), (26, .int .i64 ((nodes l).length : Nat)), (27, .int .i64 (i : Nat)), (6, .ptr 2 (b + 1) 0), (43, .ptr 0 0 0), (51, .bool (decide (n.kind < 1 ∨ 3 < n.kind)))] ∧ σ = [pkB 0 1 0 u2 a2 [] (failE (!(isName n.name && isDig n.dig)) 1 e), byB u2 [], (b + 1, some (.cells [.str n.name, .int .i64 n.kind, .str n.dig] ⟨false, some 93⟩))]) ?_ ?_
      · refine S_guard rfl rfl rfl rfl (fun h => ?_) (fun h => ?_)
        · have h : n.kind < 1 := of_decide_eq_true h
          refine ab 1000 rfl trivial ?_
          exact S_inv ⟨(.cons rfl (.cons rfl (.cons rfl (.cons rfl (.cons rfl (.cons rfl (.cons rfl (.cons (by show AV.bool true = _; rw [decide_eq_true (.inl h)]) (.nil _))))))))), rfl⟩
        · have h : ¬ n.kind < 1 := of_decide_eq_false h
          refine ab 1000 rfl ⟨rfl, trivial⟩ ?_
          exact S_inv ⟨(.cons rfl (.cons rfl (.cons rfl (.cons rfl (.cons rfl (.cons rfl (.cons rfl (.cons (by show AV.bool (decide (3 < n.kind)) = _; exact congrArg AV.bool (decide_eq_decide.2 ⟨fun h => .inr h, fun h2 => h2.resolve_left h⟩)) (.nil _))))))))), rfl⟩
      rintro fr σ ⟨hw, rfl⟩
      refine S_opsW hw ?_
      refine S_pk 0 1 rfl rfl rfl rfl rfl rfl ha2 rfl free_bi (fun a ha => fail_ok 0 u2 a ha [] (decide (n.kind < 1 ∨ 3 < n.kind)) 7 (failE (!(isName n.name && isDig n.dig)) 1 e)) free_u (fun u3 a3 ha3 => ?_)
      rw [fails_eq]
      refine S_drop (id := 2) rfl ?_ ⟨.skip, _, .inr ⟨_, _, _, rfl⟩⟩
      refine ab 1000 rfl trivial ?_
      refine S_round (i + 1, u3, a3, b + 1) (by show l.length - (i + 1) < l.length - i; omega) ⟨hil, ha3⟩ (.cons rfl (.cons rfl (.cons rfl (.cons rfl (.cons (ai64 rfl (by omega)) (.nil _)))))) ?_
      show [pkB 0 1 0 u3 a3 [] (chkF e n), byB u3 [], (b + 1, none)] = [pkB 0 1 0 u3 a3 [] ((l.take (i + 1)).foldl chkF 0), byB u3 [], (b + 1, none)]
      rw [chk_step hil, ← hn, ← he]
    · have hil : i = l.length := by have : ¬ ((i : Nat) : Int) < ((nodes l).length : Nat) := hil; omega
      refine S_heap [pkB 0 1 0 u a [] (chkLoop l), byB u [], (b, none)] (by rw [hil, List.take_length]; rfl) ?_
      refine ab 1000 rfl trivial ?_
      refine S_pure rfl rfl rfl (rises_ok l hl.len) (.cons (.refl (.sl (fun h => by cases h) (nodes_any l))) (.cons (.refl (.func (fun x h => by cases h) (fun x h => by cases h))) (.nil _))) ?_
      refine ab 1000 rfl trivial ?_
      refine S_pk 0 1 rfl rfl rfl rfl rfl rfl ha rfl free_bi (fun a ha => fail_ok 0 u a ha [] (!riseB (l.map NodeV.name)) 6 (chkLoop l)) free_u (fun u4 a4 ha4 => ?_)
      have hE : failE (!riseB (l.map NodeV.name)) 6 (chkLoop l) = chkN l := by
        unfold failE chkN
        cases riseB (l.map NodeV.name) <;> by_cases he : chkLoop l = 0 <;> simp [he, h60]
      rw [hE]
      refine ab 1000 rfl ⟨rfl, trivial⟩ ?_
      refine S_bne rfl (fun h => ?_) (fun h => ?_)
      · have he : chkN l ≠ 0 := by have : ((chkN l : Nat) : Int) ≠ 0 := h; omega
        rw [if_neg he]
        refine ab 1000 rfl trivial ?_
        refine S_doneE 0 1 rfl rfl rfl rfl rfl rfl ha4 he ?_
        refine ab 1000 rfl trivial ?_
        exact S_retc (ans_free _ _) rfl trivial rfl
      have hc : chkN l = 0 := by have : ((chkN l : Nat) : Int) = 0 := h; omega
      have fit := chk_fit hc
      have hlen := fit.len
      rw [hc, if_pos rfl]
      refine ab 1000 rfl trivial ?_
      refine S_pk 0 1 rfl rfl rfl rfl rfl rfl ha4 (show [AV.int .i64 ((nodes l).length : Nat)] = [.int .i64 (l.length : Nat)] by rw [hnl]) free_i (fun a ha => pnumber_ok 0 u4 a ha [] l.length (by omega) (by decide)) free_u (fun u5 a5 ha5 => ?_)
      refine S_heap [pkB 0 1 0 u5 a5 (packN 9 l.length ++ (l.take 0).flatMap packNode) 0, byB u5 (packN 9 l.length ++ (l.take 0).flatMap packNode), (b, none)] (by rw [List.take_zero, List.flatMap_nil, List.append_nil, List.nil_append]; rfl) ?_
      refine ab 1000 rfl trivial ?_
      refine S_while (α := Nat × Nat × AV × Nat) (fun (i, u, a, b) => [(0, .sl st fl 3 (nodes l)), (4, .ptr 0 0 0), (72, .sl st fl 3 (nodes l)), (73, .int .i64 ((nodes l).length : Nat)), (74, .int .i64 (i : Nat))])
        (fun (i, u, a, b) => [pkB 0 1 0 u a (packN 9 l.length ++ (l.take i).flatMap packNode) 0, byB u (packN 9 l.length ++ (l.take i).flatMap packNode), (b, none)]) (fun (i, u, a, b) => i ≤ l.length ∧ (a = .nilp ∨ a = .ptr 0 0 0)) (fun (i, u, a, b) => l.length - i) (0, u5, a5, b)
        ⟨Nat.zero_le _, ha5⟩ (.cons rfl (.cons rfl (.cons rfl (.cons rfl (.cons rfl (.nil _)))))) rfl ?_
      rintro ⟨i, u, a, b⟩ ⟨hi, ha⟩
      have hi : i ≤ l.length := hi
      have hfl := packNs_len (l := l.take i) (fun n h => fit.name n (List.mem_of_mem_take h)) (fun n h => fit.dig n (List.mem_of_mem_take h))
      have htk : (l.take i).length = i := by simp; omega
      have hpl := packN_len 9 l.length
      obtain ⟨bs, hbs⟩ : ∃ bs, bs = packN 9 l.length ++ (l.take i).flatMap packNode := ⟨_, rfl⟩
      have hbl : bs.length ≤ 10 + 60 * 114 := by rw [hbs, List.length_append]; omega
      refine S_heap [pkB 0 1 0 u a bs 0, byB u bs, (b, none)] (by rw [hbs]) ?_
      refine ab 1000 rfl trivial ?_
      refine S_dec rfl (fun hil => ?_) (fun hil => ?_)
      · have hil : i < l.length := by have : ((i : Nat) : Int) < ((nodes l).length : Nat) := hil; omega
        obtain ⟨n, hn⟩ : ∃ n, n = l[i] := ⟨_, rfl⟩
        have hget : (nodes l)[((i : Nat) : Int).toNat]? = some (nodeAV n) := by rw [Int.toNat_natCast, hn]; exact nodes_get hil
        have hm : n ∈ l := by rw [hn]; exact List.getElem_mem hil
        obtain ⟨k, hk⟩ := Int.eq_ofNat_of_zero_le (show 0 ≤ n.kind by have := fit.kind n hm; omega)
        have hk3 : k ≤ 3 := by have := fit.kind n hm; omega
        have hnn := fit.name n hm
        have hnd := fit.dig n hm
        have l1 := packT_len n.name
        have l2 := packT_len n.dig
        have l3 := packN_len 9 k
        refine ab 1000 rfl trivial ?_
        refine S_index (nodeAV n) rfl rfl rfl ⟨rfl, by omega, hget, trivial⟩ ?_
        refine ab 1000 rfl ⟨rfl, lble rfl, rfl, trivial⟩ ?_
        refine S_heap [pkB 0 1 0 u a bs 0, byB u bs, (b + 1, some (.cells [.str n.name, .int .i64 n.kind, .str n.dig] ⟨false, some 93⟩))] rfl ?_
        refine S_pk 0 1 rfl rfl rfl rfl rfl rfl ha rfl free_s (fun a ha => ptext_ok 0 u a ha bs n.name (by omega)) free_u (fun u6 a6 ha6 => ?_)
        refine ab 1000 rfl ⟨rfl, trivial⟩ ?_
        refine S_pk 0 1 rfl rfl rfl rfl rfl rfl ha6 (show [AV.int .i64 n.kind] = [.int .i64 (k : Int)] by rw [hk]) free_i (fun a ha => pnumber_ok 0 u6 a ha (bs ++ packT n.name) k (by omega) (by rw [List.length_append]; omega)) free_u (fun u7 a7 ha7 => ?_)
        refine ab 1000 rfl ⟨rfl, trivial⟩ ?_
        refine S_pk 0 1 rfl rfl rfl rfl rfl rfl ha7 rfl free_s (fun a ha => ptext_ok 0 u7 a ha (bs ++ packT n.name ++ packN 9 k) n.dig (by simp only [List.length_append]; omega)) free_u (fun u8 a8 ha8 => ?_)
        refine S_drop (id := 2) rfl ?_ ⟨.skip, _, .inr ⟨_, _, _, rfl⟩⟩
        refine ab 1000 rfl trivial ?_
        refine S_round (i + 1, u8, a8, b + 1) (by show l.length - (i + 1) < l.length - i; omega) ⟨hil, ha8⟩ (.cons rfl (.cons rfl (.cons rfl (.cons rfl (.cons (ai64 rfl (by omega)) (.nil _)))))) ?_
        have hq : packN 9 l.length ++ (l.take (i + 1)).flatMap packNode = bs ++ packT n.name ++ packN 9 k ++ packT n.dig := by
          rw [List.take_succ_eq_append_getElem hil, ← hn, List.flatMap_append, List.flatMap_cons, List.flatMap_nil, List.append_nil, hbs, packNode, hk, Int.toNat_natCast]
          simp only [List.append_assoc]
        show [pkB 0 1 0 u8 a8 (bs ++ packT n.name ++ packN 9 k ++ packT n.dig) 0, byB u8 (bs ++ packT n.name ++ packN 9 k ++ packT n.dig), (b + 1, none)] = [pkB 0 1 0 u8 a8 (packN 9 l.length ++ (l.take (i + 1)).flatMap packNode) 0, byB u8 (packN 9 l.length ++ (l.take (i + 1)).flatMap packNode), (b + 1, none)]
        rw [hq]
      · have hil : i = l.length := by have : ¬ ((i : Nat) : Int) < ((nodes l).length : Nat) := hil; omega
        have hq : packNs l = bs := by rw [hbs, hil, List.take_length]; rfl
        rw [hq]
        refine ab 1000 rfl trivial ?_
        refine S_done0 0 1 rfl rfl rfl rfl rfl rfl ha (by rw [hbs]; simp [packN_ne]) (by omega) ?_
        refine ab 1000 rfl trivial ?_
        exact S_retc (ans_free _ _) rfl trivial rfl

end Go.Proofs.Ytjpmngjoohoddaa
