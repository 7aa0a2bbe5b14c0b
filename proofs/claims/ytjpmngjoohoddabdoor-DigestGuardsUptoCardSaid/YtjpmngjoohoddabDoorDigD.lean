/-
  One block of 64 letters: the walk.
-/
import Derived.Test.YtjpmngjoohoddabDoorDigC
set_option linter.unusedVariables false
set_option linter.unusedSimpArgs false
set_option maxRecDepth 20000
namespace Go.Proofs.YtjpmngjoohoddabDoor
open Go Go.Ab

theorem kTab32 : W32 kTab := by
  show ∀ x ∈ kTab, x < M32
  decide +kernel

theorem addmods (a b c d e : Nat) : ((((a + b) % M32 + c) % M32 + d) % M32 + e) % M32 = (a + b + c + (d + e)) % M32 := by
  simp only [M32]; omega

set_option maxHeartbeats 8000000 in
theorem block_ok (v u a b off len : Nat) (fl : Bool) (h : List Nat) (bs : List UInt8) (g : Tag) (hh : h.length = 8) (hh2 : W32 h) (hlen : 64 ≤ len) (ho : off + len ≤ bs.length) (hbl : bs.length ≤ 4611686018427387904) :
    CallOk cx 79 [.ptr 0 v 0, .ms 1 u off len 1 fl] [sB v h, bB u bs g, (a, none), (b, none)]
      (fun o σ' => o = .ret (.tup []) ∧ σ' = [sB v (block h (bs.drop off)), bB u bs g, (a + 1, none), (b + 1, none)]) :=
  callOk_intro (fun a' w => Tryd.call79 a' w) Tryd.func79 rfl Tryd.ntmps79 rfl fun B => by
    obtain ⟨p, hp⟩ : ∃ p, p = bs.drop off := ⟨_, rfl⟩
    rw [← hp]
    have hpl : 64 ≤ p.length := by rw [hp, List.length_drop]; omega
    have hpg : ∀ i, i < 64 → bs.getD (off + i) 0 = p.getD i 0 := by
      intro i hi
      rw [hp]
      simp [List.getD]
    refine ab 1000 rfl trivial ?_
    -- the first words
    refine S_while (α := Nat) (fun t => [(0, .ptr 0 v 0), (1, .ms 1 u off len 1 fl), (4, .ptr 2 (a + 1) 0), (21, .int .i64 t)]) (fun t => [sB v h, bB u bs g, wB (a + 1) ((words p).take t ++ List.replicate (64 - t) 0), (b, none)]) (fun t => t ≤ 16) (fun t => 16 - t) 0
      (Nat.zero_le _) (.cons rfl (.cons rfl (.cons rfl (.cons rfl (.nil _))))) rfl ?_
    intro t ht
    refine ab 1000 rfl trivial ?_
    refine S_dec rfl (fun hlt => ?_) (fun hlt => ?_)
    · have htl : t < 16 := by omega
      have hw4 : IntKind.i64.wrap (4 * (t : Int)) = ((4 * t : Nat) : Int) := w64 rfl (by omega)
      have hw8 : IntKind.i64.wrap (((4 * t : Nat) : Int) + 4) = ((4 * t + 4 : Nat) : Int) := w64 rfl (by omega)
      have hfill : (words p).take t ++ List.replicate (64 - t) 0 = (words p).take t ++ accW p (4 * t) 0 :: List.replicate (63 - t) 0 := by
        rw [show 64 - t = (63 - t) + 1 by omega, List.replicate_succ]; rfl
      have htk : ((words p).take t).length = t := by rw [List.length_take, words_len]; omega
      refine ab 1000 rfl ⟨rfl, by rw [hw4, hw8]; omega, by rw [hw4, hw8]; omega, by rw [hw4]; omega, trivial⟩ ?_
      refine S_while (α := Nat) (fun j => [(0, .ptr 0 v 0), (1, .ms 1 u off len 1 fl), (4, .ptr 2 (a + 1) 0), (5, .int .i64 t), (21, .int .i64 t), (30, .ms 1 u (off + 4 * t) 4 1 false), (31, .int .i64 4), (32, .int .i64 j)])
        (fun j => [sB v h, bB u bs g, wB (a + 1) ((words p).take t ++ accW p (4 * t) j :: List.replicate (63 - t) 0), (b, none)]) (fun j => j ≤ 4) (fun j => 4 - j) 0
        (Nat.zero_le _) (.cons rfl (.cons rfl (.cons rfl (.cons rfl (.cons rfl (.cons ?_ (.cons ?_ (.cons rfl (.nil _))))))))) (by rw [hfill]) ?_
      · show AV.ms 1 u (off + (IntKind.i64.wrap (4 * (t : Int))).toNat * 1) ((IntKind.i64.wrap (IntKind.i64.wrap (4 * (t : Int)) + 4)).toNat - (IntKind.i64.wrap (4 * (t : Int))).toNat) 1 false = _
        rw [hw4, hw8, Int.toNat_natCast, Int.toNat_natCast, Nat.mul_one, show 4 * t + 4 - 4 * t = 4 by omega]
      · show AV.int .i64 (((IntKind.i64.wrap (IntKind.i64.wrap (4 * (t : Int)) + 4)).toNat - (IntKind.i64.wrap (4 * (t : Int))).toNat : Nat) : Int) = _
        rw [hw4, hw8, Int.toNat_natCast, Int.toNat_natCast, show 4 * t + 4 - 4 * t = 4 by omega]; rfl
      intro j hj
      refine ab 1000 rfl trivial ?_
      refine S_dec rfl (fun hlt => ?_) (fun hlt => ?_)
      · have hj4 : j < 4 := by omega
        have hacc := accW_lt p (4 * t) j
        have hap : 256 ^ j ≤ 256 ^ 3 := Nat.pow_le_pow_right (by decide) (by omega)
        refine ab 1000 rfl trivial ?_
        refine S_index .top rfl rfl rfl ⟨rfl, by omega, by omega, trivial⟩ ?_
        refine S_load (byteAV (p.getD (4 * t + j) 0)) rfl rfl rfl ⟨rfl, ?_, trivial⟩ ?_
        · show ((bs.map byteAV).drop (offN (off + 4 * t) (mulN (j : Int).toNat 1)))[0]? = _
          rw [offN_eq, mulN_eq, Int.toNat_natCast, Nat.mul_one, Nat.add_assoc, bytes_ld (by omega), hpg _ (by omega)]
        refine ab 1000 rfl trivial ?_
        refine S_index .top rfl rfl rfl ⟨by omega, by omega, trivial⟩ ?_
        have hwl : ((words p).take t ++ accW p (4 * t) j :: List.replicate (63 - t) 0).length = 64 := by
          rw [List.length_append, htk, List.length_cons, List.length_replicate]; omega
        have hwg : ((words p).take t ++ accW p (4 * t) j :: List.replicate (63 - t) 0).getD t 0 = accW p (4 * t) j := by
          rw [List.getD, List.getElem?_append_right (by omega), htk, Nat.sub_self]; rfl
        refine S_load (.int .u32 (accW p (4 * t) j : Nat)) rfl rfl rfl ⟨rfl, ?_, trivial⟩ ?_
        · show ((u32L ((words p).take t ++ accW p (4 * t) j :: List.replicate (63 - t) 0)).drop (mulN (t : Int).toNat 1))[0]? = _
          rw [mulN_eq, Int.toNat_natCast, Nat.mul_one, u32L_ld (by omega), hwg]
        refine ab 1000 rfl ⟨by decide, trivial⟩ ?_
        refine S_index .top rfl rfl rfl ⟨by omega, by omega, trivial⟩ ?_
        refine S_store rfl rfl rfl ⟨rfl, rfl, rfl, ?_, trivial⟩ ?_
        · show mulN (t : Int).toNat 1 + 1 ≤ (u32L _).length
          rw [mulN_eq, Int.toNat_natCast, Nat.mul_one, u32L_len]; omega
        have hc := (p.getD (4 * t + j) 0).toNat_lt
        have hval : AV.int .u32 (bitsA .or .u32 (IntKind.u32.wrap ((accW p (4 * t) j : Nat) * 2 ^ (min (8 : Int).toNat 32))) (IntKind.u32.wrap (((p.getD (4 * t + j) 0).toNat : Nat) : Int))) = .int .u32 (accW p (4 * t) (j + 1) : Nat) := by
          rw [show ((accW p (4 * t) j : Nat) : Int) * 2 ^ (min (8 : Int).toNat 32) = ((accW p (4 * t) j * 2 ^ 8 : Nat) : Int) from rfl]
          rw [wu32 (x := ((accW p (4 * t) j * 2 ^ 8 : Nat) : Int)) (k := accW p (4 * t) j * 2 ^ 8) rfl (by omega), wu32 (x := (((p.getD (4 * t + j) 0).toNat : Nat) : Int)) (k := (p.getD (4 * t + j) 0).toNat) rfl (by omega)]
          rw [u32or (by show _ < 4294967296; omega) (by show _ < 4294967296; omega)]
          have := Nat.two_pow_add_eq_or_of_lt (i := 8) (b := (p.getD (4 * t + j) 0).toNat) (by omega) (accW p (4 * t) j)
          rw [Nat.mul_comm] at this
          rw [← this]
          simp [accW]
        refine S_heap [sB v h, bB u bs g, wB (a + 1) ((words p).take t ++ accW p (4 * t) (j + 1) :: List.replicate (63 - t) 0), (b, none)] ?_ ?_
        · show [_, _, (a + 1, some (Box.cells (setRange (u32L ((words p).take t ++ accW p (4 * t) j :: List.replicate (63 - t) 0)) (mulN (t : Int).toNat 1) [AV.int .u32 (bitsA .or .u32 (IntKind.u32.wrap ((accW p (4 * t) j : Nat) * 2 ^ (min (8 : Int).toNat 32))) (IntKind.u32.wrap (((p.getD (4 * t + j) 0).toNat : Nat) : Int)))]) _)), _] = _
          rw [hval, mulN_eq, Int.toNat_natCast, Nat.mul_one, u32L_set]
          have := set_fill ((words p).take t) 0 (accW p (4 * t) (j + 1)) (accW p (4 * t) j) (List.replicate (63 - t) 0)
          rw [htk] at this
          rw [this]; rfl
        refine ab 1000 rfl trivial ?_
        exact S_round (j + 1) (by show 4 - (j + 1) < 4 - j; omega) hj4 (.cons rfl (.cons rfl (.cons rfl (.cons rfl (.cons rfl (.cons rfl (.cons rfl (.cons (ai64 rfl (by omega)) (.nil _))))))))) rfl
      · have hj4 : j = 4 := by omega
        subst hj4
        refine ab 1000 rfl trivial ?_
        refine S_round (t + 1) (by show 16 - (t + 1) < 16 - t; omega) htl (.cons rfl (.cons rfl (.cons rfl (.cons (ai64 rfl (by omega)) (.nil _))))) ?_
        show [_, _, wB (a + 1) ((words p).take t ++ accW p (4 * t) 4 :: List.replicate (63 - t) 0), _] = [_, _, wB (a + 1) ((words p).take (t + 1) ++ List.replicate (64 - (t + 1)) 0), _]
        have hwt : (words p).take (t + 1) = (words p).take t ++ [accW p (4 * t) 4] := by
          rw [List.take_succ_eq_append_getElem (by rw [words_len]; exact htl), words_get p htl]
        rw [hwt, show 64 - (t + 1) = 63 - t by omega, List.append_assoc]; rfl
    · have ht16 : t = 16 := by omega
      subst ht16
      refine ab 1000 rfl trivial ?_
      -- the other words
      refine S_while (α := List Nat) (fun w => [(0, .ptr 0 v 0), (4, .ptr 2 (a + 1) 0), (8, .int .i64 w.length)]) (fun w => [sB v h, bB u bs g, wB (a + 1) (w ++ List.replicate (64 - w.length) 0), (b, none)]) (fun w => 16 ≤ w.length ∧ w.length ≤ 64 ∧ W32 w ∧ sched (64 - w.length) w = schedOf p) (fun w => 64 - w.length) (words p)
        ⟨by rw [words_len]; exact Nat.le_refl _, by rw [words_len]; decide, words_lt p, by rw [words_len]; rfl⟩ (.cons rfl (.cons rfl (.cons (by rw [words_len]; rfl) (.nil _)))) (by rw [words_len, List.take_of_length_le (by rw [words_len]; exact Nat.le_refl _)]) ?_
      rintro w ⟨hw1, hw2, hw3, hw4⟩
      refine ab 1000 rfl trivial ?_
      refine S_dec rfl (fun hlt => ?_) (fun hlt => ?_)
      · have htl : w.length < 64 := by omega
        obtain ⟨t, htd⟩ : ∃ t, t = w.length := ⟨_, rfl⟩
        have hLl : (w ++ List.replicate (64 - w.length) 0).length = 64 := by rw [List.length_append, List.length_replicate]; omega
        have hLg : ∀ i, i < w.length → (w ++ List.replicate (64 - w.length) 0).getD i 0 = w.getD i 0 := by
          intro i hi
          rw [List.getD, List.getElem?_append_left hi]; rfl
        have ld : ∀ i, i < w.length → ((u32L (w ++ List.replicate (64 - w.length) 0)).drop i)[0]? = some (.int .u32 (w.getD i 0 : Nat)) := by
          intro i hi
          rw [u32L_ld (by omega), hLg i hi]
        have hw15 : IntKind.i64.wrap ((w.length : Int) - 15) = ((w.length - 15 : Nat) : Int) := w64 (by omega) (by omega)
        have hw2' : IntKind.i64.wrap ((w.length : Int) - 2) = ((w.length - 2 : Nat) : Int) := w64 (by omega) (by omega)
        have hw16 : IntKind.i64.wrap ((w.length : Int) - 16) = ((w.length - 16 : Nat) : Int) := w64 (by omega) (by omega)
        have hw7 : IntKind.i64.wrap ((w.length : Int) - 7) = ((w.length - 7 : Nat) : Int) := w64 (by omega) (by omega)
        have hx := hw3.getD (w.length - 15)
        have hy := hw3.getD (w.length - 2)
        obtain ⟨x, hxd⟩ : ∃ x, x = w.getD (w.length - 15) 0 := ⟨_, rfl⟩
        obtain ⟨y, hyd⟩ : ∃ y, y = w.getD (w.length - 2) 0 := ⟨_, rfl⟩
        rw [← hxd] at hx
        rw [← hyd] at hy
        refine ab 1000 rfl trivial ?_
        refine S_draw 9 [] [.top, .int .u32 (x : Nat), .top, .int .u32 (y : Nat)] rfl rfl rfl rfl ⟨rfl, rfl, by rw [hw15]; omega, by rw [hw15]; omega, rfl, ?_, rfl, rfl, by rw [hw2']; omega, by rw [hw2']; omega, rfl, ?_, rfl, trivial⟩ ?_
        · show ((u32L (w ++ List.replicate (64 - w.length) 0)).drop (mulN (IntKind.i64.wrap ((w.length : Int) - 15)).toNat 1))[0]? = _
          rw [mulN_eq, hw15, Int.toNat_natCast, Nat.mul_one, ld _ (by omega), ← hxd]
        · show ((u32L (w ++ List.replicate (64 - w.length) 0)).drop (mulN (IntKind.i64.wrap ((w.length : Int) - 2)).toNat 1))[0]? = _
          rw [mulN_eq, hw2', Int.toNat_natCast, Nat.mul_one, ld _ (by omega), ← hyd]
        refine ab 1000 rfl trivial ?_
        refine S_pure rfl rfl rfl (Rotate_ok x 7 hx (by decide) (by decide)) (.cons (.refl .int) (.cons (.refl .int) (.nil _))) ?_
        refine ab 1000 rfl trivial ?_
        refine S_pure rfl rfl rfl (Rotate_ok x 18 hx (by decide) (by decide)) (.cons (.refl .int) (.cons (.refl .int) (.nil _))) ?_
        refine ab 1000 rfl ⟨by decide, trivial⟩ ?_
        refine S_pure rfl rfl rfl (Rotate_ok y 17 hy (by decide) (by decide)) (.cons (.refl .int) (.cons (.refl .int) (.nil _))) ?_
        refine ab 1000 rfl trivial ?_
        refine S_pure rfl rfl rfl (Rotate_ok y 19 hy (by decide) (by decide)) (.cons (.refl .int) (.cons (.refl .int) (.nil _))) ?_
        refine ab 1000 rfl ⟨by decide, trivial⟩ ?_
        refine S_weak (fr' := [(0, .ptr 0 v 0), (4, .ptr 2 (a + 1) 0), (8, .int .i64 w.length), (11, .int .u32 (sig0 x : Nat)), (12, .int .u32 (sig1 y : Nat))]) (.cons rfl (.cons rfl (.cons rfl (.cons ?_ (.cons ?_ (.nil _)))))) ?_
        · show AV.int .u32 (bitsA .xor .u32 (bitsA .xor .u32 (rotr x 7 : Nat) (rotr x 18 : Nat)) ((x : Int).fdiv (2 ^ 3))) = _
          rw [u32xor (rotr_lt _ hx) (rotr_lt _ hx), shr_nat, u32xor (xor_lt (rotr_lt _ hx) (rotr_lt _ hx)) (div_lt _ hx)]; rfl
        · show AV.int .u32 (bitsA .xor .u32 (bitsA .xor .u32 (rotr y 17 : Nat) (rotr y 19 : Nat)) ((y : Int).fdiv (2 ^ 10))) = _
          rw [u32xor (rotr_lt _ hy) (rotr_lt _ hy), shr_nat, u32xor (xor_lt (rotr_lt _ hy) (rotr_lt _ hy)) (div_lt _ hy)]; rfl
        refine S_draw 15 [] [.top, .int .u32 (w.getD (w.length - 16) 0 : Nat), .top, .int .u32 (w.getD (w.length - 7) 0 : Nat), .top] rfl rfl rfl rfl
          ⟨rfl, rfl, rfl, by rw [hw16]; omega, by rw [hw16]; omega, rfl, ?_, rfl, rfl, rfl, rfl, by rw [hw7]; omega, by rw [hw7]; omega, rfl, ?_, rfl, rfl, rfl, by omega, by omega, trivial⟩ ?_
        · show ((u32L (w ++ List.replicate (64 - w.length) 0)).drop (mulN (IntKind.i64.wrap ((w.length : Int) - 16)).toNat 1))[0]? = _
          rw [mulN_eq, hw16, Int.toNat_natCast, Nat.mul_one, ld _ (by omega)]
        · show ((u32L (w ++ List.replicate (64 - w.length) 0)).drop (mulN (IntKind.i64.wrap ((w.length : Int) - 7)).toNat 1))[0]? = _
          rw [mulN_eq, hw7, Int.toNat_natCast, Nat.mul_one, ld _ (by omega)]
        refine S_store rfl rfl rfl ⟨rfl, rfl, rfl, ?_, trivial⟩ ?_
        · show mulN (w.length : Int).toNat 1 + 1 ≤ (u32L _).length
          rw [mulN_eq, Int.toNat_natCast, Nat.mul_one, u32L_len]; omega
        have hval : AV.int .u32 (IntKind.u32.wrap (IntKind.u32.wrap (IntKind.u32.wrap ((w.getD (w.length - 16) 0 : Nat) + (sig0 x : Nat)) + (w.getD (w.length - 7) 0 : Nat)) + (sig1 y : Nat))) = .int .u32 (wNext w : Nat) := by
          rw [u32add, u32add, u32add, wNext, ← hxd, ← hyd]
          congr 2
          simp only [M32]; omega
        refine S_heap [sB v h, bB u bs g, wB (a + 1) ((w ++ [wNext w]) ++ List.replicate (64 - (w ++ [wNext w]).length) 0), (b, none)] ?_ ?_
        · show [_, _, (a + 1, some (Box.cells (setRange (u32L (w ++ List.replicate (64 - w.length) 0)) (mulN (w.length : Int).toNat 1) [AV.int .u32 (IntKind.u32.wrap (IntKind.u32.wrap (IntKind.u32.wrap ((w.getD (w.length - 16) 0 : Nat) + (sig0 x : Nat)) + (w.getD (w.length - 7) 0 : Nat)) + (sig1 y : Nat)))]) _)), _] = _
          rw [hval, mulN_eq, Int.toNat_natCast, Nat.mul_one, u32L_set]
          have hrep : List.replicate (64 - w.length) 0 = 0 :: List.replicate (63 - w.length) 0 := by
            rw [show 64 - w.length = (63 - w.length) + 1 by omega, List.replicate_succ]
          rw [hrep, set_fill w 0 (wNext w) 0 (List.replicate (63 - w.length) 0)]
          rw [show 64 - (w ++ [wNext w]).length = 63 - w.length by simp, List.append_assoc]; rfl
        refine ab 1000 rfl trivial ?_
        refine S_round (w ++ [wNext w]) (by show 64 - (w ++ [wNext w]).length < 64 - w.length; simp; omega) ⟨by simp; omega, by simp; omega, hw3.app (.one (wNext_lt w)), ?_⟩ (.cons rfl (.cons rfl (.cons ?_ (.nil _)))) rfl
        · rw [← hw4, show 64 - w.length = (64 - (w ++ [wNext w]).length) + 1 by simp; omega, sched]
        · show AV.int .i64 (IntKind.i64.wrap ((w.length : Int) + 1)) = _
          exact ai64 (by simp) (by simp; omega)
      · have hwl : w.length = 64 := by omega
        have hws : w = schedOf p := by rw [← hw4, hwl]; rfl
        have hWl : (schedOf p).length = 64 := by rw [← hws, hwl]
        have hW32 : W32 (schedOf p) := by rw [← hws]; exact hw3
        obtain ⟨h0, h1, h2, h3, h4, h5, h6, h7, hhe⟩ : ∃ h0 h1 h2 h3 h4 h5 h6 h7, h = [h0, h1, h2, h3, h4, h5, h6, h7] := by
          match h, hh with
          | [h0, h1, h2, h3, h4, h5, h6, h7], _ => exact ⟨_, _, _, _, _, _, _, _, rfl⟩
        refine S_heap [sB v [h0, h1, h2, h3, h4, h5, h6, h7], bB u bs g, wB (a + 1) (schedOf p), (b, none)] (by
          show [sB v h, bB u bs g, wB (a + 1) (w ++ List.replicate (64 - w.length) 0), (b, none)] = _
          rw [hwl, hws, hhe]; simp) ?_
        refine ab 1000 rfl ⟨lble rfl, rfl, rfl, trivial⟩ ?_
        -- the rounds
        refine S_while (α := Nat × List Nat) (fun (t, _) => [(0, .ptr 0 v 0), (4, .ptr 2 (a + 1) 0), (13, .ptr 3 (b + 1) 0), (94, .int .i64 t)]) (fun (t, vv) => [sB v [h0, h1, h2, h3, h4, h5, h6, h7], bB u bs g, wB (a + 1) (schedOf p), wB (b + 1) vv])
          (fun (t, vv) => t ≤ 64 ∧ vv.length = 8 ∧ W32 vv ∧ rounds (64 - t) t (schedOf p) vv = rounds 64 0 (schedOf p) h) (fun (t, _) => 64 - t) (0, [h0, h1, h2, h3, h4, h5, h6, h7])
          ⟨Nat.zero_le _, rfl, by rw [← hhe]; exact hh2, by rw [← hhe]⟩ (.cons rfl (.cons rfl (.cons rfl (.cons rfl (.nil _))))) rfl ?_
        rintro ⟨t, vv⟩ ⟨ht, hvl, hv32, hN⟩
        obtain ⟨v0, v1, v2, v3, v4, v5, v6, v7, rfl⟩ : ∃ v0 v1 v2 v3 v4 v5 v6 v7, vv = [v0, v1, v2, v3, v4, v5, v6, v7] := by
          match vv, hvl with
          | [v0, v1, v2, v3, v4, v5, v6, v7], _ => exact ⟨_, _, _, _, _, _, _, _, rfl⟩
        have b0 : v0 < M32 := hv32 _ (by simp)
        have b1 : v1 < M32 := hv32 _ (by simp)
        have b2 : v2 < M32 := hv32 _ (by simp)
        have b3 : v3 < M32 := hv32 _ (by simp)
        have b4 : v4 < M32 := hv32 _ (by simp)
        have b5 : v5 < M32 := hv32 _ (by simp)
        have b6 : v6 < M32 := hv32 _ (by simp)
        have b7 : v7 < M32 := hv32 _ (by simp)
        refine ab 1000 rfl trivial ?_
        refine S_dec rfl (fun hlt => ?_) (fun hlt => ?_)
        · have htl : t < 64 := by omega
          refine ab 1000 rfl trivial ?_
          refine S_draw 5 [] [.top, .int .u32 (v0 : Nat), .top, .int .u32 (v4 : Nat)] rfl rfl rfl rfl ⟨by decide, by decide, rfl, rfl, by decide, by decide, rfl, rfl, rfl, trivial⟩ ?_
          refine ab 1000 rfl trivial ?_
          have hkg : (u32L kTab)[t]? = some (.int .u32 (kTab.getD t 0 : Nat)) := u32L_get (by show t < 64; exact htl)
          have hrot : ∀ (x n : Nat), x < M32 → 1 ≤ n → n ≤ 31 → ∀ σ, ∃ args', Calc cx 85 args' (.int .u32 (rotr x n)) ∧ Frzs σ [.int .u32 x, .int .i64 (-(n : Int))] args' :=
            fun x n hx h1 h2 σ => ⟨_, Rotate_ok x n hx h1 h2, .cons (.refl .int) (.cons (.refl .int) (.nil _))⟩
          refine S_draw 30 [] [.top, .int .u32 (v7 : Nat), .int .u32 (rotr v4 6 : Nat), .int .u32 (rotr v4 11 : Nat), .int .u32 (rotr v4 25 : Nat), .top, .int .u32 (v5 : Nat), .top, .int .u32 (v6 : Nat), .int .u32 (kTab.getD t 0 : Nat), .top, .int .u32 ((schedOf p).getD t 0 : Nat)] rfl rfl rfl rfl
            ⟨by decide, by decide, rfl, rfl, rfl, hrot v4 6 b4 (by decide) (by decide) _, rfl, hrot v4 11 b4 (by decide) (by decide) _, rfl, rfl, hrot v4 25 b4 (by decide) (by decide) _, rfl, rfl, rfl, by decide, by decide, rfl, rfl, rfl, rfl, rfl, by decide, by decide, rfl, rfl, rfl, rfl, rfl, rfl,
              by omega, by omega, ?_, rfl, rfl, rfl, by omega, by omega, rfl, ?_, rfl, trivial⟩ ?_
          · show ((u32L kTab).drop ((t : Int).toNat * 1)).take 1 = [.int .u32 (kTab.getD t 0 : Nat)]
            rw [Int.toNat_natCast, Nat.mul_one]
            have hlk : t < (u32L kTab).length := by show t < 64; exact htl
            rw [List.drop_eq_getElem_cons hlk, List.take_succ_cons, List.take_zero]
            rw [List.getElem?_eq_getElem hlk] at hkg
            simp only [Option.some.injEq] at hkg
            rw [hkg]
          · show ((u32L (schedOf p)).drop (mulN (t : Int).toNat 1))[0]? = _
            rw [mulN_eq, Int.toNat_natCast, Nat.mul_one, u32L_ld (by omega)]
          refine ab 1000 rfl trivial ?_
          refine S_draw 24 [] [.int .u32 (rotr v0 2 : Nat), .int .u32 (rotr v0 13 : Nat), .int .u32 (rotr v0 22 : Nat), .top, .int .u32 (v1 : Nat), .top, .int .u32 (v2 : Nat), .top, .int .u32 (v1 : Nat), .top, .int .u32 (v2 : Nat)] rfl rfl rfl rfl
            ⟨rfl, hrot v0 2 b0 (by decide) (by decide) _, rfl, hrot v0 13 b0 (by decide) (by decide) _, rfl, rfl, hrot v0 22 b0 (by decide) (by decide) _, rfl, rfl, by decide, by decide, rfl, rfl, rfl, rfl, by decide, by decide, rfl, rfl, rfl, rfl, by decide, by decide, rfl, rfl, by decide, by decide, rfl, rfl, rfl, rfl, rfl, trivial⟩ ?_
          refine ab 1000 rfl trivial ?_
          have hk32 : kTab.getD t 0 < M32 := kTab32.getD t
          have hw32 := hW32.getD t
          obtain ⟨U, hU⟩ : ∃ U, U = (v7 + Sig1 v4 + ((v4 &&& v5) ^^^ ((4294967295 - v4) &&& v6)) + (kTab.getD t 0 + (schedOf p).getD t 0)) % M32 := ⟨_, rfl⟩
          obtain ⟨X, hX⟩ : ∃ X, X = (Sig0 v0 + ((v0 &&& v1) ^^^ (v0 &&& v2) ^^^ (v1 &&& v2))) % M32 := ⟨_, rfl⟩
          have hround : round [v0, v1, v2, v3, v4, v5, v6, v7] (kTab.getD t 0 + (schedOf p).getD t 0) = [(U + X) % M32, v0, v1, v2, (v3 + U) % M32, v4, v5, v6] := by
            rw [hU, hX]; rfl
          refine S_weak (fr' := [(0, .ptr 0 v 0), (4, .ptr 2 (a + 1) 0), (13, .ptr 3 (b + 1) 0), (94, .int .i64 t), (17, .int .u32 (U : Nat)), (18, .int .u32 (X : Nat))]) (.cons rfl (.cons rfl (.cons rfl (.cons rfl (.cons ?_ (.cons ?_ (.nil _))))))) ?_
          · show AV.int .u32 (IntKind.u32.wrap (IntKind.u32.wrap (IntKind.u32.wrap (IntKind.u32.wrap ((v7 : Nat) + bitsA .xor .u32 (bitsA .xor .u32 (rotr v4 6 : Nat) (rotr v4 11 : Nat)) (rotr v4 25 : Nat)) + bitsA .xor .u32 (bitsA .and .u32 (v4 : Nat) (v5 : Nat)) (bitsA .and .u32 (bitsA .xor .u32 (if IntKind.u32.signed = true then -1 else IntKind.u32.max) (v4 : Nat)) (v6 : Nat))) + (kTab.getD t 0 : Nat)) + ((schedOf p).getD t 0 : Nat))) = _
            rw [u32xor (rotr_lt _ b4) (rotr_lt _ b4), u32xor (xor_lt (rotr_lt _ b4) (rotr_lt _ b4)) (rotr_lt _ b4), u32not' b4, u32and b4 b5, u32and (by show _ < 4294967296; omega) b6, u32xor (and_lt b4) (and_lt (by show _ < 4294967296; omega))]
            rw [u32add, u32add, u32add, u32add, hU]
            exact congrArg (fun z : Nat => AV.int .u32 (z : Int)) (addmods v7 (Sig1 v4) _ _ _)
          · show AV.int .u32 (IntKind.u32.wrap (bitsA .xor .u32 (bitsA .xor .u32 (rotr v0 2 : Nat) (rotr v0 13 : Nat)) (rotr v0 22 : Nat) + bitsA .xor .u32 (bitsA .xor .u32 (bitsA .and .u32 (v0 : Nat) (v1 : Nat)) (bitsA .and .u32 (v0 : Nat) (v2 : Nat))) (bitsA .and .u32 (v1 : Nat) (v2 : Nat)))) = _
            rw [u32xor (rotr_lt _ b0) (rotr_lt _ b0), u32xor (xor_lt (rotr_lt _ b0) (rotr_lt _ b0)) (rotr_lt _ b0), u32and b0 b1, u32and b0 b2, u32and b1 b2, u32xor (and_lt b0) (and_lt b0), u32xor (xor_lt (and_lt b0) (and_lt b0)) (and_lt b1), u32add, hX]
            exact congrArg (fun z : Nat => AV.int .u32 (((z + _) % M32 : Nat) : Int)) (show rotr v0 2 ^^^ rotr v0 13 ^^^ rotr v0 22 = Sig0 v0 from rfl)
          refine S_draw 2 [] [] rfl rfl rfl rfl ⟨rfl, by decide, by decide, rfl, lble rfl, by decide, rfl, by decide, by decide, rfl, lble rfl, by decide, trivial⟩ ?_
          refine ab 1000 rfl ⟨by decide, by decide, lble rfl, lble rfl, rfl, rfl, allOne_mem (cs := [_, _, _, _, _, _, _]) rfl, lble rfl, rfl, rfl, trivial⟩ ?_
          refine S_index .top rfl rfl rfl ⟨by decide, by decide, trivial⟩ ?_
          refine S_load (.int .u32 (v3 : Nat)) rfl rfl rfl ⟨rfl, rfl, trivial⟩ ?_
          refine ab 1000 rfl trivial ?_
          refine S_index .top rfl rfl rfl ⟨by decide, by decide, trivial⟩ ?_
          refine S_store rfl rfl rfl ⟨rfl, rfl, rfl, lble rfl, trivial⟩ ?_
          refine ab 1000 rfl trivial ?_
          refine S_index .top rfl rfl rfl ⟨by decide, by decide, trivial⟩ ?_
          refine S_store rfl rfl rfl ⟨rfl, rfl, rfl, lble rfl, trivial⟩ ?_
          refine S_heap [sB v [h0, h1, h2, h3, h4, h5, h6, h7], bB u bs g, wB (a + 1) (schedOf p), wB (b + 1) [(U + X) % M32, v0, v1, v2, (v3 + U) % M32, v4, v5, v6]] ?_ ?_
          · show [_, _, _, (b + 1, some (Box.cells [AV.int .u32 (IntKind.u32.wrap ((U : Nat) + (X : Nat))), .int .u32 v0, .int .u32 v1, .int .u32 v2, AV.int .u32 (IntKind.u32.wrap ((v3 : Nat) + (U : Nat))), .int .u32 v4, .int .u32 v5, .int .u32 v6] _))] = _
            rw [u32add, u32add]; rfl
          refine ab 1000 rfl trivial ?_
          refine S_round (t + 1, [(U + X) % M32, v0, v1, v2, (v3 + U) % M32, v4, v5, v6]) (by show 64 - (t + 1) < 64 - t; omega) ⟨htl, rfl, by rw [← hround]; exact round_lt _ hv32, ?_⟩ (.cons rfl (.cons rfl (.cons rfl (.cons (ai64 rfl (by omega)) (.nil _))))) rfl
          rw [← hN, show 64 - t = (64 - (t + 1)) + 1 by omega, rounds, hround]
        · have ht64 : t = 64 := by omega
          subst ht64
          have hVe : rounds 64 0 (schedOf p) h = [v0, v1, v2, v3, v4, v5, v6, v7] := hN.symm
          have hblk : block h p = addW h [v0, v1, v2, v3, v4, v5, v6, v7] := by rw [block, hVe]
          rw [hblk, hhe]
          refine ab 1000 rfl ⟨rfl, trivial⟩ ?_
          -- the sums
          refine S_while (α := Nat) (fun i => [(0, .ptr 0 v 0), (168, .agg (u32L [v0, v1, v2, v3, v4, v5, v6, v7])), (169, .int .i64 i)])
            (fun i => [sB v ((addW [h0, h1, h2, h3, h4, h5, h6, h7] [v0, v1, v2, v3, v4, v5, v6, v7]).take i ++ [h0, h1, h2, h3, h4, h5, h6, h7].drop i), bB u bs g, wB (a + 1) (schedOf p), wB (b + 1) [v0, v1, v2, v3, v4, v5, v6, v7]]) (fun i => i ≤ 8) (fun i => 8 - i) 0
            (Nat.zero_le _) (.cons rfl (.cons rfl (.cons rfl (.nil _)))) rfl ?_
          intro i hi
          generalize hHd : [h0, h1, h2, h3, h4, h5, h6, h7] = hl at *
          generalize hVd : [v0, v1, v2, v3, v4, v5, v6, v7] = vl at *
          have hhl : hl.length = 8 := by rw [← hHd]; rfl
          have hvl' : vl.length = 8 := by rw [← hVd]; rfl
          have hal := addW_len hl vl
          refine ab 1000 rfl trivial ?_
          refine S_dec rfl (fun hlt => ?_) (fun hlt => ?_)
          · have hil : i < 8 := by omega
            have htk : ((addW hl vl).take i).length = i := by rw [List.length_take, hal]; omega
            have hdr : hl.drop i = hl.getD i 0 :: hl.drop (i + 1) := by
              rw [List.drop_eq_getElem_cons (by omega)]
              simp [List.getD, show i < hl.length by omega]
            have hcl : ((addW hl vl).take i ++ hl.drop i).length = 8 := by rw [List.length_append, htk, List.length_drop]; omega
            have hcg : ((addW hl vl).take i ++ hl.drop i).getD i 0 = hl.getD i 0 := by
              rw [List.getD, List.getElem?_append_right (by omega), htk, Nat.sub_self, hdr]; rfl
            refine ab 1000 rfl trivial ?_
            refine S_elem (.int .u32 (vl.getD i 0 : Nat)) rfl rfl rfl ⟨by omega, by omega, rfl, by rw [Int.toNat_natCast]; exact u32L_get (by omega), trivial⟩ ?_
            refine ab 1000 rfl trivial ?_
            refine S_draw 11 [] [.top, .int .u32 (hl.getD i 0 : Nat), .top] rfl rfl rfl rfl ⟨rfl, rfl, rfl, rfl, by omega, by omega, rfl, ?_, rfl, rfl, rfl, rfl, by omega, by omega, trivial⟩ ?_
            · show ((u32L ((addW hl vl).take i ++ hl.drop i)).drop (mulN (i : Int).toNat 1))[0]? = _
              rw [mulN_eq, Int.toNat_natCast, Nat.mul_one, u32L_ld (by omega), hcg]
            refine S_store rfl rfl rfl ⟨rfl, rfl, rfl, ?_, trivial⟩ ?_
            · show mulN (i : Int).toNat 1 + 1 ≤ (u32L _).length
              rw [mulN_eq, Int.toNat_natCast, Nat.mul_one, u32L_len]; omega
            refine S_heap [sB v ((addW hl vl).take (i + 1) ++ hl.drop (i + 1)), bB u bs g, wB (a + 1) (schedOf p), wB (b + 1) vl] ?_ ?_
            · show [(v, some (Box.cells (setRange (u32L ((addW hl vl).take i ++ hl.drop i)) (mulN (i : Int).toNat 1) [AV.int .u32 (IntKind.u32.wrap ((hl.getD i 0 : Nat) + (vl.getD i 0 : Nat)))]) _)), _, _, _] = _
              rw [u32add, mulN_eq, Int.toNat_natCast, Nat.mul_one, u32L_set, hdr]
              have hsf := set_fill ((addW hl vl).take i) 0 ((hl.getD i 0 + vl.getD i 0) % M32) (hl.getD i 0) (hl.drop (i + 1))
              rw [htk] at hsf
              rw [hsf]
              have hta : (addW hl vl).take (i + 1) = (addW hl vl).take i ++ [(hl.getD i 0 + vl.getD i 0) % M32] := by
                rw [List.take_succ_eq_append_getElem (by omega)]
                simp [addW]
              rw [hta, List.append_assoc]; rfl
            refine ab 1000 rfl trivial ?_
            exact S_round (i + 1) (by show 8 - (i + 1) < 8 - i; omega) hil (.cons rfl (.cons rfl (.cons (ai64 rfl (by omega)) (.nil _)))) rfl
          · have hi8 : i = 8 := by omega
            subst hi8
            refine S_drop (id := 2) rfl ?_ ⟨_, _, .inl rfl⟩
            refine S_drop (id := 3) rfl ?_ ⟨_, _, .inl rfl⟩
            refine ab 1000 rfl trivial ?_
            refine S_nil ⟨_, _, rfl, trivial, rfl, ?_⟩
            show [sB v ((addW hl vl).take 8 ++ hl.drop 8), _, _, _] = _
            rw [List.take_of_length_le (by omega), List.drop_of_length_le (by omega), List.append_nil]

end Go.Proofs.YtjpmngjoohoddabDoor
