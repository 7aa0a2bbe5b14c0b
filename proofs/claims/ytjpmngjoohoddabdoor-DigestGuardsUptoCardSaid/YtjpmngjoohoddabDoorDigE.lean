/-
  The sum of a text: what the program does.
-/
import Derived.Test.YtjpmngjoohoddabDoorDigD
import Derived.Test.YtjpmngjoohoddabDoorDigI0
set_option linter.unusedVariables false
set_option linter.unusedSimpArgs false
set_option maxRecDepth 20000
namespace Go.Proofs.YtjpmngjoohoddabDoor
open Go Go.Ab

theorem padded_len (s : List UInt8) : (padded s).length = s.length + 1 + padLen s.length + 8 := by
  simp [padded, be8]; omega
theorem padded_mod (s : List UInt8) : (padded s).length % 64 = 0 := by
  rw [padded_len]; unfold padLen; omega

theorem blocks_len : ∀ (k : Nat) (h : List Nat) (p : List UInt8), h.length = 8 → (blocks k h p).length = 8
  | 0, h, p, hh => hh
  | k + 1, h, p, hh => blocks_len k _ _ (block_len _ _)
theorem blocks_lt : ∀ (k : Nat) (h : List Nat) (p : List UInt8), W32 h → W32 (blocks k h p)
  | 0, h, p, hh => hh
  | k + 1, h, p, hh => blocks_lt k _ _ (block_lt _ _)

theorem beW_take (p : List UInt8) (i : Nat) (h : i + 3 < 64) : beW (p.take 64) i = beW p i := by
  have : ∀ j, j < 64 → (p.take 64).getD j 0 = p.getD j 0 := by
    intro j hj
    simp [List.getD, List.getElem?_take, hj]
  unfold beW
  rw [this i (by omega), this (i + 1) (by omega), this (i + 2) (by omega), this (i + 3) (by omega)]

theorem words_take (p : List UInt8) : words (p.take 64) = words p := by
  unfold words
  apply List.map_congr_left
  intro t ht
  rw [List.mem_range] at ht
  exact beW_take p (4 * t) (by omega)

theorem block_take (h : List Nat) (p : List UInt8) : block h (p.take 64) = block h p := by
  unfold block schedOf; rw [words_take]

/-- The letters of a word, the greatest first. -/
def beB (n : Nat) : List UInt8 := (List.range 4).map fun j => UInt8.ofNat (n / 2 ^ (24 - 8 * j) % 256)
def rawOf (s : List UInt8) : List UInt8 := (hashOf s).flatMap beB

theorem hashOf_len (s : List UInt8) : (hashOf s).length = 8 := blocks_len _ _ _ rfl
theorem hashOf_lt (s : List UInt8) : W32 (hashOf s) := blocks_lt _ _ _ (by show ∀ x ∈ hTab, x < M32; decide +kernel)

theorem fB_len (l : List Nat) : (l.flatMap beB).length = 4 * l.length := by
  induction l with
  | nil => rfl
  | cons a r ih => rw [List.flatMap_cons, List.length_append, ih, List.length_cons]; simp [beB]; omega

theorem rawOf_len (s : List UInt8) : (rawOf s).length = 32 := by rw [rawOf, fB_len, hashOf_len]

theorem split32 (l : List UInt8) (h : l.length = 32) : ∃ r0 r1 r2 r3 r4 r5 r6 r7 r8 r9 r10 r11 r12 r13 r14 r15 r16 r17 r18 r19 r20 r21 r22 r23 r24 r25 r26 r27 r28 r29 r30 r31, l = [r0, r1, r2, r3, r4, r5, r6, r7, r8, r9, r10, r11, r12, r13, r14, r15, r16, r17, r18, r19, r20, r21, r22, r23, r24, r25, r26, r27, r28, r29, r30, r31] := by
  match l, h with
  | [r0, r1, r2, r3, r4, r5, r6, r7, r8, r9, r10, r11, r12, r13, r14, r15, r16, r17, r18, r19, r20, r21, r22, r23, r24, r25, r26, r27, r28, r29, r30, r31], _ => exact ⟨_, _, _, _, _, _, _, _, _, _, _, _, _, _, _, _, _, _, _, _, _, _, _, _, _, _, _, _, _, _, _, _, rfl⟩

/-- Where the letters go. -/
def rB : Nat × Option Box := (0, some (.cells (List.replicate 32 (.int .u8 0)) ⟨false, none⟩))

theorem raw_ok (s : List UInt8) (hs : s.length ≤ 70368744177664) : Calc cx 63 [.str s] (.agg ((rawOf s).map byteAV)) :=
  pure_intro (fun a w => Tryd.call63 a w) Tryd.func63 rfl Tryd.ntmps63 rfl (.agg (by intro x hx; obtain ⟨y, _, rfl⟩ := List.mem_map.1 hx; exact .int)) fun B => by
    refine go (M := [11]) 1000 rfl ⟨?_, ?_, ?_, rfl, rfl, allOne_mem (cs := [.int .u8 128]) rfl, allOne_mem (cs := [.int .u8 128]) rfl, rfl, trivial⟩ ?_
    · show s.length + 1 ≤ 9223372036854775807; omega
    · show (s.length + 1) * 1 ≤ 140737488355328; omega
    · show 0 + s.length * 1 = (s.map byteAV).length; simp
    obtain ⟨rb, hrb⟩ : ∃ rb : Nat × Option Box, rb = (0, some (.cells (List.replicate 32 (.int .u8 0)) ⟨false, none⟩)) := ⟨_, rfl⟩
    have hbl : ∀ k, ((s ++ [128] ++ List.replicate k (0 : UInt8))).length = s.length + 1 + k := fun k => by simp; omega
    have hpl : padLen s.length < 64 := Nat.mod_lt _ (by decide)
    refine S_while (α := Nat × Nat) (fun (u, k) => [(0, .str s), (2, .ptr 0 0 0), (3, .ms 1 u 0 (s.length + 1 + k) 1 false)]) (fun (u, k) => [rb, bB u (s ++ [128] ++ List.replicate k 0) ⟨false, some 5⟩])
      (fun (u, k) => k ≤ padLen s.length) (fun (u, k) => padLen s.length - k) (1, 0)
      (Nat.zero_le _) (.cons rfl (.cons rfl (.cons rfl (.nil _)))) (by rw [hrb]; simp only [bB, List.replicate_zero, List.append_nil, List.map_append, List.map_cons, List.map_nil]; rfl) ?_
    rintro ⟨u, k⟩ hk
    refine ab 1000 rfl ⟨by decide, trivial⟩ ?_
    have hmod : (((s.length + 1 + k : Nat) : Int)).tmod 64 = (((s.length + 1 + k) % 64 : Nat) : Int) := rfl
    refine S_bne rfl (fun h56 => ?_) (fun h56 => ?_)
    · have h56 : (s.length + 1 + k) % 64 ≠ 56 := by
        have : ((((s.length + 1 + k : Nat) : Int)).tmod 64) ≠ 56 := h56
        rw [hmod] at this; omega
      have hkl : k < padLen s.length := by unfold padLen at *; omega
      refine ab 1000 rfl ⟨?_, ?_, ?_, rfl, rfl, allOne_mem (cs := [.int .u8 0]) rfl, allOne_mem (cs := [.int .u8 0]) rfl, rfl, trivial⟩ ?_
      · show s.length + 1 + k + 1 ≤ 9223372036854775807; omega
      · show (s.length + 1 + k + 1) * 1 ≤ 140737488355328; omega
      · show 0 + (s.length + 1 + k) * 1 = ((s ++ [128] ++ List.replicate k (0 : UInt8)).map byteAV).length
        rw [List.length_map, hbl]; omega
      refine S_round (u + 1, k + 1) (by show padLen s.length - (k + 1) < padLen s.length - k; omega) hkl (.cons rfl (.cons rfl (.cons rfl (.nil _)))) ?_
      show [rb, (u + 1, some (Box.cells ((s ++ [128] ++ List.replicate k (0 : UInt8)).map byteAV ++ [.int .u8 0]) _))] = [rb, bB (u + 1) (s ++ [128] ++ List.replicate (k + 1) 0) _]
      rw [List.replicate_succ', ← List.append_assoc]
      simp only [bB, List.map_append, List.map_cons, List.map_nil]
      rfl
    · have h56 : (s.length + 1 + k) % 64 = 56 := by
        have : ((((s.length + 1 + k : Nat) : Int)).tmod 64) = 56 := h56
        rw [hmod] at this; omega
      have hkl : k = padLen s.length := by unfold padLen at *; omega
      subst hkl
      obtain ⟨base, hbase⟩ : ∃ base, base = s ++ [128] ++ List.replicate (padLen s.length) (0 : UInt8) := ⟨_, rfl⟩
      have hbl' : base.length = s.length + 1 + padLen s.length := by rw [hbase]; exact hbl _
      have hpd : padded s = base ++ be8 (8 * s.length) := by rw [hbase]; rfl
      refine ab 1000 rfl trivial ?_
      refine S_while (α := Nat × Nat) (fun (u, j) => [(0, .str s), (2, .ptr 0 0 0), (3, .ms 1 u 0 (base.length + j) 1 false), (4, .int .i64 (7 - (j : Int)))]) (fun (u, j) => [rb, bB u (base ++ (be8 (8 * s.length)).take j) ⟨false, some 5⟩])
        (fun (u, j) => j ≤ 8) (fun (u, j) => 8 - j) (u, 0)
        (Nat.zero_le _) (.cons rfl (.cons rfl (.cons (by rw [hbl']; rfl) (.cons rfl (.nil _))))) (by rw [hbase]; simp) ?_
      rintro ⟨u, j⟩ hj
      refine ab 1000 rfl trivial ?_
      refine S_dec rfl (fun hlt => ?_) (fun hlt => ?_)
      · have hj8 : j < 8 := by omega
        have hw1 : IntKind.u64.wrap ((s.length : Nat) : Int) = ((s.length : Nat) : Int) := wu64 rfl (by omega)
        have hw2 : IntKind.u64.wrap (((s.length : Nat) : Int) * 8) = ((8 * s.length : Nat) : Int) := wu64 (by omega) (by omega)
        have hw3 : IntKind.i64.wrap (8 * (7 - (j : Int))) = ((8 * (7 - j) : Nat) : Int) := w64 (by omega) (by omega)
        refine ab 1000 rfl ⟨?_, ?_, ?_, rfl, rfl, ?_, ?_, rfl, by rw [hw3]; omega, trivial⟩ ?_
        · show base.length + j + 1 ≤ 9223372036854775807; omega
        · show (base.length + j + 1) * 1 ≤ 140737488355328; omega
        · show 0 + (base.length + j) * 1 = ((base ++ (be8 (8 * s.length)).take j).map byteAV).length
          simp [be8]; omega
        · exact allOne_mem (cs := [.int .u8 _]) rfl
        · exact allOne_mem (cs := [.int .u8 _]) rfl
        have hval : AV.int .u8 (IntKind.u8.wrap ((IntKind.u64.wrap (IntKind.u64.wrap ((s.length : Nat) : Int) * 8)).fdiv (2 ^ (min (IntKind.i64.wrap (8 * (7 - (j : Int)))).toNat 64)))) = byteAV (UInt8.ofNat (8 * s.length / 256 ^ (7 - j) % 256)) := by
          rw [hw1, hw2, hw3, Int.toNat_natCast, Nat.min_eq_left (by omega), shr_nat, wrap_low rfl]
          have : (2 : Nat) ^ (8 * (7 - j)) = 256 ^ (7 - j) := by rw [show (256 : Nat) = 2 ^ 8 from rfl, ← Nat.pow_mul]
          rw [this]
          exact byteAV_of rfl (Nat.mod_lt _ (by decide))
        refine S_round (u + 1, j + 1) (by show 8 - (j + 1) < 8 - j; omega) hj8 (.cons rfl (.cons rfl (.cons rfl (.cons ?_ (.nil _))))) ?_
        · show AV.int .i64 (IntKind.i64.wrap (7 - (j : Int) - 1)) = .int .i64 (7 - ((j + 1 : Nat) : Int))
          exact ai64i (by omega) (by omega)
        · show [rb, (u + 1, some (Box.cells ((base ++ (be8 (8 * s.length)).take j).map byteAV ++ [AV.int .u8 (IntKind.u8.wrap ((IntKind.u64.wrap (IntKind.u64.wrap ((s.length : Nat) : Int) * 8)).fdiv (2 ^ (min (IntKind.i64.wrap (8 * (7 - (j : Int)))).toNat 64))))]) _))] = [rb, bB (u + 1) (base ++ (be8 (8 * s.length)).take (j + 1)) _]
          rw [hval]
          have ht : (be8 (8 * s.length)).take (j + 1) = (be8 (8 * s.length)).take j ++ [UInt8.ofNat (8 * s.length / 256 ^ (7 - j) % 256)] := by
            rw [List.take_succ_eq_append_getElem (by simp [be8]; omega)]
            simp [be8]
          rw [ht]
          simp only [bB, List.map_append, List.map_cons, List.map_nil, List.append_assoc]
          rfl
      · have hj8 : j = 8 := by omega
        subst hj8
        have htake : base ++ (be8 (8 * s.length)).take 8 = padded s := by rw [hpd, List.take_of_length_le (by simp [be8])]
        have hPl : (padded s).length = base.length + 8 := by rw [hpd, List.length_append]; simp [be8]
        have hPm := padded_mod s
        have hPb : (padded s).length ≤ 4611686018427387904 := by rw [padded_len]; omega
        refine S_heap [rB, bB u (padded s) ⟨false, some 5⟩] (by rw [← htake, hrb]; rfl) ?_
        refine ab 1000 rfl trivial ?_
        refine S_dead ?_ ⟨_, _, .inl rfl⟩
        refine S_dead ?_ ⟨_, _, .inl rfl⟩
        -- block by block
        refine S_while (α := Nat × List Nat × Nat × Nat × Bool) (fun (m, h, a, b, fl) => [(0, .str s), (2, .ptr 0 0 0), (3, .ms 1 u (64 * m) ((padded s).length - 64 * m) 1 fl), (5, .ptr 2 0 0)]) (fun (m, h, a, b, fl) => [rB, bB u (padded s) ⟨false, some 5⟩, sB 0 h, (a, none), (b, none)])
          (fun (m, h, a, b, fl) => 64 * m ≤ (padded s).length ∧ h.length = 8 ∧ W32 h ∧ blocks ((padded s).length / 64 - m) h ((padded s).drop (64 * m)) = hashOf s) (fun (m, h, a, b, fl) => (padded s).length - 64 * m) (0, hTab, 0, 0, false)
          ⟨Nat.zero_le _, rfl, by show ∀ x ∈ hTab, x < M32; decide +kernel, rfl⟩ (.cons rfl (.cons rfl (.cons (by rw [hPl]; rfl) (.cons rfl (.nil _))))) rfl ?_
        rintro ⟨m, h, a, b, fl⟩ ⟨hm, hhl, hh32, hN⟩
        refine ab 1000 rfl trivial ?_
        refine S_dec rfl (fun hlt => ?_) (fun hlt => ?_)
        · have hm64 : 64 * m + 64 ≤ (padded s).length := by omega
          refine ab 1000 rfl trivial ?_
          refine S_callf [2, 1, 3, 4] (block_ok 0 u a b (64 * m) ((padded s).length - 64 * m) fl h (padded s) ⟨false, some 5⟩ hhl hh32 (by omega) (by omega) hPb) rfl (.cons (.ptr rfl) (.cons (.ms rfl) (.nil _)))
            (Part.mk' (es := [sB 0 h, bB u (padded s) ⟨false, some 5⟩, (a, none), (b, none)]) rfl rfl (.cons (.live (.cells (Rns.free ?_))) (.cons (.live (.cells (Rns.free ?_))) (.cons .dead (.cons .dead (.nil _)))))) rfl rfl ?_ (by rintro y σ1 ⟨h1, _⟩; cases h1)
          · intro x hx; obtain ⟨y, _, rfl⟩ := List.mem_map.1 hx; exact .int
          · intro x hx; obtain ⟨y, _, rfl⟩ := List.mem_map.1 hx; exact .int
          rintro y σ1 ⟨h1, rfl⟩
          cases h1
          refine ⟨.tup [], [sB 0 (block h ((padded s).drop (64 * m))), bB u (padded s) ⟨false, some 5⟩, (a + 1, none), (b + 1, none)], .cons (.live (.cells (Rns.free ?_))) (.cons (.live (.cells (Rns.free ?_))) (.cons .dead (.cons .dead (.nil _)))), .free (.tup (by simp)), ?_⟩
          · intro x hx; obtain ⟨y, _, rfl⟩ := List.mem_map.1 hx; exact .int
          · intro x hx; obtain ⟨y, _, rfl⟩ := List.mem_map.1 hx; exact .int
          refine ab 1000 rfl ⟨rfl, by omega, by decide, trivial⟩ ?_
          refine S_round (m + 1, block h ((padded s).drop (64 * m)), a + 1, b + 1, fl) (by show (padded s).length - 64 * (m + 1) < (padded s).length - 64 * m; omega) ⟨by omega, block_len _ _, block_lt _ _, ?_⟩ (.cons rfl (.cons rfl (.cons ?_ (.cons rfl (.nil _))))) rfl
          · rw [← hN, show (padded s).length / 64 - m = ((padded s).length / 64 - (m + 1)) + 1 by omega, blocks, block_take, List.drop_drop]
            congr 2
          · show AV.ms 1 u (64 * m + (64 : Int).toNat * 1) ((((padded s).length - 64 * m : Nat) : Int).toNat - (64 : Int).toNat) 1 fl = _
            congr 1
        · have hm64 : 64 * m = (padded s).length := by omega
          have hH : h = hashOf s := by
            rw [← hN, show (padded s).length / 64 - m = 0 by omega]; rfl
          subst hH
          obtain ⟨h0, h1, h2, h3, h4, h5, h6, h7, hhe⟩ : ∃ h0 h1 h2 h3 h4 h5 h6 h7, hashOf s = [h0, h1, h2, h3, h4, h5, h6, h7] := by
            have h8 := hashOf_len s
            match hashOf s, h8 with
            | [h0, h1, h2, h3, h4, h5, h6, h7], _ => exact ⟨_, _, _, _, _, _, _, _, rfl⟩
          have hHlt := hashOf_lt s
          have hro : rawOf s = (hashOf s).flatMap beB := rfl
          rw [hhe] at hHlt hro
          refine S_heap [rB, bB u (padded s) ⟨false, some 5⟩, sB 0 [h0, h1, h2, h3, h4, h5, h6, h7], (a, none), (b, none)] (by rw [← hhe]) ?_
          refine ab 1000 rfl ⟨rfl, trivial⟩ ?_
          obtain ⟨HL, hHL⟩ : ∃ HL, HL = [h0, h1, h2, h3, h4, h5, h6, h7] := ⟨_, rfl⟩
          rw [← hHL] at hHlt hro
          have hHl : HL.length = 8 := by rw [hHL]; rfl
          have hbB : ∀ n, (beB n).length = 4 := fun n => by simp [beB]
          -- the letters
          refine S_while (α := Nat) (fun i => [(2, .ptr 0 0 0), (6, .ptr 3 (a + 1) 0), (50, .agg (u32L HL)), (51, .int .i64 i)]) (fun i => [rB, bB u (padded s) ⟨false, some 5⟩, sB 0 HL, (a + 1, some (.cells (((HL.take i).flatMap beB ++ List.replicate (32 - 4 * i) 0).map byteAV) ⟨false, none⟩)), (b, none)])
            (fun i => i ≤ 8) (fun i => 8 - i) 0 (Nat.zero_le _) (.cons rfl (.cons rfl (.cons (by rw [hHL]; rfl) (.cons rfl (.nil _))))) (by rw [hHL]; rfl) ?_
          intro i hi
          have htk : ((HL.take i).flatMap beB).length = 4 * i := by rw [fB_len, List.length_take]; omega
          refine ab 1000 rfl trivial ?_
          refine S_dec rfl (fun hlt => ?_) (fun hlt => ?_)
          · have hil : i < 8 := by omega
            refine ab 1000 rfl trivial ?_
            refine S_elem (.int .u32 (HL.getD i 0 : Nat)) rfl rfl rfl ⟨by omega, by omega, rfl, by rw [Int.toNat_natCast]; exact u32L_get (by omega), trivial⟩ ?_
            refine ab 1000 rfl trivial ?_
            have hn := hHlt.getD i
            obtain ⟨nn, hnn⟩ : ∃ nn, nn = HL.getD i 0 := ⟨_, rfl⟩
            rw [← hnn] at hn
            refine S_while (α := Nat) (fun j => [(2, .ptr 0 0 0), (6, .ptr 3 (a + 1) 0), (7, .int .i64 i), (8, .int .u32 (nn : Nat)), (50, .agg (u32L HL)), (51, .int .i64 i), (55, .int .i64 j)]) (fun j => [rB, bB u (padded s) ⟨false, some 5⟩, sB 0 HL, (a + 1, some (.cells ((((HL.take i).flatMap beB ++ (beB nn).take j) ++ List.replicate (32 - 4 * i - j) 0).map byteAV) ⟨false, none⟩)), (b, none)])
              (fun j => j ≤ 4) (fun j => 4 - j) 0 (Nat.zero_le _) (.cons rfl (.cons rfl (.cons rfl (.cons (by rw [hnn]; rfl) (.cons rfl (.cons rfl (.cons rfl (.nil _)))))))) (by simp) ?_
            intro j hj
            refine ab 1000 rfl trivial ?_
            refine S_dec rfl (fun hlt => ?_) (fun hlt => ?_)
            · have hj4 : j < 4 := by omega
              have hpre : ((HL.take i).flatMap beB ++ (beB nn).take j).length = 4 * i + j := by rw [List.length_append, htk, List.length_take, hbB]; omega
              have hw1 : IntKind.i64.wrap (8 * (j : Int)) = ((8 * j : Nat) : Int) := w64 rfl (by omega)
              have hw2 : IntKind.i64.wrap (24 - ((8 * j : Nat) : Int)) = ((24 - 8 * j : Nat) : Int) := w64 (by omega) (by omega)
              have hw3 : IntKind.i64.wrap (4 * (i : Int)) = ((4 * i : Nat) : Int) := w64 rfl (by omega)
              have hw4 : IntKind.i64.wrap (((4 * i : Nat) : Int) + (j : Int)) = ((4 * i + j : Nat) : Int) := w64 rfl (by omega)
              refine ab 1000 rfl ⟨by rw [hw1, hw2]; omega, trivial⟩ ?_
              refine S_index .top rfl rfl rfl ⟨by rw [hw3, hw4]; omega, by rw [hw3, hw4]; omega, trivial⟩ ?_
              refine S_store rfl rfl rfl ⟨rfl, rfl, rfl, ?_, trivial⟩ ?_
              · show mulN (IntKind.i64.wrap (IntKind.i64.wrap (4 * (i : Int)) + (j : Int))).toNat 1 + 1 ≤ (((((HL.take i).flatMap beB ++ (beB nn).take j) ++ List.replicate (32 - 4 * i - j) 0).map byteAV)).length
                rw [mulN_eq, hw3, hw4, Int.toNat_natCast, Nat.mul_one, List.length_map, List.length_append, hpre, List.length_replicate]; omega
              have hval : AV.int .u8 (IntKind.u8.wrap ((nn : Int).fdiv (2 ^ (min (IntKind.i64.wrap (24 - IntKind.i64.wrap (8 * (j : Int)))).toNat 32)))) = byteAV (UInt8.ofNat (nn / 2 ^ (24 - 8 * j) % 256)) := by
                rw [hw1, hw2, Int.toNat_natCast, Nat.min_eq_left (by omega), shr_nat, wrap_low rfl]
                exact byteAV_of rfl (Nat.mod_lt _ (by decide))
              have ht : (beB nn).take (j + 1) = (beB nn).take j ++ [UInt8.ofNat (nn / 2 ^ (24 - 8 * j) % 256)] := by
                rw [List.take_succ_eq_append_getElem (by rw [hbB]; exact hj4)]
                simp [beB]
              refine S_heap [rB, bB u (padded s) ⟨false, some 5⟩, sB 0 HL, (a + 1, some (.cells ((((HL.take i).flatMap beB ++ (beB nn).take (j + 1)) ++ List.replicate (32 - 4 * i - (j + 1)) 0).map byteAV) ⟨false, none⟩)), (b, none)] ?_ ?_
              · show [_, _, _, (a + 1, some (Box.cells (setRange (((((HL.take i).flatMap beB ++ (beB nn).take j) ++ List.replicate (32 - 4 * i - j) 0).map byteAV)) (mulN (IntKind.i64.wrap (IntKind.i64.wrap (4 * (i : Int)) + (j : Int))).toNat 1) [AV.int .u8 (IntKind.u8.wrap ((nn : Int).fdiv (2 ^ (min (IntKind.i64.wrap (24 - IntKind.i64.wrap (8 * (j : Int)))).toNat 32))))]) _)), _] = _
                rw [hval, mulN_eq, hw3, hw4, Int.toNat_natCast, Nat.mul_one]
                have hrep : List.replicate (32 - 4 * i - j) (0 : UInt8) = 0 :: List.replicate (32 - 4 * i - (j + 1)) 0 := by
                  rw [show 32 - 4 * i - j = (32 - 4 * i - (j + 1)) + 1 by omega, List.replicate_succ]
                rw [hrep]
                have hsf := set_fill (((HL.take i).flatMap beB ++ (beB nn).take j).map byteAV) 0 (byteAV (UInt8.ofNat (nn / 2 ^ (24 - 8 * j) % 256))) (byteAV 0) ((List.replicate (32 - 4 * i - (j + 1)) (0 : UInt8)).map byteAV)
                rw [List.length_map, hpre] at hsf
                have hL : ((((HL.take i).flatMap beB ++ (beB nn).take j) ++ 0 :: List.replicate (32 - 4 * i - (j + 1)) (0 : UInt8)).map byteAV) = ((HL.take i).flatMap beB ++ (beB nn).take j).map byteAV ++ byteAV 0 :: (List.replicate (32 - 4 * i - (j + 1)) (0 : UInt8)).map byteAV := by
                  rw [List.map_append, List.map_cons]
                rw [hL]
                show [_, _, _, (a + 1, some (Box.cells (List.set _ (4 * i + j) _) _)), _] = _
                rw [hsf, ht]
                simp only [List.map_append, List.map_cons, List.map_nil, List.append_assoc, List.singleton_append, List.cons_append, List.nil_append]
              refine ab 1000 rfl trivial ?_
              exact S_round (j + 1) (by show 4 - (j + 1) < 4 - j; omega) hj4 (.cons rfl (.cons rfl (.cons rfl (.cons rfl (.cons rfl (.cons rfl (.cons (ai64 rfl (by omega)) (.nil _)))))))) rfl
            · have hj4 : j = 4 := by omega
              subst hj4
              refine ab 1000 rfl trivial ?_
              refine S_round (i + 1) (by show 8 - (i + 1) < 8 - i; omega) hil (.cons rfl (.cons rfl (.cons rfl (.cons (ai64 rfl (by omega)) (.nil _))))) ?_
              show [_, _, _, (a + 1, some (Box.cells ((((HL.take i).flatMap beB ++ (beB nn).take 4) ++ List.replicate (32 - 4 * i - 4) 0).map byteAV) _)), _] = [_, _, _, (a + 1, some (Box.cells (((HL.take (i + 1)).flatMap beB ++ List.replicate (32 - 4 * (i + 1)) 0).map byteAV) _)), _]
              have hti : HL.take (i + 1) = HL.take i ++ [nn] := by
                rw [List.take_succ_eq_append_getElem (by omega), hnn]
                simp [List.getD, show i < HL.length by omega]
              rw [hti, List.flatMap_append, show (beB nn).take 4 = beB nn from List.take_of_length_le (by rw [hbB]; exact Nat.le_refl _), show 32 - 4 * (i + 1) = 32 - 4 * i - 4 by omega]
              simp
          · have hi8 : i = 8 := by omega
            subst hi8
            have hL : (HL.take 8).flatMap beB ++ List.replicate (32 - 4 * 8) 0 = rawOf s := by
              rw [List.take_of_length_le (by omega), hro]; simp
            obtain ⟨r0, r1, r2, r3, r4, r5, r6, r7, r8, r9, r10, r11, r12, r13, r14, r15, r16, r17, r18, r19, r20, r21, r22, r23, r24, r25, r26, r27, r28, r29, r30, r31, hr32⟩ := split32 (rawOf s) (rawOf_len s)
            refine S_heap [(0, some (.cells (List.replicate 32 (.int .u8 0)) ⟨false, none⟩)), bB u (padded s) ⟨false, some 5⟩, sB 0 HL, (a + 1, some (.cells ([r0, r1, r2, r3, r4, r5, r6, r7, r8, r9, r10, r11, r12, r13, r14, r15, r16, r17, r18, r19, r20, r21, r22, r23, r24, r25, r26, r27, r28, r29, r30, r31].map byteAV) ⟨false, none⟩)), (b, none)] (by rw [← hr32, ← hL]; rfl) ?_
            refine ab 1000 rfl ⟨lble rfl, rfl, rfl, trivial⟩ ?_
            refine S_retc (.agg (by intro x hx; obtain ⟨y, _, rfl⟩ := List.mem_map.1 hx; exact .int)) rfl ⟨rfl, trivial⟩ ?_
            rw [hr32]; rfl

def hex2 (b : UInt8) : List UInt8 := [hexC (b.toNat / 16), hexC (b.toNat % 16)]

theorem hexW_of (n : Nat) : (beB n).flatMap hex2 = hexW n := by
  have e : ∀ x, (UInt8.ofNat (x % 256)).toNat = x % 256 := fun x => by rw [UInt8.toNat_ofNat', Nat.mod_eq_of_lt (by omega)]
  show [hexC ((UInt8.ofNat (n / 16777216 % 256)).toNat / 16), hexC ((UInt8.ofNat (n / 16777216 % 256)).toNat % 16), hexC ((UInt8.ofNat (n / 65536 % 256)).toNat / 16), hexC ((UInt8.ofNat (n / 65536 % 256)).toNat % 16),
    hexC ((UInt8.ofNat (n / 256 % 256)).toNat / 16), hexC ((UInt8.ofNat (n / 256 % 256)).toNat % 16), hexC ((UInt8.ofNat (n / 1 % 256)).toNat / 16), hexC ((UInt8.ofNat (n / 1 % 256)).toNat % 16)] =
    [hexC (n / 268435456 % 16), hexC (n / 16777216 % 16), hexC (n / 1048576 % 16), hexC (n / 65536 % 16), hexC (n / 4096 % 16), hexC (n / 256 % 16), hexC (n / 16 % 16), hexC (n / 1 % 16)]
  simp only [e]
  rw [show n / 16777216 % 256 / 16 = n / 268435456 % 16 by omega, show n / 16777216 % 256 % 16 = n / 16777216 % 16 by omega, show n / 65536 % 256 / 16 = n / 1048576 % 16 by omega, show n / 65536 % 256 % 16 = n / 65536 % 16 by omega,
    show n / 256 % 256 / 16 = n / 4096 % 16 by omega, show n / 256 % 256 % 16 = n / 256 % 16 by omega, show n / 1 % 256 / 16 = n / 16 % 16 by omega, show n / 1 % 256 % 16 = n / 1 % 16 by omega]

theorem sha_raw (s : List UInt8) : (rawOf s).flatMap hex2 = sha s := by
  unfold rawOf sha
  rw [List.flatMap_assoc]
  congr 1
  funext n
  exact hexW_of n

theorem hex2_len (l : List UInt8) : (l.flatMap hex2).length = 2 * l.length := by
  induction l with
  | nil => rfl
  | cons a r ih => rw [List.flatMap_cons, List.length_append, ih]; simp [hex2]; omega

theorem sha_len (s : List UInt8) : (sha s).length = 64 := by
  rw [← sha_raw, hex2_len, rawOf_len]

theorem Sum_ok (s : List UInt8) (hs : s.length ≤ 70368744177664) : Calc cx 38 [.str s] (.str (sha s)) :=
  pure_intro (fun a w => Tryd.call38 a w) Tryd.func38 rfl Tryd.ntmps38 rfl .str fun B => by
    refine ab 1000 rfl trivial ?_
    refine S_ghostF (t := 3) 1 ⟨false, none⟩ rfl rfl ⟨.skip, _, .inr ⟨_, _, _, rfl⟩⟩ ?_
    refine S_pure rfl rfl rfl (raw_ok s hs) (.cons (.refl .str) (.nil _)) ?_
    have hrl := rawOf_len s
    have hsr := sha_raw s
    generalize rawOf s = R at *
    refine ab 1000 rfl trivial ?_
    refine S_while (α := Nat × Nat) (fun (i, u) => [(3, .ms 0 u 0 (2 * i) 1 false), (7, .agg (R.map byteAV)), (8, .int .i64 i)]) (fun (i, u) => [(u, some (.cells (((R.take i).flatMap hex2).map byteAV) ⟨false, none⟩))]) (fun (i, u) => i ≤ 32) (fun (i, u) => 32 - i) (0, 0)
      (Nat.zero_le _) (.cons rfl (.cons rfl (.cons rfl (.nil _)))) rfl ?_
    rintro ⟨i, u⟩ hi
    have hfl : ((R.take i).flatMap hex2).length = 2 * i := by rw [hex2_len, List.length_take]; omega
    refine ab 1000 rfl trivial ?_
    refine S_dec rfl (fun hlt => ?_) (fun hlt => ?_)
    · have hil : i < 32 := by omega
      have hiR : i < R.length := by omega
      refine ab 1000 rfl trivial ?_
      refine S_elem (byteAV R[i]) rfl rfl rfl ⟨by omega, by omega, rfl, by rw [Int.toNat_natCast, List.getElem?_map, List.getElem?_eq_getElem hiR]; rfl, trivial⟩ ?_
      refine ab 1000 rfl trivial ?_
      have hc := R[i].toNat_lt
      have hs1 : ((R[i].toNat : Nat) : Int).fdiv (2 ^ (min (4 : Int).toNat IntKind.u8.bits)) = ((R[i].toNat / 16 : Nat) : Int) := shr_nat _ 4
      have hs2 : bitsA .and .u8 ((R[i].toNat : Nat) : Int) 15 = ((R[i].toNat % 16 : Nat) : Int) := by
        rw [show (15 : Int) = ((15 : Nat) : Int) from rfl, bits_and (k := .u8) rfl (by show _ < 256; omega) (by decide), Nat.and_two_pow_sub_one_eq_mod _ 4]
      refine S_draw 8 [] [] rfl rfl rfl rfl ⟨rfl, rfl, rfl, by decide, rfl, by rw [hs1]; omega, by rw [hs1]; show _ < (16 : Int); omega, rfl, rfl, rfl, by rw [hs2]; omega, by rw [hs2]; show _ < (16 : Int); omega, rfl, trivial⟩ ?_
      refine ab 1000 rfl ⟨?_, ?_, ?_, rfl, rfl, ?_, ?_, rfl, trivial⟩ ?_
      · show 2 * i + 2 ≤ 9223372036854775807; omega
      · show (2 * i + 2) * 1 ≤ 140737488355328; omega
      · show 0 + (2 * i) * 1 = (((R.take i).flatMap hex2).map byteAV).length
        rw [List.length_map, hfl]; omega
      · exact allOne_mem (cs := [.int .u8 _, .int .u8 _]) rfl
      · exact allOne_mem (cs := [.int .u8 _, .int .u8 _]) rfl
      refine S_round (i + 1, u + 1) (by show 32 - (i + 1) < 32 - i; omega) hil (.cons rfl (.cons rfl (.cons (ai64 rfl (by omega)) (.nil _)))) ?_
      show [(u + 1, some (Box.cells ((((R.take i).flatMap hex2).map byteAV) ++ [byteAV (hexC (((R[i].toNat : Nat) : Int).fdiv (2 ^ (min (4 : Int).toNat 8))).toNat), byteAV (hexC (bitsA .and .u8 ((R[i].toNat : Nat) : Int) 15).toNat)]) _))] = [(u + 1, some (Box.cells (((R.take (i + 1)).flatMap hex2).map byteAV) _))]
      rw [show ((R[i].toNat : Nat) : Int).fdiv (2 ^ (min (4 : Int).toNat 8)) = ((R[i].toNat / 16 : Nat) : Int) from hs1, hs2, Int.toNat_natCast, Int.toNat_natCast, List.take_succ_eq_append_getElem hiR]
      simp only [List.flatMap_append, List.flatMap_cons, List.flatMap_nil, List.append_nil, List.map_append, hex2, List.map_cons, List.map_nil]
      rfl
    · have hi32 : i = 32 := by omega
      subst hi32
      have hall : (R.take 32).flatMap hex2 = sha s := by rw [List.take_of_length_le (by omega), hsr]
      have htk : ((((R.take 32).flatMap hex2).map byteAV).drop 0).take (2 * 32) = (sha s).map byteAV := by
        rw [hall, List.drop_zero]; exact List.take_of_length_le (by rw [List.length_map, sha_len]; decide)
      refine ab 1000 rfl ⟨?_, ?_, rfl, rfl, trivial⟩ ?_
      · rw [htk]; exact bytes_isByte _
      · rw [hall, List.length_map, sha_len]; decide
      refine S_retc .str rfl trivial ?_
      show AV.str (((((R.take 32).flatMap hex2).map byteAV).drop 0).take (2 * 32) |>.map Go.Ab.byteOf) = _
      rw [htk, bytes_of]

theorem isDig_hex (s : List UInt8) : ∀ x ∈ sha s, hexB x = true := by
  intro x hx
  rw [← sha_raw] at hx
  obtain ⟨b, _, hb⟩ := List.mem_flatMap.1 hx
  have key : ∀ m, m < 16 → hexB (hexC m) = true := by
    intro m hm
    have : ∀ m : Fin 16, hexB (hexC m.1) = true := by decide +kernel
    exact this ⟨m, hm⟩
  have hbl := b.toNat_lt
  simp only [hex2, List.mem_cons, List.not_mem_nil, or_false] at hb
  rcases hb with rfl | rfl
  · exact key _ (by omega)
  · exact key _ (by omega)

theorem isDig_sha (s : List UInt8) : isDig (sha s) = true := by
  unfold isDig
  rw [List.all_eq_true.2 (isDig_hex s), sha_len]; rfl

theorem digestBegun_ok : Calc cx 15 [] (.bool true) :=
  pure_intro (fun a w => Tryd.call15 a w) Tryd.func15 rfl Tryd.ntmps15 rfl .bool fun B => by
    refine ab 1000 rfl trivial ?_
    refine S_pure rfl rfl rfl (Sum_ok [97, 98, 99] (by decide)) (.cons (.refl .str) (.nil _)) ?_
    rw [sha_abc]
    refine ab 1000 rfl trivial ?_
    refine S_guard rfl rfl rfl rfl (fun _ => ?_) (fun h => absurd h (by decide +kernel))
    refine ab 1000 rfl trivial ?_
    refine S_pure rfl rfl rfl (Sum_ok [] (by decide)) (.cons (.refl .str) (.nil _)) ?_
    refine ab 1000 rfl trivial ?_
    refine S_pure rfl rfl rfl (digestIs_ok (sha []) (by rw [sha_len]; decide)) (.cons (.refl .str) (.nil _)) ?_
    rw [isDig_sha]
    refine ab 1000 rfl trivial ?_
    exact S_retc .bool rfl trivial rfl

end Go.Proofs.YtjpmngjoohoddabDoor
