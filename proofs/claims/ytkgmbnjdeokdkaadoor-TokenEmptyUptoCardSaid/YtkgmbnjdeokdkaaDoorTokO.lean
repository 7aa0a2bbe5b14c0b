/-
  Quoted texts: the reference.
-/
import Derived.Test.YtkgmbnjdeokdkaaDoorTokG
import Derived.Test.YtkgmbnjdeokdkaaDoorTokI
set_option linter.unusedVariables false
set_option linter.unusedSimpArgs false
set_option maxRecDepth 20000
namespace Go.Proofs.YtkgmbnjdeokdkaaDoor
open Go Go.Ab

def rbB (b : Nat) (bs : List UInt8) : Nat × Option Box := (b, some (.cells (bs.map byteAV) ⟨false, none⟩))
def rsQ (v u w b : Nat) (s : List UInt8) (i o : Nat) (ins : List Nat) (out : List Tok) (bs : List UInt8) : Heap := rsH v u w s i o ins out ++ [rbB b bs]
def rsQI (v u w b : Nat) (s : List UInt8) (i : Int) (o : Nat) (ins : List Nat) (out : List Tok) (bs : List AV) : Heap :=
  [(v, some (.cells [.str s, .int .i64 i, .int .i64 (o : Nat), insV u ins, outV w out] ⟨false, some 44⟩)), insB u ins, outB w out, (b, some (.cells bs ⟨false, none⟩))]

theorem rsH_rn (v u w : Nat) (s : List UInt8) (i o : Nat) (ins : List Nat) (out : List Tok) : RnH (List.range 3) (rsH v u w s i o ins out) (rsH v u w s i o ins out) := by
  have h := spH_rn v u w s i o ins out
  have ht : ∀ x ∈ out.flatMap tokC, Free false x := by
    intro x hx
    obtain ⟨t, _, ht⟩ := List.mem_flatMap.1 hx
    simp only [tokC, List.mem_cons, List.not_mem_nil, or_false] at ht
    rcases ht with rfl | rfl | rfl | rfl
    · exact .int
    · exact .str
    · exact .int
    · exact .int
  exact .cons (.live (.cells (.cons (.free .str) (.cons (.free .int) (.cons (.free .int) (.cons (.ms rfl) (.cons (.ms rfl) (.nil _)))))))) (.cons (.live (.cells (.free (ints_free ins)))) (.cons (.live (.cells (.free ht))) (.nil _)))

theorem rsH_low (v u w : Nat) (s : List UInt8) (i o : Nat) (ins : List Nat) (out : List Tok) (τ : Heap) : LowH 3 (rsH v u w s i o ins out ++ τ) := by
  have h := spH_low v u w s i o ins out τ
  intro id ver x hid hx
  match id, hid with
  | 0, _ =>
    cases hx
    refine .cells fun y hy => ?_
    simp only [List.mem_cons, List.not_mem_nil, or_false] at hy
    rcases hy with rfl | rfl | rfl | rfl | rfl
    · exact .str
    · exact .int
    · exact .int
    · exact .ms (by decide)
    · exact .ms (by decide)
  | 1, _ => exact h 1 ver x (by decide) hx
  | 2, _ => exact h 2 ver x (by decide) hx

theorem back_bytes (bs : List UInt8) : ((((bs.map byteAV).drop 0).take bs.length).map Ab.byteOf) = bs := by
  rw [List.drop_zero, List.take_of_length_le (by simp), bytes_of]

theorem appB (bs : List UInt8) (c : UInt8) {x : Int} (h : x = ((c.toNat : Nat) : Int)) : bs.map byteAV ++ [.int .u8 x] = (bs ++ [c]).map byteAV := by
  rw [List.map_append, h]; rfl

def quoS (s : List UInt8) (i o : Nat) : Flt ⊕ (Tok × Nat × Nat) := match quoteS (s.drop (i + 1)) (i + 1) [] with
  | .inl p => .inl (1, p)
  | .inr (b, j) => .inr (⟨3, b, 0, i⟩, j, o)

structure RSt where
  j : Nat
  b : Nat
  bs : List UInt8

theorem quoted_ok (v u w : Nat) (s : List UInt8) (i o : Nat) (ins : List Nat) (out : List Tok) (hi : i < s.length) (hs : s.length ≤ 1048576) (hl : out.length ≤ 900000) :
    CallOk cx 32 [.ptr 0 v 0] (rsH v u w s i o ins out) (RsEnd s (endS (quoS s i o) ins out) v) :=
  callOk_introT (fun a w => Tryd.call32 a w) Tryd.func32 rfl Tryd.ntmps32 rfl fun B => by
    have fin : ∀ (p b : Nat) (bs : List UInt8), quoS s i o = .inl (1, p) → TR 3 (RsEnd s (endS (quoS s i o) ins out) v) (.ret (.int .i64 1)) (rsQ v u w b s p o ins out bs) := fun p b bs h =>
      ⟨3, Nat.le_refl _, rsH_low v u w s p o ins out _, .int .i64 1, .low .int, by rw [h]; exact ⟨rfl, u, w, o, ins, out, rfl⟩⟩
    have hw1 : IntKind.i64.wrap ((i : Nat) + 1) = ((i + 1 : Nat) : Int) := by rw [IntWalk.i64_in _ ⟨by omega, by omega⟩]; omega
    refine pa [] rfl ?_ ?_
    · (repeat' with_reducible apply AllP_cons) <;> first | exact trivial | assumption | omega | rfl | exact decide_eq_true (by omega) | exact decide_eq_false (by omega) | (rw [IntWalk.i64_in _ ⟨by omega, by omega⟩]; omega) | exact allOne_mem rfl | exact Nat.le_of_ble_eq_true rfl | (simp only [List.length_cons, List.length_nil]; omega) | skip
    refine S_ghostF (t := 4) 1 ⟨false, none⟩ rfl rfl ⟨_, _, .inl rfl⟩ ?_
    refine S_heap (rsQ v u w 0 s (i + 1) o ins out []) ?_ ?_
    · show rsQI v u w 0 s (IntKind.i64.wrap ((i : Nat) + 1)) o ins out [] = _
      rw [hw1]; rfl
    refine S_while (α := RSt) (fun q => [(0, .ptr 0 v 0), (3, .int .i64 i), (4, .ms 3 q.b 0 q.bs.length 1 false)]) (fun q => rsQ v u w q.b s q.j o ins out q.bs)
      (fun q => i < q.j ∧ q.j ≤ s.length ∧ q.bs.length ≤ q.j ∧ quoteS (s.drop q.j) q.j q.bs = quoteS (s.drop (i + 1)) (i + 1) []) (fun q => s.length - q.j) ⟨i + 1, 0, []⟩
      ⟨by show i < i + 1; omega, hi, Nat.zero_le _, rfl⟩ (.cons rfl (.cons rfl (.cons rfl (.nil _)))) rfl ?_
    rintro ⟨j, b, bs⟩ ⟨h1, h2, h3, hq⟩
    simp only at h1 h2 h3 hq
    show S cx _ B _ _ [(0, .ptr 0 v 0), (3, .int .i64 i), (4, .ms 3 b 0 bs.length 1 false)] (rsQ v u w b s j o ins out bs)
    have hwj : IntKind.i64.wrap ((j : Nat) + 1) = ((j + 1 : Nat) : Int) := by rw [IntWalk.i64_in _ ⟨by omega, by omega⟩]; omega
    have hbl : 0 + bs.length * 1 = (bs.map byteAV).length := by simp
    by_cases hlt : j < s.length
    · have hgc : (((s.getD ((j : Nat) : Int).toNat 0).toNat : Nat) : Int) = ((s[j].toNat : Nat) : Int) := by rw [Int.toNat_natCast, getD_byte hlt]
      have hdr : s.drop j = s[j] :: s.drop (j + 1) := List.drop_eq_getElem_cons hlt
      rw [hdr, quoteS.eq_def] at hq
      simp only at hq
      by_cases hc1 : s[j].toNat < 32
      · rw [if_pos hc1] at hq
        refine pa [.b false, .b true] rfl ?_ ?_
        · (repeat' with_reducible apply AllP_cons) <;> first | exact trivial | assumption | omega | rfl | exact decide_eq_true (by omega) | exact decide_eq_false (by omega) | (rw [IntWalk.i64_in _ ⟨by omega, by omega⟩]; omega) | exact allOne_mem rfl | exact Nat.le_of_ble_eq_true rfl | (simp only [List.length_cons, List.length_nil]; omega) | skip
        exact S_ret ⟨_, _, rfl, trivial, fin j b bs (by rw [quoS, ← hq])⟩
      · rw [if_neg hc1] at hq
        have hcd : decide ((((s.getD ((j : Nat) : Int).toNat 0).toNat : Nat) : Int) < 32) = false := by rw [hgc]; exact decide_eq_false (by omega)
        by_cases hc2 : s[j] = 34
        · rw [if_pos (by rw [hc2]; rfl)] at hq
          have he : ((((s.getD ((j : Nat) : Int).toNat 0).toNat : Nat) : Int) == 34) = true := by rw [hgc, hc2]; rfl
          refine pa [.b false, .b false, .b true] rfl ?_ ?_
          · (repeat' with_reducible apply AllP_cons) <;> first | exact trivial | assumption | omega | rfl | exact decide_eq_true (by omega) | exact decide_eq_false (by omega) | (rw [IntWalk.i64_in _ ⟨by omega, by omega⟩]; omega) | exact allOne_mem rfl | exact Nat.le_of_ble_eq_true rfl | (simp only [List.length_cons, List.length_nil]; omega) | skip
            intro x hx
            exact bytes_isByte bs x (by simpa using List.mem_of_mem_take hx)
          refine S_heap (rsQ v u w b s (j + 1) o ins out bs) ?_ ?_
          · show rsQI v u w b s (IntKind.i64.wrap ((j : Nat) + 1)) o ins out (bs.map byteAV) = _
            rw [hwj]; rfl
          have hput := (rputH v u w s (j + 1) o ins out 3 bs i (by omega)).pre1 3 [rbB b bs] rfl rfl (.cons (.ptr rfl) (.free (by intro x hx; simp at hx; rcases hx with rfl | rfl | rfl; exact .int; exact .str; exact .int))) (rsH_rn ..) (rsH_rn ..) (.free (.tup (by simp)))
          refine pa [.c (.tup []) (rsQ v u (w + 1) b s (j + 1) o ins (out ++ [⟨3, bs, 0, i⟩]) bs)] rfl ?_ ?_
          · (repeat' with_reducible apply AllP_cons) <;> first | exact trivial | assumption | omega | rfl | exact decide_eq_true (by omega) | exact decide_eq_false (by omega) | (rw [IntWalk.i64_in _ ⟨by omega, by omega⟩]; omega) | exact allOne_mem rfl | exact Nat.le_of_ble_eq_true rfl | (simp only [List.length_cons, List.length_nil]; omega) | skip
            show CallOk cx _ [.ptr 0 v 0, .int .i64 3, .str ((((bs.map byteAV).drop 0).take bs.length).map Ab.byteOf), .int .i64 i] _ _
            rw [back_bytes]; exact hput
          refine S_ret ⟨_, _, rfl, trivial, 3, Nat.le_refl _, rsH_low v u (w + 1) s (j + 1) o ins _ _, .int .i64 0, .low .int, ?_⟩
          rw [quoS, ← hq]
          exact ⟨u, w + 1, rfl, rfl⟩
        · rw [if_neg (by simpa using hc2)] at hq
          have he : ((((s.getD ((j : Nat) : Int).toNat 0).toNat : Nat) : Int) == 34) = false := by rw [hgc]; exact beq_false_of_ne (fun h => hc2 (UInt8.toNat_inj.1 (by show s[j].toNat = 34; omega)))
          by_cases hc3 : s[j] = 92
          · rw [if_neg (by rw [hc3]; decide)] at hq
            have he3 : ((((s.getD ((j : Nat) : Int).toNat 0).toNat : Nat) : Int) != 92) = false := by rw [hgc, hc3]; rfl
            have hwj2 : IntKind.i64.wrap (((j + 1 : Nat) : Int) + 1) = ((j + 2 : Nat) : Int) := by rw [IntWalk.i64_in _ ⟨by omega, by omega⟩]; omega
            refine pa [.b false, .b false, .b false, .b false] rfl ?_ ?_
            · (repeat' with_reducible apply AllP_cons) <;> first | exact trivial | assumption | omega | rfl | exact decide_eq_true (by omega) | exact decide_eq_false (by omega) | (rw [IntWalk.i64_in _ ⟨by omega, by omega⟩]; omega) | exact allOne_mem rfl | exact Nat.le_of_ble_eq_true rfl | (simp only [List.length_cons, List.length_nil]; omega) | skip
            refine S_heap (rsQ v u w b s (j + 1) o ins out bs) ?_ ?_
            · show rsQI v u w b s (IntKind.i64.wrap ((j : Nat) + 1)) o ins out (bs.map byteAV) = _
              rw [hwj]; rfl
            by_cases hl2 : j + 1 < s.length
            · have hge : decide (IntKind.i64.wrap ((j : Nat) + 1) ≥ ((s.length : Nat) : Int)) = false := by rw [hwj]; exact decide_eq_false (by omega)
              have hdr2 : s.drop (j + 1) = s[j + 1] :: s.drop (j + 2) := List.drop_eq_getElem_cons hl2
              rw [hdr2] at hq
              simp only at hq
              have hgd : (((s.getD ((j + 1 : Nat) : Int).toNat 0).toNat : Nat) : Int) = ((s[j + 1].toNat : Nat) : Int) := by rw [Int.toNat_natCast, getD_byte hl2]
              have h0 : (0 : Int) ≤ ((j + 1 : Nat) : Int) ∧ ((j + 1 : Nat) : Int) < ((s.length : Nat) : Int) := by omega
              have ne : ∀ n : Nat, n < 256 → s[j + 1] ≠ UInt8.ofNat n → ((((s.getD ((j + 1 : Nat) : Int).toNat 0).toNat : Nat) : Int) == (n : Int)) = false := fun n hn h => by
                rw [hgd, byte_eq _ _ hn]; exact beq_false_of_ne h
              have eq : ∀ n : Nat, n < 256 → s[j + 1] = UInt8.ofNat n → ((((s.getD ((j + 1 : Nat) : Int).toNat 0).toNat : Nat) : Int) == (n : Int)) = true := fun n hn h => by
                rw [hgd, byte_eq _ _ hn, h]; exact beq_self_eq_true _
              by_cases d1 : s[j + 1] = 110
              · have e1 := eq 110 (by decide) d1
                rw [d1] at hq
                refine pa [.b false, .b true] rfl ?_ ?_
                · (repeat' with_reducible apply AllP_cons) <;> first | exact trivial | assumption | omega | rfl | exact decide_eq_true (by omega) | exact decide_eq_false (by omega) | (rw [IntWalk.i64_in _ ⟨by omega, by omega⟩]; omega) | exact allOne_mem rfl | exact Nat.le_of_ble_eq_true rfl | (simp only [List.length_cons, List.length_nil]; omega) | skip
                  show (bs.length + 1) * 1 ≤ 140737488355328; omega
                refine S_round ⟨j + 2, b + 1, bs ++ [10]⟩ (by show s.length - (j + 2) < s.length - j; omega) ⟨by show i < j + 2; omega, by show j + 2 ≤ s.length; omega, by show (bs ++ [10]).length ≤ j + 2; simp; omega, hq⟩ (.cons rfl (.cons rfl (.cons ?_ (.nil _)))) ?_
                · show AV.ms 3 (b + 1) 0 (bs.length + 1) 1 false = .ms 3 (b + 1) 0 (bs ++ [10]).length 1 false
                  rw [List.length_append]; rfl
                · show rsQI v u w (b + 1) s (IntKind.i64.wrap (((j + 1 : Nat) : Int) + 1)) o ins out (bs.map byteAV ++ [.int .u8 10]) = _
                  rw [hwj2, appB bs 10 (x := 10) rfl]; rfl
              have e1 := ne 110 (by decide) d1
              by_cases d2 : s[j + 1] = 116
              · have e2 := eq 116 (by decide) d2
                rw [d2] at hq
                refine pa [.b false, .b false, .b true] rfl ?_ ?_
                · (repeat' with_reducible apply AllP_cons) <;> first | exact trivial | assumption | omega | rfl | exact decide_eq_true (by omega) | exact decide_eq_false (by omega) | (rw [IntWalk.i64_in _ ⟨by omega, by omega⟩]; omega) | exact allOne_mem rfl | exact Nat.le_of_ble_eq_true rfl | (simp only [List.length_cons, List.length_nil]; omega) | skip
                  show (bs.length + 1) * 1 ≤ 140737488355328; omega
                refine S_round ⟨j + 2, b + 1, bs ++ [9]⟩ (by show s.length - (j + 2) < s.length - j; omega) ⟨by show i < j + 2; omega, by show j + 2 ≤ s.length; omega, by show (bs ++ [9]).length ≤ j + 2; simp; omega, hq⟩ (.cons rfl (.cons rfl (.cons ?_ (.nil _)))) ?_
                · show AV.ms 3 (b + 1) 0 (bs.length + 1) 1 false = .ms 3 (b + 1) 0 (bs ++ [9]).length 1 false
                  rw [List.length_append]; rfl
                · show rsQI v u w (b + 1) s (IntKind.i64.wrap (((j + 1 : Nat) : Int) + 1)) o ins out (bs.map byteAV ++ [.int .u8 9]) = _
                  rw [hwj2, appB bs 9 (x := 9) rfl]; rfl
              have e2 := ne 116 (by decide) d2
              by_cases d3 : s[j + 1] = 92
              · have e3 := eq 92 (by decide) d3
                rw [d3] at hq hgd
                refine pa [.b false, .b false, .b false, .b true, .b true] rfl ?_ ?_
                · (repeat' with_reducible apply AllP_cons) <;> first | exact trivial | assumption | omega | rfl | exact decide_eq_true (by omega) | exact decide_eq_false (by omega) | (rw [IntWalk.i64_in _ ⟨by omega, by omega⟩]; omega) | exact allOne_mem rfl | exact Nat.le_of_ble_eq_true rfl | (simp only [List.length_cons, List.length_nil]; omega) | skip
                  show (bs.length + 1) * 1 ≤ 140737488355328; omega
                refine S_round ⟨j + 2, b + 1, bs ++ [92]⟩ (by show s.length - (j + 2) < s.length - j; omega) ⟨by show i < j + 2; omega, by show j + 2 ≤ s.length; omega, by show (bs ++ [92]).length ≤ j + 2; simp; omega, hq⟩ (.cons rfl (.cons rfl (.cons ?_ (.nil _)))) ?_
                · show AV.ms 3 (b + 1) 0 (bs.length + 1) 1 false = .ms 3 (b + 1) 0 (bs ++ [92]).length 1 false
                  rw [List.length_append]; rfl
                · show rsQI v u w (b + 1) s (IntKind.i64.wrap (((j + 1 : Nat) : Int) + 1)) o ins out (bs.map byteAV ++ [.int .u8 (((s.getD ((j + 1 : Nat) : Int).toNat 0).toNat : Nat) : Int)]) = _
                  rw [hwj2, appB bs 92 hgd]; rfl
              have e3 := ne 92 (by decide) d3
              by_cases d4 : s[j + 1] = 34
              · have e4 := eq 34 (by decide) d4
                rw [d4] at hq hgd
                refine pa [.b false, .b false, .b false, .b false, .b true] rfl ?_ ?_
                · (repeat' with_reducible apply AllP_cons) <;> first | exact trivial | assumption | omega | rfl | exact decide_eq_true (by omega) | exact decide_eq_false (by omega) | (rw [IntWalk.i64_in _ ⟨by omega, by omega⟩]; omega) | exact allOne_mem rfl | exact Nat.le_of_ble_eq_true rfl | (simp only [List.length_cons, List.length_nil]; omega) | skip
                  show (bs.length + 1) * 1 ≤ 140737488355328; omega
                refine S_round ⟨j + 2, b + 1, bs ++ [34]⟩ (by show s.length - (j + 2) < s.length - j; omega) ⟨by show i < j + 2; omega, by show j + 2 ≤ s.length; omega, by show (bs ++ [34]).length ≤ j + 2; simp; omega, hq⟩ (.cons rfl (.cons rfl (.cons ?_ (.nil _)))) ?_
                · show AV.ms 3 (b + 1) 0 (bs.length + 1) 1 false = .ms 3 (b + 1) 0 (bs ++ [34]).length 1 false
                  rw [List.length_append]; rfl
                · show rsQI v u w (b + 1) s (IntKind.i64.wrap (((j + 1 : Nat) : Int) + 1)) o ins out (bs.map byteAV ++ [.int .u8 (((s.getD ((j + 1 : Nat) : Int).toNat 0).toNat : Nat) : Int)]) = _
                  rw [hwj2, appB bs 34 hgd]; rfl
              have e4 := ne 34 (by decide) d4
              have : esc s[j + 1] = none := by simp [esc, d1, d2, d3, d4]
              rw [this] at hq
              simp only at hq
              refine pa [.b false, .b false, .b false, .b false, .b false] rfl ?_ ?_
              · (repeat' with_reducible apply AllP_cons) <;> first | exact trivial | assumption | omega | rfl | exact decide_eq_true (by omega) | exact decide_eq_false (by omega) | (rw [IntWalk.i64_in _ ⟨by omega, by omega⟩]; omega) | exact allOne_mem rfl | exact Nat.le_of_ble_eq_true rfl | (simp only [List.length_cons, List.length_nil]; omega) | skip
              exact S_ret ⟨_, _, rfl, trivial, fin (j + 1) b bs (by rw [quoS, ← hq])⟩
            · have hge : decide (IntKind.i64.wrap ((j : Nat) + 1) ≥ ((s.length : Nat) : Int)) = true := by rw [hwj]; exact decide_eq_true (by omega)
              have hnil : s.drop (j + 1) = [] := List.drop_eq_nil_of_le (by omega)
              rw [hnil] at hq
              simp only at hq
              refine pa [.b true] rfl ?_ ?_
              · (repeat' with_reducible apply AllP_cons) <;> first | exact trivial | assumption | omega | rfl | exact decide_eq_true (by omega) | exact decide_eq_false (by omega) | (rw [IntWalk.i64_in _ ⟨by omega, by omega⟩]; omega) | exact allOne_mem rfl | exact Nat.le_of_ble_eq_true rfl | (simp only [List.length_cons, List.length_nil]; omega) | skip
              exact S_ret ⟨_, _, rfl, trivial, fin (j + 1) b bs (by rw [quoS, ← hq])⟩
          · rw [if_pos (by simpa using hc3)] at hq
            have he3 : ((((s.getD ((j : Nat) : Int).toNat 0).toNat : Nat) : Int) != 92) = true := by rw [hgc]; exact bne_iff_ne.2 (fun h => hc3 (UInt8.toNat_inj.1 (by show s[j].toNat = 92; omega)))
            refine pa [.b false, .b false, .b false, .b true] rfl ?_ ?_
            · (repeat' with_reducible apply AllP_cons) <;> first | exact trivial | assumption | omega | rfl | exact decide_eq_true (by omega) | exact decide_eq_false (by omega) | (rw [IntWalk.i64_in _ ⟨by omega, by omega⟩]; omega) | exact allOne_mem rfl | exact Nat.le_of_ble_eq_true rfl | (simp only [List.length_cons, List.length_nil]; omega) | skip
              show (bs.length + 1) * 1 ≤ 140737488355328; omega
            refine S_round ⟨j + 1, b + 1, bs ++ [s[j]]⟩ (by show s.length - (j + 1) < s.length - j; omega) ⟨by show i < j + 1; omega, hlt, by show (bs ++ [s[j]]).length ≤ j + 1; simp; omega, hq⟩ (.cons rfl (.cons rfl (.cons ?_ (.nil _)))) ?_
            · show AV.ms 3 (b + 1) 0 (bs.length + 1) 1 false = .ms 3 (b + 1) 0 (bs ++ [s[j]]).length 1 false
              rw [List.length_append]; rfl
            · show rsQI v u w (b + 1) s (IntKind.i64.wrap ((j : Nat) + 1)) o ins out (bs.map byteAV ++ [.int .u8 (((s.getD ((j : Nat) : Int).toNat 0).toNat : Nat) : Int)]) = _
              rw [hwj, appB bs s[j] hgc]; rfl
    · have hnil : s.drop j = [] := List.drop_eq_nil_of_le (by omega)
      rw [hnil, quoteS.eq_def] at hq
      simp only at hq
      refine pa [.b true, .b true] rfl ?_ ?_
      · (repeat' with_reducible apply AllP_cons) <;> first | exact trivial | assumption | omega | rfl | exact decide_eq_true (by omega) | exact decide_eq_false (by omega) | (rw [IntWalk.i64_in _ ⟨by omega, by omega⟩]; omega) | exact allOne_mem rfl | exact Nat.le_of_ble_eq_true rfl | (simp only [List.length_cons, List.length_nil]; omega) | skip
      exact S_ret ⟨_, _, rfl, trivial, fin j b bs (by rw [quoS, ← hq])⟩

end Go.Proofs.YtkgmbnjdeokdkaaDoor
