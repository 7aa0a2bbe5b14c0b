/-
  Quoted texts: the program.
-/
import Derived.Test.YtkgmbnjdeokdkaaDoorTokO
import Derived.Test.YtkgmbnjdeokdkaaDoorBldA0
set_option linter.unusedVariables false
set_option linter.unusedSimpArgs false
set_option maxRecDepth 20000
namespace Go.Proofs.YtkgmbnjdeokdkaaDoor
open Go Go.Ab

theorem holdsB : HoldsB 61 2 := ⟨lble rfl, lble rfl, fun k => by kernel_rfl⟩

def bufV4 (u : Nat) : List UInt8 → AV
  | [] => .nils
  | c :: bs => .ms 4 u 0 (c :: bs).length 1 false

/-- The splitter's heap, a builder behind it. -/
def qT (b : Nat) (a : AV) (bs : List UInt8) : Heap := [(0, some (.cells [a, bufV4 b bs] ⟨false, some 61⟩)), bufB b bs]
def spQ (v u w b : Nat) (s : List UInt8) (i o : Nat) (ins : List Nat) (out : List Tok) (a : AV) (bs : List UInt8) : Heap := spH v u w s i o ins out ++ (qT b a bs ++ [])
def spQI (v u w b : Nat) (s : List UInt8) (i : Int) (o : Nat) (ins : List Nat) (out : List Tok) (a : AV) (bs : List UInt8) : Heap :=
  [(v, some (.cells [.str s, .int .i64 i, .int .i64 (o : Nat), insV u ins, outV w out] ⟨false, some 41⟩)), insB u ins, outB w out, (0, some (.cells [a, bufV4 b bs] ⟨false, some 61⟩)), bufB b bs]

theorem bytes_fr {st : Bool} (bs : List UInt8) : ∀ x ∈ bs.map byteAV, Free st x := by
  intro x hx; obtain ⟨y, _, rfl⟩ := List.mem_map.1 hx; exact .int

theorem qT_rn (b : Nat) (a a' : AV) (h : Rn (List.range' 3 2) a a') (bs : List UInt8) : RnH (List.range' 3 2) [(0, some (bBox 61 a (bufV b bs) [])), bufB b bs] (qT b a' bs) := by
  cases bs with
  | nil => exact .cons (.live (.cells (.cons h (.cons (.free .nils) (.nil _))))) (.cons .dead (.nil _))
  | cons c bs => exact .cons (.live (.cells (.cons h (.cons (.ms rfl) (.nil _))))) (.cons (.live (.cells (.free (bytes_fr (c :: bs))))) (.nil _))

theorem writeQ (v u w b : Nat) (s : List UInt8) (i o : Nat) (ins : List Nat) (out : List Tok) (a : AV) (ha : a = .nilp ∨ a = .ptr 3 0 0) (bs : List UInt8) (c : UInt8) (hl : bs.length < 140737488355328) :
    CallOk cx 45 [.ptr 3 0 0, byteAV c] (spQ v u w b s i o ins out a bs) (fun e σ => e = .ret .nili ∧ σ = spQ v u w (b + 1) s i o ins out (.ptr 3 0 0) (bs ++ [c])) := by
  obtain ⟨a0, h1, h2⟩ : ∃ a0, (a0 = .nilp ∨ a0 = .ptr 0 0 0) ∧ Rn (List.range' 3 2) a0 a := by
    rcases ha with rfl | rfl
    · exact ⟨.nilp, .inl rfl, .free .nilp⟩
    · exact ⟨.ptr 0 0 0, .inr rfl, .ptr rfl⟩
  exact (writeByteU_ok holdsB 0 b a0 h1 bs c hl).mid 3 2 (spH v u w s i o ins out) [] rfl rfl rfl (.cons (.ptr rfl) (.cons (.free .int) (.nil _))) (qT_rn b a0 a h2 bs) (qT_rn (b + 1) (.ptr 0 0 0) (.ptr 3 0 0) (.ptr rfl) (bs ++ [c])) (.free .nili)

theorem stringQ (v u w b : Nat) (s : List UInt8) (i o : Nat) (ins : List Nat) (out : List Tok) (a : AV) (ha : a = .nilp ∨ a = .ptr 3 0 0) (bs : List UInt8) (hl : bs.length ≤ 140737488355328) :
    CallOk cx 46 [.ptr 3 0 0] (spQ v u w b s i o ins out a bs) (fun e σ => e = .ret (.str bs) ∧ σ = spH v u w s i o ins out ++ ([(0, some (.cells [a, bufV4 b bs] ⟨false, some 61⟩)), (b, none)] ++ [])) := by
  obtain ⟨a0, h2⟩ : ∃ a0, Rn (List.range' 3 2) a0 a := by
    rcases ha with rfl | rfl
    · exact ⟨.nilp, .free .nilp⟩
    · exact ⟨.ptr 0 0 0, .ptr rfl⟩
  refine (stringU_ok (T := 61) 0 b a0 bs hl).mid 3 2 (spH v u w s i o ins out) [] rfl rfl rfl (.cons (.ptr rfl) (.nil _)) (qT_rn b a0 a h2 bs) ?_ (.free .str)
  cases bs with
  | nil => exact .cons (.live (.cells (.cons h2 (.cons (.free .nils) (.nil _))))) (.cons .dead (.nil _))
  | cons c bs => exact .cons (.live (.cells (.cons h2 (.cons (.ms rfl) (.nil _))))) (.cons .dead (.nil _))

/-- Which letter behind a backslash it is. -/
def kOf (d : UInt8) : Int := Lib.indexByte [110, 116, 92, 34] d

theorem kOf_esc (d : UInt8) : (esc d = none ∧ kOf d = -1) ∨ ∃ (k : Nat) (h : k < 4) (e : UInt8), esc d = some e ∧ kOf d = k ∧ [10, 9, 92, 34][k] = e := by
  by_cases h1 : d = 110
  · subst h1; exact .inr ⟨0, by decide, 10, rfl, rfl, rfl⟩
  by_cases h2 : d = 116
  · subst h2; exact .inr ⟨1, by decide, 9, rfl, rfl, rfl⟩
  by_cases h3 : d = 92
  · subst h3; exact .inr ⟨2, by decide, 92, rfl, rfl, rfl⟩
  by_cases h4 : d = 34
  · subst h4; exact .inr ⟨3, by decide, 34, rfl, rfl, rfl⟩
  · left
    refine ⟨by simp [esc, h1, h2, h3, h4], by simp [kOf, Lib.indexByte, Ne.symm h1, Ne.symm h2, Ne.symm h3, Ne.symm h4]⟩

/-- The state of a quoted text's loop. -/
structure QSt where
  j : Nat
  b : Nat
  a : AV
  bs : List UInt8

theorem byteLt (c : UInt8) (n : Nat) : decide (((c.toNat : Nat) : Int) < (n : Int)) = decide (c.toNat < n) := decide_eq_decide.2 (by omega)

theorem text_ok (v u w : Nat) (s : List UInt8) (i o : Nat) (ins : List Nat) (out : List Tok) (hi : i < s.length) (hs : s.length ≤ 1048576) (hl : out.length ≤ 900000) :
    CallOk cx 40 [.ptr 0 v 0] (spH v u w s i o ins out) (SpEnd s (endS (quoS s i o) ins out) v) :=
  callOk_introT (fun a w => Tryd.call40 a w) Tryd.func40 rfl Tryd.ntmps40 rfl fun B => by
    have lowF : ∀ e : Flt, Low 3 (flt e) := fun e => .iface (.agg (by intro x hx; simp at hx; rcases hx with rfl | rfl; exact .int; exact .int))
    have fin : ∀ (p b : Nat) (a : AV) (bs : List UInt8), quoS s i o = .inl (1, p) → TR 3 (SpEnd s (endS (quoS s i o) ins out) v) (.panic (flt (1, p))) (spQ v u w b s p o ins out a bs) := fun p b a bs h =>
      ⟨3, Nat.le_refl _, spH_low v u w s p o ins out _, lowF _, by rw [h]; exact ⟨rfl, v, u, w, p, o, ins, out, rfl⟩⟩
    have hw1 : IntKind.i64.wrap ((i : Nat) + 1) = ((i + 1 : Nat) : Int) := by rw [IntWalk.i64_in _ ⟨by omega, by omega⟩]; omega
    refine pa [] rfl ?_ ?_
    · (repeat' with_reducible apply AllP_cons) <;> first | exact trivial | assumption | omega | rfl | exact decide_eq_true (by omega) | exact decide_eq_false (by omega) | (rw [IntWalk.i64_in _ ⟨by omega, by omega⟩]; omega) | exact allOne_mem rfl | exact Nat.le_of_ble_eq_true rfl | (simp only [List.length_cons, List.length_nil]; omega) | skip
    refine S_dead ?_ ⟨_, _, .inl rfl⟩
    refine S_heap (spQ v u w 0 s (i + 1) o ins out .nilp []) ?_ ?_
    · show spQI v u w 0 s (IntKind.i64.wrap ((i : Nat) + 1)) o ins out .nilp [] = _
      rw [hw1]; rfl
    refine S_while (α := QSt) (fun q => [(0, .ptr 0 v 0), (2, .int .i64 i), (3, .ptr 3 0 0)]) (fun q => spQ v u w q.b s q.j o ins out q.a q.bs)
      (fun q => i < q.j ∧ q.j ≤ s.length ∧ q.bs.length ≤ q.j ∧ (q.a = .nilp ∨ q.a = .ptr 3 0 0) ∧ quoteS (s.drop q.j) q.j q.bs = quoteS (s.drop (i + 1)) (i + 1) []) (fun q => s.length - q.j) ⟨i + 1, 0, .nilp, []⟩
      ⟨by show i < i + 1; omega, hi, Nat.zero_le _, .inl rfl, rfl⟩ (.cons rfl (.cons rfl (.cons rfl (.nil _)))) rfl ?_
    rintro ⟨j, b, a, bs⟩ ⟨h1, h2, h3, ha, hq⟩
    simp only at h1 h2 h3 ha hq
    show S cx _ B _ _ [(0, .ptr 0 v 0), (2, .int .i64 i), (3, .ptr 3 0 0)] (spQ v u w b s j o ins out a bs)
    have hwj : IntKind.i64.wrap ((j : Nat) + 1) = ((j + 1 : Nat) : Int) := by rw [IntWalk.i64_in _ ⟨by omega, by omega⟩]; omega
    by_cases hlt : j < s.length
    · have hgc : (((s.getD ((j : Nat) : Int).toNat 0).toNat : Nat) : Int) = ((s[j].toNat : Nat) : Int) := by rw [Int.toNat_natCast, getD_byte hlt]
      have hdr : s.drop j = s[j] :: s.drop (j + 1) := List.drop_eq_getElem_cons hlt
      rw [hdr, quoteS.eq_def] at hq
      simp only at hq
      by_cases hc1 : s[j].toNat < 32
      · rw [if_pos hc1] at hq
        refine pa [.b false, .b true] rfl ?_ ?_
        · (repeat' with_reducible apply AllP_cons) <;> first | exact trivial | assumption | omega | rfl | exact decide_eq_true (by omega) | exact decide_eq_false (by omega) | (rw [IntWalk.i64_in _ ⟨by omega, by omega⟩]; omega) | exact allOne_mem rfl | exact Nat.le_of_ble_eq_true rfl | (simp only [List.length_cons, List.length_nil]; omega) | skip
        exact S_callP rfl rfl rfl (fail_ok _ v 1 j) (fin j b a bs (by rw [quoS, ← hq]))
      · rw [if_neg hc1] at hq
        have hcd : decide ((((s.getD ((j : Nat) : Int).toNat 0).toNat : Nat) : Int) < 32) = false := by rw [hgc]; exact decide_eq_false (by omega)
        by_cases hc2 : s[j] = 34
        · rw [if_pos (by rw [hc2]; rfl)] at hq
          have he : ((((s.getD ((j : Nat) : Int).toNat 0).toNat : Nat) : Int) == 34) = true := by rw [hgc, hc2]; rfl
          refine pa [.b false, .b false, .b true] rfl ?_ ?_
          · (repeat' with_reducible apply AllP_cons) <;> first | exact trivial | assumption | omega | rfl | exact decide_eq_true (by omega) | exact decide_eq_false (by omega) | (rw [IntWalk.i64_in _ ⟨by omega, by omega⟩]; omega) | exact allOne_mem rfl | exact Nat.le_of_ble_eq_true rfl | (simp only [List.length_cons, List.length_nil]; omega) | skip
          refine S_heap (spQ v u w b s (j + 1) o ins out a bs) ?_ ?_
          · show spQI v u w b s (IntKind.i64.wrap ((j : Nat) + 1)) o ins out a bs = _
            rw [hwj]; rfl
          have hput := (putH v u w s (j + 1) o ins out 3 bs i (by omega)).pre1 3 ([(0, some (.cells [a, bufV4 b bs] ⟨false, some 61⟩)), (b, none)] ++ []) rfl rfl (.cons (.ptr rfl) (.free (by intro x hx; simp at hx; rcases hx with rfl | rfl | rfl; exact .int; exact .str; exact .int))) (spH_rn ..) (spH_rn ..) (.free (.tup (by simp)))
          refine pa [.c (.str bs) (spH v u w s (j + 1) o ins out ++ ([(0, some (.cells [a, bufV4 b bs] ⟨false, some 61⟩)), (b, none)] ++ [])), .c (.tup []) (spH v u (w + 1) s (j + 1) o ins (out ++ [⟨3, bs, 0, i⟩]) ++ ([(0, some (.cells [a, bufV4 b bs] ⟨false, some 61⟩)), (b, none)] ++ []))] rfl ?_ ?_
          · (repeat' with_reducible apply AllP_cons) <;> first | exact trivial | assumption | omega | rfl | exact decide_eq_true (by omega) | exact decide_eq_false (by omega) | (rw [IntWalk.i64_in _ ⟨by omega, by omega⟩]; omega) | exact allOne_mem rfl | exact Nat.le_of_ble_eq_true rfl | (simp only [List.length_cons, List.length_nil]; omega) | skip
            exact stringQ v u w b s (j + 1) o ins out a ha bs (by omega)
          refine S_nil ⟨_, _, rfl, trivial, 3, Nat.le_refl _, spH_low v u (w + 1) s (j + 1) o ins _ _, .tup [], .low (.tup (by simp)), ?_⟩
          rw [quoS, ← hq]
          exact ⟨u, w + 1, rfl, rfl⟩
        · rw [if_neg (by simpa using hc2)] at hq
          have he : ((((s.getD ((j : Nat) : Int).toNat 0).toNat : Nat) : Int) == 34) = false := by rw [hgc]; exact beq_false_of_ne (fun h => hc2 (UInt8.toNat_inj.1 (by show s[j].toNat = 34; omega)))
          by_cases hc3 : s[j] = 92
          · rw [if_neg (by rw [hc3]; decide)] at hq
            have he3 : ((((s.getD ((j : Nat) : Int).toNat 0).toNat : Nat) : Int) == 92) = true := by rw [hgc, hc3]; rfl
            have hwj2 : IntKind.i64.wrap (((j + 1 : Nat) : Int) + 1) = ((j + 2 : Nat) : Int) := by rw [IntWalk.i64_in _ ⟨by omega, by omega⟩]; omega
            by_cases hl2 : j + 1 < s.length
            · have hdr2 : s.drop (j + 1) = s[j + 1] :: s.drop (j + 2) := List.drop_eq_getElem_cons hl2
              rw [hdr2] at hq
              simp only at hq
              have hgd : (((s.getD ((j + 1 : Nat) : Int).toNat 0).toNat : Nat) : Int) = ((s[j + 1].toNat : Nat) : Int) := by rw [Int.toNat_natCast, getD_byte hl2]
              have hix : ∀ σ, ∃ args', Calc cx 44 args' (.int .i64 (kOf s[j + 1])) ∧ Frzs σ [.str [110, 116, 92, 34], .int .u8 (((s.getD ((j + 1 : Nat) : Int).toNat 0).toNat : Nat) : Int)] args' := fun σ => by
                have h := indexByte_ok [110, 116, 92, 34] ((s[j + 1].toNat : Nat) : Int)
                rw [byteBack] at h
                rw [hgd]
                exact ⟨_, h, .cons (.refl .str) (.cons (.refl .int) (.nil _))⟩
              have h0 : (0 : Int) ≤ ((j + 1 : Nat) : Int) ∧ ((j + 1 : Nat) : Int) < ((s.length : Nat) : Int) := by omega
              rcases kOf_esc s[j + 1] with ⟨e1, e2⟩ | ⟨k, hk, e, e1, e2, e3⟩
              · rw [e1] at hq
                simp only at hq
                rw [e2] at hix
                refine pa [.b false, .b false, .b false, .b true] rfl ?_ ?_
                · (repeat' with_reducible apply AllP_cons) <;> first | exact trivial | assumption | omega | rfl | exact decide_eq_true (by omega) | exact decide_eq_false (by omega) | (rw [IntWalk.i64_in _ ⟨by omega, by omega⟩]; omega) | exact allOne_mem rfl | exact Nat.le_of_ble_eq_true rfl | (simp only [List.length_cons, List.length_nil]; omega) | skip
                refine S_heap (spQ v u w b s (j + 1) o ins out a bs) ?_ ?_
                · show spQI v u w b s (IntKind.i64.wrap ((j : Nat) + 1)) o ins out a bs = _
                  rw [hwj]; rfl
                refine pa [.b true, .v (.int .i64 (-1)), .b true] rfl ?_ ?_
                · (repeat' with_reducible apply AllP_cons) <;> first | exact trivial | assumption | omega | rfl | exact decide_eq_true (by omega) | exact decide_eq_false (by omega) | (rw [IntWalk.i64_in _ ⟨by omega, by omega⟩]; omega) | exact allOne_mem rfl | exact Nat.le_of_ble_eq_true rfl | (simp only [List.length_cons, List.length_nil]; omega) | skip
                  exact hix _
                exact S_callP rfl rfl rfl (fail_ok _ v 1 (j + 1 : Nat)) (fin (j + 1) b a bs (by rw [quoS, ← hq]))
              · rw [e1] at hq
                simp only at hq
                rw [e2] at hix
                have hes : (((([10, 9, 92, 34] : List UInt8).getD ((k : Nat) : Int).toNat 0).toNat : Nat) : Int) = ((e.toNat : Nat) : Int) := by rw [Int.toNat_natCast, getD_byte (s := [10, 9, 92, 34]) hk, e3]
                have hk2 : (0 : Int) ≤ ((k : Nat) : Int) ∧ ((k : Nat) : Int) < 4 := by omega
                have hwr := writeQ v u w b s (j + 1) o ins out a ha bs e (by omega)
                refine pa [.b false, .b false, .b false, .b true] rfl ?_ ?_
                · (repeat' with_reducible apply AllP_cons) <;> first | exact trivial | assumption | omega | rfl | exact decide_eq_true (by omega) | exact decide_eq_false (by omega) | (rw [IntWalk.i64_in _ ⟨by omega, by omega⟩]; omega) | exact allOne_mem rfl | exact Nat.le_of_ble_eq_true rfl | (simp only [List.length_cons, List.length_nil]; omega) | skip
                refine S_heap (spQ v u w b s (j + 1) o ins out a bs) ?_ ?_
                · show spQI v u w b s (IntKind.i64.wrap ((j : Nat) + 1)) o ins out a bs = _
                  rw [hwj]; rfl
                refine pa [.b true, .v (.int .i64 (k : Nat)), .b false, .c .nili (spQ v u w (b + 1) s (j + 1) o ins out (.ptr 3 0 0) (bs ++ [e]))] rfl ?_ ?_
                · (repeat' with_reducible apply AllP_cons) <;> first | exact trivial | assumption | omega | rfl | exact decide_eq_true (by omega) | exact decide_eq_false (by omega) | (rw [IntWalk.i64_in _ ⟨by omega, by omega⟩]; omega) | exact allOne_mem rfl | exact Nat.le_of_ble_eq_true rfl | (simp only [List.length_cons, List.length_nil]; omega) | skip
                  · exact hix _
                  · show CallOk cx _ [.ptr 3 0 0, .int .u8 (((([10, 9, 92, 34] : List UInt8).getD ((k : Nat) : Int).toNat 0).toNat : Nat) : Int)] _ _
                    rw [hes]; exact hwr
                refine S_round ⟨j + 2, b + 1, .ptr 3 0 0, bs ++ [e]⟩ (by show s.length - (j + 2) < s.length - j; omega) ⟨by show i < j + 2; omega, by show j + 2 ≤ s.length; omega, by show (bs ++ [e]).length ≤ j + 2; simp; omega, .inr rfl, hq⟩ (.cons rfl (.cons rfl (.cons rfl (.nil _)))) ?_
                show spQI v u w (b + 1) s (IntKind.i64.wrap (((j + 1 : Nat) : Int) + 1)) o ins out (.ptr 3 0 0) (bs ++ [e]) = _
                rw [hwj2]; rfl
            · have hnil : s.drop (j + 1) = [] := List.drop_eq_nil_of_le (by omega)
              rw [hnil] at hq
              simp only at hq
              refine pa [.b false, .b false, .b false, .b true] rfl ?_ ?_
              · (repeat' with_reducible apply AllP_cons) <;> first | exact trivial | assumption | omega | rfl | exact decide_eq_true (by omega) | exact decide_eq_false (by omega) | (rw [IntWalk.i64_in _ ⟨by omega, by omega⟩]; omega) | exact allOne_mem rfl | exact Nat.le_of_ble_eq_true rfl | (simp only [List.length_cons, List.length_nil]; omega) | skip
              refine S_heap (spQ v u w b s (j + 1) o ins out a bs) ?_ ?_
              · show spQI v u w b s (IntKind.i64.wrap ((j : Nat) + 1)) o ins out a bs = _
                rw [hwj]; rfl
              refine pa [.b false, .b true] rfl ?_ ?_
              · (repeat' with_reducible apply AllP_cons) <;> first | exact trivial | assumption | omega | rfl | exact decide_eq_true (by omega) | exact decide_eq_false (by omega) | (rw [IntWalk.i64_in _ ⟨by omega, by omega⟩]; omega) | exact allOne_mem rfl | exact Nat.le_of_ble_eq_true rfl | (simp only [List.length_cons, List.length_nil]; omega) | skip
              exact S_callP rfl rfl rfl (fail_ok _ v 1 (j + 1 : Nat)) (fin (j + 1) b a bs (by rw [quoS, ← hq]))
          · rw [if_pos (by simpa using hc3)] at hq
            have he3 : ((((s.getD ((j : Nat) : Int).toNat 0).toNat : Nat) : Int) == 92) = false := by rw [hgc]; exact beq_false_of_ne (fun h => hc3 (UInt8.toNat_inj.1 (by show s[j].toNat = 92; omega)))
            have hwr := writeQ v u w b s j o ins out a ha bs s[j] (by omega)
            refine pa [.b false, .b false, .b false, .b false, .c .nili (spQ v u w (b + 1) s j o ins out (.ptr 3 0 0) (bs ++ [s[j]]))] rfl ?_ ?_
            · (repeat' with_reducible apply AllP_cons) <;> first | exact trivial | assumption | omega | rfl | exact decide_eq_true (by omega) | exact decide_eq_false (by omega) | (rw [IntWalk.i64_in _ ⟨by omega, by omega⟩]; omega) | exact allOne_mem rfl | exact Nat.le_of_ble_eq_true rfl | (simp only [List.length_cons, List.length_nil]; omega) | skip
              show CallOk cx _ [.ptr 3 0 0, .int .u8 (((s.getD ((j : Nat) : Int).toNat 0).toNat : Nat) : Int)] _ _
              rw [hgc]; exact hwr
            refine S_round ⟨j + 1, b + 1, .ptr 3 0 0, bs ++ [s[j]]⟩ (by show s.length - (j + 1) < s.length - j; omega) ⟨by show i < j + 1; omega, hlt, by show (bs ++ [s[j]]).length ≤ j + 1; simp; omega, .inr rfl, hq⟩ (.cons rfl (.cons rfl (.cons rfl (.nil _)))) ?_
            show spQI v u w (b + 1) s (IntKind.i64.wrap ((j : Nat) + 1)) o ins out (.ptr 3 0 0) (bs ++ [s[j]]) = _
            rw [hwj]; rfl
    · have hnil : s.drop j = [] := List.drop_eq_nil_of_le (by omega)
      rw [hnil, quoteS.eq_def] at hq
      simp only at hq
      refine pa [.b true, .b true] rfl ?_ ?_
      · (repeat' with_reducible apply AllP_cons) <;> first | exact trivial | assumption | omega | rfl | exact decide_eq_true (by omega) | exact decide_eq_false (by omega) | (rw [IntWalk.i64_in _ ⟨by omega, by omega⟩]; omega) | exact allOne_mem rfl | exact Nat.le_of_ble_eq_true rfl | (simp only [List.length_cons, List.length_nil]; omega) | skip
      exact S_callP rfl rfl rfl (fail_ok _ v 1 j) (fin j b a bs (by rw [quoS, ← hq]))

end Go.Proofs.YtkgmbnjdeokdkaaDoor
