/-
  Texts of our own, in one file.
-/
import Derived.Test.YtonjhfeabphaaaaGreatDoorGrpD
set_option linter.unusedVariables false
set_option linter.unusedSimpArgs false
set_option maxRecDepth 20000
set_option maxHeartbeats 4000000
section
namespace Go.Proofs.YtonjhfeabphaaaaGreatDoor
open Go Go.Ab
theorem apart_ok' (k n : Nat) (t : List UInt8) (ks : List Ex) (ns : List (List UInt8)) {b : Bool} (hb : apart (.mk k n t ks ns) = b) : Calc cx 121 [.agg [.int .i64 (k : Nat),.int .i64 (n : Nat),.str t,.sl true false 5 (exL ks),.sl true false 1 (texts ns)]] (.bool b):=by
 subst hb; exact apart_ok (.mk k n t ks ns)
theorem exT_free {st : Bool} (k n : Nat) (t : List UInt8) (ks : List Ex) (ns : List (List UInt8)) : Free st (.agg [.int .i64 (k : Nat),.int .i64 (n : Nat),.str t,.sl true false 5 (exL ks),.sl true false 1 (texts ns)]):=exA_free (st:=st) (.mk k n t ks ns)
def exBx (k n : Nat) (t : List UInt8) (ks : List Ex) (ns : List (List UInt8)) : Nat × Option Box:=(0,some (.cells [.int .i64 (k : Nat),.int .i64 (n : Nat),.str t,.sl true false 5 (exL ks),.sl true false 1 (texts ns)] ⟨false,some 54⟩))
theorem wput1 (v u : Nat) (a : AV) (ha : a = .nilp ∨ a = .ptr 0 v 0) (bs s : List UInt8) (τ : Heap) (hl : bs.length + s.length ≤ 70000000000000) :
  CallOk cx 42 [.ptr 0 v 0,.sl true true 1 [.str s]] (wrH v u a bs τ) (fun o h => o = .ret (.tup []) ∧ h = wrH v (u + 1) (.ptr 0 v 0) (bs ++ s) τ):=by
 have h:=wput_ok v u a ha bs true true [s] τ (by simp) (by exact fl) (by simp)
 rw [show [s].flatten = s by simp] at h
 exact h
theorem inner_ok (x : Ex) (p : Pcs) (h : Wr 73 x p) : Wr 104 x (brk (apart x) p):=by
 intro v u a bs ha hl
 exact callOk_trunc (callOk_introD (fun a w => Tryz.call104 a w) Tryz.func104 rfl Tryz.ntmps104 rfl fun B hB => by
  obtain ⟨k,n,t,ks,ns⟩:=x
  obtain ⟨b,hb⟩ : ∃ b,apart (.mk k n t ks ns) = b:=⟨_,rfl⟩
  have hap:=apart_ok' k n t ks ns hb
  rw [hb] at hl ⊢
  cases b with
  | false =>
   have ht:=h.tail v u a bs [exBx k n t ks ns] ha hl
   refine pa [.v (.bool false),.b false,.f (.tup []) (fun _ => wrH v (u + p.length) (.ptr 0 v 0) (bs ++ p.flatten) [exBx k n t ks ns])] rfl ?_ ?_
   ·(repeat' with_reducible apply AllP_cons) <;> try exact aC
    ·exact ⟨_,hap,.cons (.refl (exT_free k n t ks ns)) (.nil _)⟩
   exact S_nil ⟨_,rfl,_,_,rfl,trivial,wfin⟩
  | true =>
   have e1 : (brk true p).length = p.length + 2:=by show ([[40]] ++ p ++ [[41]]).length = _; exact fl
   have e2 : (brk true p).flatten = [40] ++ p.flatten ++ [41]:=by simp [brk]
   rw [e2] at hl
   rw [e1,e2]
   have hp1:=wput1 v u a ha bs [40] [exBx k n t ks ns] (by exact fl)
   have ht:=h.tail v (u + 1) (.ptr 0 v 0) (bs ++ [40]) [exBx k n t ks ns] (.inr rfl) (by exact fl)
   refine pa [.v (.bool true),.b true,.f (.tup []) (fun _ => wrH v (u + 1) (.ptr 0 v 0) (bs ++ [40]) [exBx k n t ks ns])] rfl ?_ ?_
   ·(repeat' with_reducible apply AllP_cons) <;> try exact aC
    ·exact ⟨_,hap,.cons (.refl (exT_free k n t ks ns)) (.nil _)⟩
   refine pB [] rfl ?_
   refine S_defer rfl rfl rfl rfl hB ?_
   refine pB [.f (.tup []) (fun _ => wrH v (u + 1 + p.length) (.ptr 0 v 0) (bs ++ [40] ++ p.flatten) [exBx k n t ks ns])] rfl ?_
   refine S_nil ⟨_,rfl,dput v (u + 1 + p.length) (.ptr 0 v 0) (.inr rfl) (bs ++ [40] ++ p.flatten) true true [[41]] _ _ (by decide) (by exact fl) (by simp) ⟨_,_,rfl,trivial,?_⟩⟩
   have : wrH v (u + 1 + p.length + 1) (.ptr 0 v 0) (bs ++ [40] ++ p.flatten ++ [41]) [exBx k n t ks ns] = wrH v (u + (p.length + 2)) (.ptr 0 v 0) (bs ++ ([40] ++ p.flatten ++ [41])) [exBx k n t ks ns]:=by
    rw [show u + 1 + p.length + 1 = u + (p.length + 2) by omega]; simp only [List.append_assoc]
   exact this ▸ wfin)
def Clo (g : FuncId) (caps : List AV) (v : Nat) (τ : Heap) (i : Nat) (p : Pcs) : Prop:=∀ (u : Nat) (bs : List UInt8),bs.length + p.flatten.length ≤ 70000000000000 →
 CallOk cx g ([] ++ [.int .i64 (i : Nat)] ++ caps) (wrH v u (.ptr 0 v 0) bs τ) (fun o s => o = .ret (.tup []) ∧ s = wrH v (u + p.length) (.ptr 0 v 0) (bs ++ p.flatten) τ)
theorem eachA_le (sep : List UInt8) (l : List Pcs) (i : Nat) (h : i ≤ l.length) : (eachA sep (l.take i)).flatten.length ≤ (eachA sep l).flatten.length:=by
 induction hk : l.length - i generalizing i with
 | zero =>
  rw [List.take_of_length_le (by omega)]; exact Nat.le_refl _
 | succ n ih =>
  have:=ih (i + 1) (by omega) (by omega)
  rw [eachA_take _ _ _ (by omega),List.flatten_append,List.length_append] at this
  omega
theorem each_ok (g : FuncId) (caps : List AV) (v u : Nat) (bs sep : List UInt8) (v1 v2 v3 : Nat) (c1 c2 c3 : List AV) (g1 g2 g3 : Tag) (l : List Pcs) (hn : l.length ≤ 1000000000)
  (hC : ∀ i (h : i < l.length),Clo g caps v [(v1,some (.cells c1 g1)),(v2,some (.cells c2 g2)),(v3,some (.cells c3 g3))] i l[i]) (hl : bs.length + (eachA sep l).flatten.length ≤ 70000000000000) :
  CallOk cx 101 [.ptr 0 v 0,.int .i64 (l.length : Nat),.str sep,.func (.func g) [] caps] (wrH v u (.ptr 0 v 0) bs [(v1,some (.cells c1 g1)),(v2,some (.cells c2 g2)),(v3,some (.cells c3 g3))])
   (fun o s => o = .ret (.tup []) ∧ s = wrH v (u + (eachA sep l).length) (.ptr 0 v 0) (bs ++ (eachA sep l).flatten) [(v1,some (.cells c1 g1)),(v2,some (.cells c2 g2)),(v3,some (.cells c3 g3))]) :=
 callOk_intro (fun a w => Tryz.call101 a w) Tryz.func101 rfl Tryz.ntmps101 rfl fun B => by
  refine pB [] rfl ?_
  refine S_while (α:=Nat) (fun i => [(0,.ptr 0 v 0),(2,.str sep),(3,.func (.func g) [] caps),(9,.int .i64 (l.length : Nat)),(10,.int .i64 (i : Nat))]) (fun i => wrH v (u + (eachA sep (l.take i)).length) (.ptr 0 v 0) (bs ++ (eachA sep (l.take i)).flatten) [(v1,some (.cells c1 g1)),(v2,some (.cells c2 g2)),(v3,some (.cells c3 g3))])
   (fun i => i ≤ l.length) (fun i => l.length - i) 0 (Nat.zero_le _) (.cons rfl (.cons rfl (.cons rfl (.cons rfl (.cons rfl (.nil _)))))) (by show wrH v u _ bs _ = wrH v (u + 0) _ (bs ++ []) _; simp) ?_
  intro i hi
  have hi : i ≤ l.length:=hi
  by_cases hlt : i < l.length
  ·have hle:=eachA_le sep l (i + 1) hlt
   have he:=eachA_take sep l i hlt
   have hC:=hC i hlt
   rw [he,List.flatten_append,List.flatten_append,List.length_append,List.length_append] at hle
   by_cases h0 : 0 < i
   ·rw [if_pos h0] at he hle
    simp only [List.flatten_cons,List.flatten_nil,List.append_nil] at hle
    have hp1:=wput1 v (u + (eachA sep (l.take i)).length) (.ptr 0 v 0) (.inr rfl) (bs ++ (eachA sep (l.take i)).flatten) sep [(v1,some (.cells c1 g1)),(v2,some (.cells c2 g2)),(v3,some (.cells c3 g3))] (by exact fl)
    have hc:=hC (u + (eachA sep (l.take i)).length + 1) (bs ++ (eachA sep (l.take i)).flatten ++ sep) (by exact fl)
    refine pB [.b true,.b true,.f (.tup []) (fun _ => wrH v (u + (eachA sep (l.take i)).length + 1) (.ptr 0 v 0) (bs ++ (eachA sep (l.take i)).flatten ++ sep) [(v1,some (.cells c1 g1)),(v2,some (.cells c2 g2)),(v3,some (.cells c3 g3))]),.f (.tup []) (fun _ => wrH v (u + (eachA sep (l.take i)).length + 1 + l[i].length) (.ptr 0 v 0) (bs ++ (eachA sep (l.take i)).flatten ++ sep ++ l[i].flatten) [(v1,some (.cells c1 g1)),(v2,some (.cells c2 g2)),(v3,some (.cells c3 g3))])] rfl ?_
    refine S_round (i + 1) (by show l.length - (i + 1) < l.length - i; omega) hlt (.cons rfl (.cons rfl (.cons rfl (.cons rfl (.cons (nX (by omega)) (.nil _)))))) ?_
    rw [he]
    simp only [List.length_append,List.flatten_append,List.flatten_cons,List.flatten_nil,List.append_nil,List.length_cons,List.length_nil,List.append_assoc]
    rw [show u + ((eachA sep (l.take i)).length + (0 + 1 + l[i].length)) = u + (eachA sep (l.take i)).length + 1 + l[i].length by omega]
    rfl
   ·obtain rfl : i = 0:=by omega
    rw [if_neg h0] at he hle
    have hc:=hC (u + (eachA sep (l.take 0)).length) (bs ++ (eachA sep (l.take 0)).flatten) (by exact fl)
    refine pB [.b true,.b false,.f (.tup []) (fun _ => wrH v (u + (eachA sep (l.take 0)).length + l[0].length) (.ptr 0 v 0) (bs ++ (eachA sep (l.take 0)).flatten ++ l[0].flatten) [(v1,some (.cells c1 g1)),(v2,some (.cells c2 g2)),(v3,some (.cells c3 g3))])] rfl ?_
    refine S_round (0 + 1) (by show l.length - (0 + 1) < l.length - 0; omega) hlt (.cons rfl (.cons rfl (.cons rfl (.cons rfl (.cons (nX (by omega)) (.nil _)))))) ?_
    rw [he]
    simp only [List.length_append,List.flatten_append,List.flatten_nil,List.append_nil,List.nil_append,List.length_nil,List.append_assoc,Nat.add_assoc]
    rfl
  ·obtain rfl : i = l.length:=by omega
   rw [List.take_length]
   refine pB [.b false] rfl ?_
   exact S_nil ⟨_,_,rfl,trivial,rfl,rfl⟩
def qBx (v : Nat) : Nat × Option Box:=(0,some (.cells [.ptr 0 v 0] ⟨false,none⟩))
def kBx (ks : List Ex) : Nat × Option Box:=(0,some (.cells [.sl true false 5 (exL ks)] ⟨false,none⟩))
def tH (v k n : Nat) (t : List UInt8) (ks : List Ex) (ns : List (List UInt8)) : Heap:=[qBx v,exBx k n t ks ns,kBx ks]
theorem wfinE {v u u' : Nat} {bs bs' : List UInt8} {τ : Heap} (hu : u = u') (hb : bs = bs') : TR 2 (fun o s => o = .ret (.tup []) ∧ s = wrH v u' (.ptr 0 v 0) bs' []) (.ret (.tup [])) (wrH v u (.ptr 0 v 0) bs τ):=by
 subst hu; subst hb; exact wfin
theorem exL_get {ks : List Ex} {i : Nat} (h : i < ks.length) {y : Ex} (hy : ks[i] = y) : (exL ks)[(i : Int).toNat]? = some (exA y):=by
 subst hy
 rw [exL_map,List.getElem?_map,Int.toNat_natCast,List.getElem?_eq_getElem h]; rfl
theorem clo1 (v k n : Nat) (t : List UInt8) (ks : List Ex) (ns : List (List UInt8)) (i : Nat) (h : i < ks.length) (p : Pcs) (hp : Wr 73 ks[i] p) :
  Clo 102 [.ptr 2 0 0,.ptr 4 0 0] v (tH v k n t ks ns) i p:=by
 intro u bs hl
 obtain ⟨y,hy⟩ : ∃ y,ks[i] = y:=⟨_,rfl⟩
 have he:=exL_get h hy
 rw [hy] at hp
 obtain ⟨yk,yn,yt,ys,ym⟩:=y
 have hw:=hp.tail v u (.ptr 0 v 0) bs (tH v k n t ks ns) (.inr rfl) hl
 exact callOk_intro (fun a w => Tryz.call102 a w) Tryz.func102 rfl Tryz.ntmps102 rfl fun B => by
  refine pB [.v (exA (.mk yk yn yt ys ym)),.f (.tup []) (fun _ => wrH v (u + p.length) (.ptr 0 v 0) (bs ++ p.flatten) (tH v k n t ks ns))] rfl ?_
  exact S_nil ⟨_,_,rfl,trivial,rfl,rfl⟩
theorem clo2 (v k n : Nat) (t : List UInt8) (ks : List Ex) (ns : List (List UInt8)) (i : Nat) (h : i < ks.length) (p : Pcs) (hp : Wr 73 ks[i] p) (hn : ks.length ≤ 1000000) :
  Clo 103 [.ptr 2 0 0,.ptr 4 0 0] v (tH v k n t ks ns) i ((if 0 < i then [sepD i] else []) ++ p):=by
 intro u bs hl
 obtain ⟨y,hy⟩ : ∃ y,ks[i] = y:=⟨_,rfl⟩
 have he:=exL_get h hy
 rw [hy] at hp
 obtain ⟨yk,yn,yt,ys,ym⟩:=y
 have hmd : (i : Int).tmod 2 = ((i % 2 : Nat) : Int):=by rw [Int.tmod_eq_emod_of_nonneg (by omega)]; rfl
 by_cases h0 : 0 < i
 ·rw [if_pos h0] at hl ⊢
  have hl' : bs.length + (sepD i).length + p.flatten.length ≤ 70000000000000:=by exact fl
  have h1:=wput1 v u (.ptr 0 v 0) (.inr rfl) bs (sepD i) (tH v k n t ks ns) (by omega)
  have hw:=hp.tail v (u + 1) (.ptr 0 v 0) (bs ++ sepD i) (tH v k n t ks ns) (.inr rfl) (by exact fl)
  exact callOk_intro (fun a w => Tryz.call103 a w) Tryz.func103 rfl Tryz.ntmps103 rfl fun B => by
   refine pa [.b true,.v (.str (sepD i)),.f (.tup []) (fun _ => wrH v (u + 1) (.ptr 0 v 0) (bs ++ sepD i) (tH v k n t ks ns)),.v (exA (.mk yk yn yt ys ym)),.f (.tup []) (fun _ => wrH v (u + 1 + p.length) (.ptr 0 v 0) (bs ++ sepD i ++ p.flatten) (tH v k n t ks ns))] rfl ?_ ?_
   ·(repeat' with_reducible apply AllP_cons) <;> try exact aC
    ·rw [hmd,Int.toNat_natCast]
     unfold sepD
     rcases Nat.mod_two_eq_zero_or_one i with h | h <;> rw [h] <;> rfl
   refine S_nil ⟨_,_,rfl,trivial,rfl,?_⟩
   show wrH _ _ _ _ _ = wrH _ _ _ _ _
   simp only [List.length_append,List.length_cons,List.length_nil,List.flatten_append,List.flatten_cons,List.flatten_nil,List.append_nil,List.append_assoc]
   rw [show u + (0 + 1 + p.length) = u + 1 + p.length by omega]
   rfl
 ·rw [if_neg h0] at hl ⊢
  have hw:=hp.tail v u (.ptr 0 v 0) bs (tH v k n t ks ns) (.inr rfl) hl
  exact callOk_intro (fun a w => Tryz.call103 a w) Tryz.func103 rfl Tryz.ntmps103 rfl fun B => by
   refine pB [.b false,.v (exA (.mk yk yn yt ys ym)),.f (.tup []) (fun _ => wrH v (u + p.length) (.ptr 0 v 0) (bs ++ p.flatten) (tH v k n t ks ns))] rfl ?_
   exact S_nil ⟨_,_,rfl,trivial,rfl,rfl⟩
theorem clo3 (v k n : Nat) (t : List UInt8) (ks : List Ex) (ns : List (List UInt8)) (i : Nat) (h : i + 1 < ks.length) (p : Pcs) (hp : Wr 73 ks[i + 1] p) (hn : ks.length ≤ 1000000) (hm : ns.length + 1 ≤ ks.length) :
  Clo 105 [.ptr 4 0 0,.ptr 3 0 0,.ptr 2 0 0] v (tH v k n t ks ns) i ((if ks.length - 1 - ns.length ≤ i then [ns.getD (i - (ks.length - 1 - ns.length)) [],[61]] else []) ++ p):=by
 intro u bs hl
 obtain ⟨y,hy⟩ : ∃ y,ks[i + 1] = y:=⟨_,rfl⟩
 have he:=exL_get h hy
 rw [hy] at hp
 obtain ⟨yk,yn,yt,ys,ym⟩:=y
 have hln : (exL ks).length = ks.length:=by rw [exL_map]; simp
 have htn:=texts_len ns
 have hwr : IntKind.i64.wrap ((i : Int) - IntKind.i64.wrap (IntKind.i64.wrap (((exL ks).length : Nat) - 1) - ((texts ns).length : Nat))) = (i : Int) - ((ks.length : Int) - 1 - (ns.length : Int)):=by
  rw [hln,htn,IntWalk.i64_in ((ks.length : Int) - 1) ⟨by omega,by omega⟩,IntWalk.i64_in ((ks.length : Int) - 1 - (ns.length : Int)) ⟨by omega,by omega⟩,IntWalk.i64_in _ ⟨by omega,by omega⟩]
 have hw1 : IntKind.i64.wrap ((i : Int) + 1) = ((i + 1 : Nat) : Int):=by rw [IntWalk.i64_in _ ⟨by omega,by omega⟩]; rfl
 by_cases h0 : ks.length - 1 - ns.length ≤ i
 ·rw [if_pos h0] at hl ⊢
  obtain ⟨j,hj⟩ : ∃ j,j = i - (ks.length - 1 - ns.length):=⟨_,rfl⟩
  rw [← hj] at hl ⊢
  have hjl : j < ns.length:=by omega
  have hjs : ns.getD j [] = ns[j]:=by simp [List.getD,hjl]
  rw [hjs] at hl ⊢
  have hel : (texts ns)[(j : Int).toNat]? = some (.str ns[j]):=texts_get hjl
  have h1:=wput_ok v u (.ptr 0 v 0) (.inr rfl) bs true true [ns[j],[61]] (tH v k n t ks ns) (by simp) (by exact fl) (by simp)
  rw [show [ns[j],[61]].flatten = ns[j] ++ [61] by simp] at h1
  have hw:=hp.tail v (u + 2) (.ptr 0 v 0) (bs ++ (ns[j] ++ [61])) (tH v k n t ks ns) (.inr rfl) (by exact fl)
  exact callOk_intro (fun a w => Tryz.call105 a w) Tryz.func105 rfl Tryz.ntmps105 rfl fun B => by
   refine pa [.b true,.v (.str ns[j]),.f (.tup []) (fun _ => wrH v (u + 2) (.ptr 0 v 0) (bs ++ (ns[j] ++ [61])) (tH v k n t ks ns)),.v (exA (.mk yk yn yt ys ym)),.f (.tup []) (fun _ => wrH v (u + 2 + p.length) (.ptr 0 v 0) (bs ++ (ns[j] ++ [61]) ++ p.flatten) (tH v k n t ks ns))] rfl ?_ ?_
   ·(repeat' with_reducible apply AllP_cons) <;> try exact aC
    ·rw [hwr,show (i : Int) - ((ks.length : Int) - 1 - (ns.length : Int)) = (j : Int) by omega]; exact hel
    ·rw [hw1]; exact he
   refine S_nil ⟨_,_,rfl,trivial,rfl,?_⟩
   show wrH _ _ _ _ _ = wrH _ _ _ _ _
   simp only [List.length_append,List.length_cons,List.length_nil,List.flatten_append,List.flatten_cons,List.flatten_nil,List.append_nil,List.append_assoc]
   rw [show u + (0 + 1 + 1 + p.length) = u + 2 + p.length by omega]
   rfl
 ·rw [if_neg h0] at hl ⊢
  have hw:=hp.tail v u (.ptr 0 v 0) bs (tH v k n t ks ns) (.inr rfl) hl
  exact callOk_intro (fun a w => Tryz.call105 a w) Tryz.func105 rfl Tryz.ntmps105 rfl fun B => by
   refine pa [.b false,.v (exA (.mk yk yn yt ys ym)),.f (.tup []) (fun _ => wrH v (u + p.length) (.ptr 0 v 0) (bs ++ p.flatten) (tH v k n t ks ns))] rfl ?_ ?_
   ·(repeat' with_reducible apply AllP_cons) <;> try exact aC
    ·rw [hw1]; exact he
   exact S_nil ⟨_,_,rfl,trivial,rfl,rfl⟩
abbrev WX:=73
theorem wex1 (n : Nat) (t : List UInt8) (ks : List Ex) (ns : List (List UInt8)) : Wr WX (.mk 1 n t ks ns) [wNone]:=by
 intro v u a bs ha hl
 exact callOk_introT (fun a w => Tryz.call73 a w) Tryz.func73 rfl Tryz.ntmps73 rfl fun B => by
  have h1:=wput1 v u a ha bs wNone (tH v 1 n t ks ns) (by exact fl)
  refine pB [.b true,.b true,.v (.str wNone),.f (.tup []) (fun _ => wrH v (u + 1) (.ptr 0 v 0) (bs ++ wNone) (tH v 1 n t ks ns))] rfl ?_
  exact S_nil ⟨_,_,rfl,trivial,wfinE rfl (by simp)⟩
theorem wex2 (n : Nat) (t : List UInt8) (ks : List Ex) (ns : List (List UInt8)) : Wr WX (.mk 2 n t ks ns) [wTrue]:=by
 intro v u a bs ha hl
 exact callOk_introT (fun a w => Tryz.call73 a w) Tryz.func73 rfl Tryz.ntmps73 rfl fun B => by
  have h1:=wput1 v u a ha bs wTrue (tH v 2 n t ks ns) (by exact fl)
  refine pB [.b false,.b true,.b true,.v (.str wTrue),.f (.tup []) (fun _ => wrH v (u + 1) (.ptr 0 v 0) (bs ++ wTrue) (tH v 2 n t ks ns))] rfl ?_
  exact S_nil ⟨_,_,rfl,trivial,wfinE rfl (by simp)⟩
theorem wex3 (n : Nat) (t : List UInt8) (ks : List Ex) (ns : List (List UInt8)) : Wr WX (.mk 3 n t ks ns) [wFalse]:=by
 intro v u a bs ha hl
 exact callOk_introT (fun a w => Tryz.call73 a w) Tryz.func73 rfl Tryz.ntmps73 rfl fun B => by
  have h1:=wput1 v u a ha bs wFalse (tH v 3 n t ks ns) (by exact fl)
  refine pB [.b false,.b false,.b true,.v (.str wFalse),.f (.tup []) (fun _ => wrH v (u + 1) (.ptr 0 v 0) (bs ++ wFalse) (tH v 3 n t ks ns))] rfl ?_
  exact S_nil ⟨_,_,rfl,trivial,wfinE rfl (by simp)⟩
theorem wex4 (n : Nat) (hn : n ≤ 9007199254740991) (t : List UInt8) (ks : List Ex) (ns : List (List UInt8)) : Wr WX (.mk 4 n t ks ns) [Lib.itoa n]:=by
 intro v u a bs ha hl
 exact callOk_introT (fun a w => Tryz.call73 a w) Tryz.func73 rfl Tryz.ntmps73 rfl fun B => by
  have h0:=Itoa_ok (n : Nat) (by omega) (by omega)
  have h1:=wput1 v u a ha bs (Lib.itoa n) (tH v 4 n t ks ns) (by exact fl)
  refine pa [.b false,.b false,.b false,.b true,.v (.str (Lib.itoa n)),.f (.tup []) (fun _ => wrH v (u + 1) (.ptr 0 v 0) (bs ++ Lib.itoa n) (tH v 4 n t ks ns))] rfl ?_ ?_
  ·(repeat' with_reducible apply AllP_cons) <;> try exact aC
   exact ⟨_,h0,.cons (.refl .int) (.nil _)⟩
  exact S_nil ⟨_,_,rfl,trivial,wfinE rfl (by simp)⟩
theorem quoT_ge (t : List UInt8) : t.length + 2 ≤ (quoT t).length:=by
 have h : ∀ t : List UInt8,t.length ≤ (t.flatMap quoC).length:=fun t => by
  induction t with
  | nil => exact Nat.le_refl _
  | cons c r ih =>
   have : 1 ≤ (quoC c).length:=by unfold quoC; (repeat' split) <;> simp
   rw [List.flatMap_cons,List.length_append,List.length_cons]; omega
 have:=h t
 unfold quoT; exact fl
theorem wex5 (n : Nat) (t : List UInt8) (ks : List Ex) (ns : List (List UInt8)) : Wr WX (.mk 5 n t ks ns) [quoT t]:=by
 intro v u a bs ha hl
 have hge:=quoT_ge t
 exact callOk_introT (fun a w => Tryz.call73 a w) Tryz.func73 rfl Tryz.ntmps73 rfl fun B => by
  have h0:=Quote_ok t (by exact fl)
  have h1:=wput1 v u a ha bs (quoT t) (tH v 5 n t ks ns) (by exact fl)
  refine pa [.b false,.b false,.b false,.b false,.b true,.v (.str (quoT t)),.f (.tup []) (fun _ => wrH v (u + 1) (.ptr 0 v 0) (bs ++ quoT t) (tH v 5 n t ks ns))] rfl ?_ ?_
  ·(repeat' with_reducible apply AllP_cons) <;> try exact aC
   exact ⟨_,h0,.cons (.refl .str) (.nil _)⟩
  exact S_nil ⟨_,_,rfl,trivial,wfinE rfl (by simp)⟩
theorem wex6 (n : Nat) (t : List UInt8) (ks : List Ex) (ns : List (List UInt8)) : Wr WX (.mk 6 n t ks ns) [t]:=by
 intro v u a bs ha hl
 exact callOk_introT (fun a w => Tryz.call73 a w) Tryz.func73 rfl Tryz.ntmps73 rfl fun B => by
  have h1:=wput1 v u a ha bs t (tH v 6 n t ks ns) (by exact fl)
  refine pB [.b false,.b false,.b false,.b false,.b false,.b true,.f (.tup []) (fun _ => wrH v (u + 1) (.ptr 0 v 0) (bs ++ t) (tH v 6 n t ks ns))] rfl ?_
  exact S_nil ⟨_,_,rfl,trivial,wfinE rfl (by simp)⟩
theorem wex7 (n : Nat) (t : List UInt8) (ks : List Ex) (ns : List (List UInt8)) (hks : ∀ x ∈ ks,Wr WX x (exW x)) (hz : ks.length ≤ 1000000) : Wr WX (.mk 7 n t ks ns) ([[91]] ++ eachA [44,32] ((exWs ks).map (·.2)) ++ [[93]]):=by
 intro v u a bs ha hl
 obtain ⟨l,hL⟩ : ∃ l,l = (exWs ks).map (·.2):=⟨_,rfl⟩
 rw [← hL] at hl ⊢
 have hll : l.length = ks.length:=by rw [hL,exWs_map]; simp
 have hlk : (exL ks).length = l.length:=by rw [exL_map,hll]; simp
 have hli : ∀ i (h : i < l.length),l[i] = exW ks[i]:=fun i h => by subst hL; simp [exWs_map]
 exact callOk_introT (fun a w => Tryz.call73 a w) Tryz.func73 rfl Tryz.ntmps73 rfl fun B => by
  have h1:=wput1 v u a ha bs [91] (tH v 7 n t ks ns) (by exact fl)
  have h2:=each_ok 102 [.ptr 2 0 0,.ptr 4 0 0] v (u + 1) (bs ++ [91]) [44,32] 0 0 0 _ _ _ _ _ _ l (by omega) (fun i h => by
   rw [hli i h]; exact clo1 v 7 n t ks ns i (by omega) _ (hks _ (List.getElem_mem _))) (by exact fl)
  rw [← hlk] at h2
  have h3:=wput1 v (u + 1 + (eachA [44,32] l).length) (.ptr 0 v 0) (.inr rfl) (bs ++ [91] ++ (eachA [44,32] l).flatten) [93] (tH v 7 n t ks ns) (by exact fl)
  refine pB [.b false,.b false,.b false,.b false,.b false,.b false,.b true,.f (.tup []) (fun _ => wrH v (u + 1) (.ptr 0 v 0) (bs ++ [91]) (tH v 7 n t ks ns)),.f (.tup []) (fun _ => wrH v (u + 1 + (eachA [44,32] l).length) (.ptr 0 v 0) (bs ++ [91] ++ (eachA [44,32] l).flatten) (tH v 7 n t ks ns)),.f (.tup []) (fun _ => wrH v (u + 1 + (eachA [44,32] l).length + 1) (.ptr 0 v 0) (bs ++ [91] ++ (eachA [44,32] l).flatten ++ [93]) (tH v 7 n t ks ns))] rfl ?_
  exact S_nil ⟨_,_,rfl,trivial,wfinE (by exact fl) (by simp)⟩
theorem wex8 (n : Nat) (t : List UInt8) (ks : List Ex) (ns : List (List UInt8)) (hks : ∀ x ∈ ks,Wr WX x (exW x)) (hz : ks.length ≤ 1000000) : Wr WX (.mk 8 n t ks ns) ([[123]] ++ eachA [] (dictA (exWs ks)) ++ [[125]]):=by
 intro v u a bs ha hl
 obtain ⟨l,hL⟩ : ∃ l,l = dictA (exWs ks):=⟨_,rfl⟩
 rw [← hL] at hl ⊢
 have hll : l.length = ks.length:=by rw [hL,exWs_map]; simp [dictA]
 have hlk : (exL ks).length = l.length:=by rw [exL_map,hll]; simp
 have hli : ∀ i (h : i < l.length),l[i] = (if 0 < i then [sepD i] else []) ++ exW ks[i]:=fun i h => by subst hL; simp [exWs_map,dictA]
 exact callOk_introT (fun a w => Tryz.call73 a w) Tryz.func73 rfl Tryz.ntmps73 rfl fun B => by
  have h1:=wput1 v u a ha bs [123] (tH v 8 n t ks ns) (by exact fl)
  have h2:=each_ok 103 [.ptr 2 0 0,.ptr 4 0 0] v (u + 1) (bs ++ [123]) [] 0 0 0 _ _ _ _ _ _ l (by omega) (fun i h => by
   rw [hli i h]; exact clo2 v 8 n t ks ns i (by omega) _ (hks _ (List.getElem_mem _)) hz) (by exact fl)
  rw [← hlk] at h2
  have h3:=wput1 v (u + 1 + (eachA [] l).length) (.ptr 0 v 0) (.inr rfl) (bs ++ [123] ++ (eachA [] l).flatten) [125] (tH v 8 n t ks ns) (by exact fl)
  refine pB [.b false,.b false,.b false,.b false,.b false,.b false,.b false,.b true,.f (.tup []) (fun _ => wrH v (u + 1) (.ptr 0 v 0) (bs ++ [123]) (tH v 8 n t ks ns)),.f (.tup []) (fun _ => wrH v (u + 1 + (eachA [] l).length) (.ptr 0 v 0) (bs ++ [123] ++ (eachA [] l).flatten) (tH v 8 n t ks ns)),.f (.tup []) (fun _ => wrH v (u + 1 + (eachA [] l).length + 1) (.ptr 0 v 0) (bs ++ [123] ++ (eachA [] l).flatten ++ [125]) (tH v 8 n t ks ns))] rfl ?_
  exact S_nil ⟨_,_,rfl,trivial,wfinE (by exact fl) (by simp)⟩
theorem wex9a (n : Nat) (t : List UInt8) (x y : Ex) (ns : List (List UInt8)) (p q : Pcs) (hx : Wr WX x p) (hy : Wr WX y q) : Wr WX (.mk 9 n t [x,y] ns) ([[91]] ++ p ++ [[32,102,111,114,32],t,[32,105,110,32]] ++ q ++ [[93]]):=by
 intro v u a bs ha hl
 obtain ⟨xk,xn,xt,xs,xm⟩:=x
 obtain ⟨yk,yn,yt,ys,ym⟩:=y
 exact callOk_introT (fun a w => Tryz.call73 a w) Tryz.func73 rfl Tryz.ntmps73 rfl fun B => by
  obtain ⟨X,hX⟩ : ∃ X,X = Ex.mk xk xn xt xs xm:=⟨_,rfl⟩
  have h1:=wput1 v u a ha bs [91] (tH v 9 n t [.mk xk xn xt xs xm,.mk yk yn yt ys ym] ns) (by exact fl)
  have h2:=hx.tail v (u + 1) (.ptr 0 v 0) (bs ++ [91]) (tH v 9 n t [.mk xk xn xt xs xm,.mk yk yn yt ys ym] ns) (.inr rfl) (by exact fl)
  have h3:=wput_ok v (u + 1 + p.length) (.ptr 0 v 0) (.inr rfl) (bs ++ [91] ++ p.flatten) true true [[32,102,111,114,32],t,[32,105,110,32]] (tH v 9 n t [.mk xk xn xt xs xm,.mk yk yn yt ys ym] ns) (by simp) (by exact fl) (by simp)
  have h4:=hy.tail v (u + 1 + p.length + 3) (.ptr 0 v 0) (bs ++ [91] ++ p.flatten ++ [[32,102,111,114,32],t,[32,105,110,32]].flatten) (tH v 9 n t [.mk xk xn xt xs xm,.mk yk yn yt ys ym] ns) (.inr rfl) (by exact fl)
  have h5:=wput1 v (u + 1 + p.length + 3 + q.length) (.ptr 0 v 0) (.inr rfl) (bs ++ [91] ++ p.flatten ++ [[32,102,111,114,32],t,[32,105,110,32]].flatten ++ q.flatten) [93] (tH v 9 n t [.mk xk xn xt xs xm,.mk yk yn yt ys ym] ns) (by exact fl)
  refine pB [.b false,.b false,.b false,.b false,.b false,.b false,.b false,.b false,.b true,.f (.tup []) (fun _ => wrH v (u + 1) (.ptr 0 v 0) (bs ++ [91]) (tH v 9 n t [.mk xk xn xt xs xm,.mk yk yn yt ys ym] ns)),
   .v (exA (.mk xk xn xt xs xm)),.f (.tup []) (fun _ => wrH v (u + 1 + p.length) (.ptr 0 v 0) (bs ++ [91] ++ p.flatten) (tH v 9 n t [.mk xk xn xt xs xm,.mk yk yn yt ys ym] ns)),
   .f (.tup []) (fun _ => wrH v (u + 1 + p.length + 3) (.ptr 0 v 0) (bs ++ [91] ++ p.flatten ++ [[32,102,111,114,32],t,[32,105,110,32]].flatten) (tH v 9 n t [.mk xk xn xt xs xm,.mk yk yn yt ys ym] ns)),
   .v (exA (.mk yk yn yt ys ym)),.f (.tup []) (fun _ => wrH v (u + 1 + p.length + 3 + q.length) (.ptr 0 v 0) (bs ++ [91] ++ p.flatten ++ [[32,102,111,114,32],t,[32,105,110,32]].flatten ++ q.flatten) (tH v 9 n t [.mk xk xn xt xs xm,.mk yk yn yt ys ym] ns)),
   .b false,.f (.tup []) (fun _ => wrH v (u + 1 + p.length + 3 + q.length + 1) (.ptr 0 v 0) (bs ++ [91] ++ p.flatten ++ [[32,102,111,114,32],t,[32,105,110,32]].flatten ++ q.flatten ++ [93]) (tH v 9 n t [.mk xk xn xt xs xm,.mk yk yn yt ys ym] ns))] rfl ?_
  exact S_nil ⟨_,_,rfl,trivial,wfinE (by exact fl) (by simp)⟩
theorem wex9b (n : Nat) (t : List UInt8) (x y z : Ex) (ns : List (List UInt8)) (p q r : Pcs) (hx : Wr WX x p) (hy : Wr WX y q) (hz : Wr WX z r) : Wr WX (.mk 9 n t [x,y,z] ns) ([[91]] ++ p ++ [[32,102,111,114,32],t,[32,105,110,32]] ++ q ++ ([[32,105,102,32]] ++ r) ++ [[93]]):=by
 intro v u a bs ha hl
 obtain ⟨xk,xn,xt,xs,xm⟩:=x
 obtain ⟨yk,yn,yt,ys,ym⟩:=y
 obtain ⟨zk,zn,zt,zs,zm⟩:=z
 obtain ⟨τ,hτ⟩ : ∃ τ,τ = tH v 9 n t [.mk xk xn xt xs xm,.mk yk yn yt ys ym,.mk zk zn zt zs zm] ns:=⟨_,rfl⟩
 have h1:=wput1 v u a ha bs [91] τ (by exact fl)
 have h2:=hx.tail v (u + 1) (.ptr 0 v 0) (bs ++ [91]) τ (.inr rfl) (by exact fl)
 have h3:=wput_ok v (u + 1 + p.length) (.ptr 0 v 0) (.inr rfl) (bs ++ [91] ++ p.flatten) true true [[32,102,111,114,32],t,[32,105,110,32]] τ (by simp) (by exact fl) (by simp)
 have h4:=hy.tail v (u + 1 + p.length + 3) (.ptr 0 v 0) (bs ++ [91] ++ p.flatten ++ [[32,102,111,114,32],t,[32,105,110,32]].flatten) τ (.inr rfl) (by exact fl)
 have h5:=wput1 v (u + 1 + p.length + 3 + q.length) (.ptr 0 v 0) (.inr rfl) (bs ++ [91] ++ p.flatten ++ [[32,102,111,114,32],t,[32,105,110,32]].flatten ++ q.flatten) [32,105,102,32] τ (by exact fl)
 have h6:=hz.tail v (u + 1 + p.length + 3 + q.length + 1) (.ptr 0 v 0) (bs ++ [91] ++ p.flatten ++ [[32,102,111,114,32],t,[32,105,110,32]].flatten ++ q.flatten ++ [32,105,102,32]) τ (.inr rfl) (by exact fl)
 have h7:=wput1 v (u + 1 + p.length + 3 + q.length + 1 + r.length) (.ptr 0 v 0) (.inr rfl) (bs ++ [91] ++ p.flatten ++ [[32,102,111,114,32],t,[32,105,110,32]].flatten ++ q.flatten ++ [32,105,102,32] ++ r.flatten) [93] τ (by exact fl)
 subst hτ
 exact callOk_introT (fun a w => Tryz.call73 a w) Tryz.func73 rfl Tryz.ntmps73 rfl fun B => by
  refine pB [.b false,.b false,.b false,.b false,.b false,.b false,.b false,.b false,.b true,.f (.tup []) (fun _ => wrH v (u + 1) (.ptr 0 v 0) (bs ++ [91]) (tH v 9 n t [.mk xk xn xt xs xm,.mk yk yn yt ys ym,.mk zk zn zt zs zm] ns)),
   .v (exA (.mk xk xn xt xs xm)),.f (.tup []) (fun _ => wrH v (u + 1 + p.length) (.ptr 0 v 0) (bs ++ [91] ++ p.flatten) (tH v 9 n t [.mk xk xn xt xs xm,.mk yk yn yt ys ym,.mk zk zn zt zs zm] ns)),
   .f (.tup []) (fun _ => wrH v (u + 1 + p.length + 3) (.ptr 0 v 0) (bs ++ [91] ++ p.flatten ++ [[32,102,111,114,32],t,[32,105,110,32]].flatten) (tH v 9 n t [.mk xk xn xt xs xm,.mk yk yn yt ys ym,.mk zk zn zt zs zm] ns)),
   .v (exA (.mk yk yn yt ys ym)),.f (.tup []) (fun _ => wrH v (u + 1 + p.length + 3 + q.length) (.ptr 0 v 0) (bs ++ [91] ++ p.flatten ++ [[32,102,111,114,32],t,[32,105,110,32]].flatten ++ q.flatten) (tH v 9 n t [.mk xk xn xt xs xm,.mk yk yn yt ys ym,.mk zk zn zt zs zm] ns)),
   .b true,.f (.tup []) (fun _ => wrH v (u + 1 + p.length + 3 + q.length + 1) (.ptr 0 v 0) (bs ++ [91] ++ p.flatten ++ [[32,102,111,114,32],t,[32,105,110,32]].flatten ++ q.flatten ++ [32,105,102,32]) (tH v 9 n t [.mk xk xn xt xs xm,.mk yk yn yt ys ym,.mk zk zn zt zs zm] ns)),
   .v (exA (.mk zk zn zt zs zm)),.f (.tup []) (fun _ => wrH v (u + 1 + p.length + 3 + q.length + 1 + r.length) (.ptr 0 v 0) (bs ++ [91] ++ p.flatten ++ [[32,102,111,114,32],t,[32,105,110,32]].flatten ++ q.flatten ++ [32,105,102,32] ++ r.flatten) (tH v 9 n t [.mk xk xn xt xs xm,.mk yk yn yt ys ym,.mk zk zn zt zs zm] ns)),
   .f (.tup []) (fun _ => wrH v (u + 1 + p.length + 3 + q.length + 1 + r.length + 1) (.ptr 0 v 0) (bs ++ [91] ++ p.flatten ++ [[32,102,111,114,32],t,[32,105,110,32]].flatten ++ q.flatten ++ [32,105,102,32] ++ r.flatten ++ [93]) (tH v 9 n t [.mk xk xn xt xs xm,.mk yk yn yt ys ym,.mk zk zn zt zs zm] ns))] rfl ?_
  exact S_nil ⟨_,_,rfl,trivial,wfinE (by exact fl) (by simp)⟩
theorem wex10 (n : Nat) (t : List UInt8) (x : Ex) (r : List Ex) (ns : List (List UInt8)) (p : Pcs) (hx : Wr WX x p) (hks : ∀ x ∈ r,Wr WX x (exW x)) (hz : r.length < 1000000) (hm : ns.length ≤ r.length) :
  Wr WX (.mk 10 n t (x :: r) ns) (brk (apart x) p ++ [[40]] ++ eachA [44,32] (callPs ns (exWs r)) ++ [[41]]):=by
 intro v u a bs ha hl
 obtain ⟨q,hq⟩ : ∃ q,q = brk (apart x) p:=⟨_,rfl⟩
 have hx:=inner_ok x p hx
 rw [← hq] at hl hx ⊢
 clear hq
 obtain ⟨l,hL⟩ : ∃ l,l = callPs ns (exWs r):=⟨_,rfl⟩
 rw [← hL] at hl ⊢
 have hll : l.length = r.length:=by rw [hL,exWs_map]; simp [callPs]
 have hlk : (exL (x :: r)).length = l.length + 1:=by rw [exL_map,hll]; simp
 have hli : ∀ i (h : i < l.length),l[i] = (if (x :: r).length - 1 - ns.length ≤ i then [ns.getD (i - ((x :: r).length - 1 - ns.length)) [],[61]] else []) ++ exW r[i]:=fun i h => by subst hL; simp [exWs_map,callPs]
 obtain ⟨xk,xn,xt,xs,xm⟩:=x
 have h1:=hx.tail v u a bs (tH v 10 n t (.mk xk xn xt xs xm :: r) ns) ha (by exact fl)
 have h2:=wput1 v (u + q.length) (.ptr 0 v 0) (.inr rfl) (bs ++ q.flatten) [40] (tH v 10 n t (.mk xk xn xt xs xm :: r) ns) (by exact fl)
 have h3:=each_ok 105 [.ptr 4 0 0,.ptr 3 0 0,.ptr 2 0 0] v (u + q.length + 1) (bs ++ q.flatten ++ [40]) [44,32] 0 0 0 _ _ _ _ _ _ l (by omega) (fun i h => by
   rw [hli i h]; exact clo3 v 10 n t (.mk xk xn xt xs xm :: r) ns i (by simp only [List.length_cons]; omega) _ (hks _ (List.getElem_mem (l:=r) (by omega))) (by simp only [List.length_cons]; omega) (by simp only [List.length_cons]; omega)) (by exact fl)
 have hc : (l.length : Int) = IntKind.i64.wrap (((exL (.mk xk xn xt xs xm :: r)).length : Nat) - 1):=by rw [IntWalk.i64_in _ ⟨by omega,by omega⟩]; omega
 rw [hc] at h3
 have h4:=wput1 v (u + q.length + 1 + (eachA [44,32] l).length) (.ptr 0 v 0) (.inr rfl) (bs ++ q.flatten ++ [40] ++ (eachA [44,32] l).flatten) [41] (tH v 10 n t (.mk xk xn xt xs xm :: r) ns) (by exact fl)
 exact callOk_introT (fun a w => Tryz.call73 a w) Tryz.func73 rfl Tryz.ntmps73 rfl fun B => by
  refine pB [.b false,.b false,.b false,.b false,.b false,.b false,.b false,.b false,.b false,.b true,.v (exA (.mk xk xn xt xs xm)),.f (.tup []) (fun _ => wrH v (u + q.length) (.ptr 0 v 0) (bs ++ q.flatten) (tH v 10 n t (.mk xk xn xt xs xm :: r) ns)),
   .f (.tup []) (fun _ => wrH v (u + q.length + 1) (.ptr 0 v 0) (bs ++ q.flatten ++ [40]) (tH v 10 n t (.mk xk xn xt xs xm :: r) ns)),
   .f (.tup []) (fun _ => wrH v (u + q.length + 1 + (eachA [44,32] l).length) (.ptr 0 v 0) (bs ++ q.flatten ++ [40] ++ (eachA [44,32] l).flatten) (tH v 10 n t (.mk xk xn xt xs xm :: r) ns)),
   .f (.tup []) (fun _ => wrH v (u + q.length + 1 + (eachA [44,32] l).length + 1) (.ptr 0 v 0) (bs ++ q.flatten ++ [40] ++ (eachA [44,32] l).flatten ++ [41]) (tH v 10 n t (.mk xk xn xt xs xm :: r) ns))] rfl ?_
  exact S_nil ⟨_,_,rfl,trivial,wfinE (by exact fl) (by simp)⟩
theorem wex11 (n : Nat) (t : List UInt8) (x y : Ex) (ns : List (List UInt8)) (p r : Pcs) (hx : Wr WX x p) (hy : Wr WX y r) : Wr WX (.mk 11 n t [x,y] ns) (brk (apart x) p ++ [[91]] ++ r ++ [[93]]):=by
 intro v u a bs ha hl
 obtain ⟨q,hq⟩ : ∃ q,q = brk (apart x) p:=⟨_,rfl⟩
 have hx:=inner_ok x p hx
 rw [← hq] at hl hx ⊢
 clear hq
 obtain ⟨xk,xn,xt,xs,xm⟩:=x
 obtain ⟨yk,yn,yt,ys,ym⟩:=y
 have h1:=hx.tail v u a bs (tH v 11 n t [.mk xk xn xt xs xm,.mk yk yn yt ys ym] ns) ha (by exact fl)
 have h2:=wput1 v (u + q.length) (.ptr 0 v 0) (.inr rfl) (bs ++ q.flatten) [91] (tH v 11 n t [.mk xk xn xt xs xm,.mk yk yn yt ys ym] ns) (by exact fl)
 have h3:=hy.tail v (u + q.length + 1) (.ptr 0 v 0) (bs ++ q.flatten ++ [91]) (tH v 11 n t [.mk xk xn xt xs xm,.mk yk yn yt ys ym] ns) (.inr rfl) (by exact fl)
 have h4:=wput1 v (u + q.length + 1 + r.length) (.ptr 0 v 0) (.inr rfl) (bs ++ q.flatten ++ [91] ++ r.flatten) [93] (tH v 11 n t [.mk xk xn xt xs xm,.mk yk yn yt ys ym] ns) (by exact fl)
 exact callOk_introT (fun a w => Tryz.call73 a w) Tryz.func73 rfl Tryz.ntmps73 rfl fun B => by
  refine pB [.b false,.b false,.b false,.b false,.b false,.b false,.b false,.b false,.b false,.b false,.b true,.v (exA (.mk xk xn xt xs xm)),.f (.tup []) (fun _ => wrH v (u + q.length) (.ptr 0 v 0) (bs ++ q.flatten) (tH v 11 n t [.mk xk xn xt xs xm,.mk yk yn yt ys ym] ns)),
   .f (.tup []) (fun _ => wrH v (u + q.length + 1) (.ptr 0 v 0) (bs ++ q.flatten ++ [91]) (tH v 11 n t [.mk xk xn xt xs xm,.mk yk yn yt ys ym] ns)),
   .v (exA (.mk yk yn yt ys ym)),.f (.tup []) (fun _ => wrH v (u + q.length + 1 + r.length) (.ptr 0 v 0) (bs ++ q.flatten ++ [91] ++ r.flatten) (tH v 11 n t [.mk xk xn xt xs xm,.mk yk yn yt ys ym] ns)),
   .f (.tup []) (fun _ => wrH v (u + q.length + 1 + r.length + 1) (.ptr 0 v 0) (bs ++ q.flatten ++ [91] ++ r.flatten ++ [93]) (tH v 11 n t [.mk xk xn xt xs xm,.mk yk yn yt ys ym] ns))] rfl ?_
  exact S_nil ⟨_,_,rfl,trivial,wfinE (by exact fl) (by simp)⟩
theorem wex12 (n : Nat) (t : List UInt8) (x : Ex) (ns : List (List UInt8)) (p : Pcs) (hx : Wr WX x p) : Wr WX (.mk 12 n t [x] ns) ([[110,111,116,32]] ++ brk (apart x) p):=by
 intro v u a bs ha hl
 obtain ⟨q,hq⟩ : ∃ q,q = brk (apart x) p:=⟨_,rfl⟩
 have hx:=inner_ok x p hx
 rw [← hq] at hl hx ⊢
 clear hq
 obtain ⟨xk,xn,xt,xs,xm⟩:=x
 have h1:=wput1 v u a ha bs [110,111,116,32] (tH v 12 n t [.mk xk xn xt xs xm] ns) (by exact fl)
 have h2:=hx.tail v (u + 1) (.ptr 0 v 0) (bs ++ [110,111,116,32]) (tH v 12 n t [.mk xk xn xt xs xm] ns) (.inr rfl) (by exact fl)
 exact callOk_introT (fun a w => Tryz.call73 a w) Tryz.func73 rfl Tryz.ntmps73 rfl fun B => by
  refine pB [.b false,.b false,.b false,.b false,.b false,.b false,.b false,.b false,.b false,.b false,.b false,.b true,.f (.tup []) (fun _ => wrH v (u + 1) (.ptr 0 v 0) (bs ++ [110,111,116,32]) (tH v 12 n t [.mk xk xn xt xs xm] ns)),
   .v (exA (.mk xk xn xt xs xm)),.f (.tup []) (fun _ => wrH v (u + 1 + q.length) (.ptr 0 v 0) (bs ++ [110,111,116,32] ++ q.flatten) (tH v 12 n t [.mk xk xn xt xs xm] ns))] rfl ?_
  exact S_nil ⟨_,_,rfl,trivial,wfinE (by exact fl) (by simp)⟩
theorem wex13 (n : Nat) (t : List UInt8) (x : Ex) (ns : List (List UInt8)) (p : Pcs) (hx : Wr WX x p) : Wr WX (.mk 13 n t [x] ns) ([[45]] ++ brk (apart x) p):=by
 intro v u a bs ha hl
 obtain ⟨q,hq⟩ : ∃ q,q = brk (apart x) p:=⟨_,rfl⟩
 have hx:=inner_ok x p hx
 rw [← hq] at hl hx ⊢
 clear hq
 obtain ⟨xk,xn,xt,xs,xm⟩:=x
 have h1:=wput1 v u a ha bs [45] (tH v 13 n t [.mk xk xn xt xs xm] ns) (by exact fl)
 have h2:=hx.tail v (u + 1) (.ptr 0 v 0) (bs ++ [45]) (tH v 13 n t [.mk xk xn xt xs xm] ns) (.inr rfl) (by exact fl)
 exact callOk_introT (fun a w => Tryz.call73 a w) Tryz.func73 rfl Tryz.ntmps73 rfl fun B => by
  refine pB [.b false,.b false,.b false,.b false,.b false,.b false,.b false,.b false,.b false,.b false,.b false,.b false,.b true,.f (.tup []) (fun _ => wrH v (u + 1) (.ptr 0 v 0) (bs ++ [45]) (tH v 13 n t [.mk xk xn xt xs xm] ns)),
   .v (exA (.mk xk xn xt xs xm)),.f (.tup []) (fun _ => wrH v (u + 1 + q.length) (.ptr 0 v 0) (bs ++ [45] ++ q.flatten) (tH v 13 n t [.mk xk xn xt xs xm] ns))] rfl ?_
  exact S_nil ⟨_,_,rfl,trivial,wfinE (by exact fl) (by simp)⟩
theorem wex14 (n : Nat) (t : List UInt8) (x y : Ex) (ns : List (List UInt8)) (p p' : Pcs) (hx : Wr WX x p) (hy : Wr WX y p') : Wr WX (.mk 14 n t [x,y] ns) (brk (apart x) p ++ [[32],t,[32]] ++ brk (apart y) p'):=by
 intro v u a bs ha hl
 obtain ⟨q,hq⟩ : ∃ q,q = brk (apart x) p:=⟨_,rfl⟩
 obtain ⟨r,hr⟩ : ∃ r,r = brk (apart y) p':=⟨_,rfl⟩
 have hx:=inner_ok x p hx
 have hy:=inner_ok y p' hy
 rw [← hq] at hl hx ⊢
 rw [← hr] at hl hy ⊢
 clear hq hr
 obtain ⟨xk,xn,xt,xs,xm⟩:=x
 obtain ⟨yk,yn,yt,ys,ym⟩:=y
 have h1:=hx.tail v u a bs (tH v 14 n t [.mk xk xn xt xs xm,.mk yk yn yt ys ym] ns) ha (by exact fl)
 have h2:=wput_ok v (u + q.length) (.ptr 0 v 0) (.inr rfl) (bs ++ q.flatten) true true [[32],t,[32]] (tH v 14 n t [.mk xk xn xt xs xm,.mk yk yn yt ys ym] ns) (by simp) (by exact fl) (by simp)
 have h3:=hy.tail v (u + q.length + 3) (.ptr 0 v 0) (bs ++ q.flatten ++ [[32],t,[32]].flatten) (tH v 14 n t [.mk xk xn xt xs xm,.mk yk yn yt ys ym] ns) (.inr rfl) (by exact fl)
 exact callOk_introT (fun a w => Tryz.call73 a w) Tryz.func73 rfl Tryz.ntmps73 rfl fun B => by
  refine pB [.b false,.b false,.b false,.b false,.b false,.b false,.b false,.b false,.b false,.b false,.b false,.b false,.b false,.b true,.v (exA (.mk xk xn xt xs xm)),.f (.tup []) (fun _ => wrH v (u + q.length) (.ptr 0 v 0) (bs ++ q.flatten) (tH v 14 n t [.mk xk xn xt xs xm,.mk yk yn yt ys ym] ns)),
   .f (.tup []) (fun _ => wrH v (u + q.length + 3) (.ptr 0 v 0) (bs ++ q.flatten ++ [[32],t,[32]].flatten) (tH v 14 n t [.mk xk xn xt xs xm,.mk yk yn yt ys ym] ns)),
   .v (exA (.mk yk yn yt ys ym)),.f (.tup []) (fun _ => wrH v (u + q.length + 3 + r.length) (.ptr 0 v 0) (bs ++ q.flatten ++ [[32],t,[32]].flatten ++ r.flatten) (tH v 14 n t [.mk xk xn xt xs xm,.mk yk yn yt ys ym] ns))] rfl ?_
  exact S_nil ⟨_,_,rfl,trivial,wfinE (by exact fl) (by simp)⟩
theorem len2 {α : Type} {l : List α} (h : l.length = 2) : ∃ x y,l = [x,y]:=by
 match l,h with
 | [x,y],_ => exact ⟨x,y,rfl⟩
theorem len3 {α : Type} {l : List α} (h : l.length = 3) : ∃ x y z,l = [x,y,z]:=by
 match l,h with
 | [x,y,z],_ => exact ⟨x,y,z,rfl⟩
theorem wex {x : Ex} (h : Wx 800000 x) : Wr WX x (exW x):=by
 induction h with
 | @mk k n t ks ns h1 h2 h3 h4 ih =>
  rw [exW]
  match k,h4 with
  | 1,_ => exact wex1 n t ks ns
  | 2,_ => exact wex2 n t ks ns
  | 3,_ => exact wex3 n t ks ns
  | 4,h4 => exact wex4 n h4.1 t ks ns
  | 5,_ => exact wex5 n t ks ns
  | 6,_ => exact wex6 n t ks ns
  | 7,_ => exact wex7 _ _ _ _ ih (by omega)
  | 8,_ => exact wex8 _ _ _ _ ih (by omega)
  | 9,h4 =>
   rcases h4.2.2.1 with hk | hk
   ·obtain ⟨x,y,rfl⟩ : ∃ x y,ks = [x,y]:=len2 hk
    have:=wex9a n t x y ns _ _ (ih x (by simp)) (ih y (by simp))
    simpa [exB',exWs,plW] using this
   ·obtain ⟨x,y,z,rfl⟩ : ∃ x y z,ks = [x,y,z]:=len3 hk
    have:=wex9b n t x y z ns _ _ _ (ih x (by simp)) (ih y (by simp)) (ih z (by simp))
    simpa [exB',exWs,plW] using this
  | 10,h4 =>
   match ks,ih,h1,h4 with
   | x :: r,ih,h1,h4 =>
    have h5 : ns.length + 1 ≤ r.length + 1:=h4.2.2.1
    have h1 : r.length + 1 ≤ 800000:=h1
    have:=wex10 n t x r ns _ (ih x (by simp)) (fun y hy => ih y (by simp [hy])) (by omega) (by omega)
    simpa [exB',exWs,inW] using this
   | [],ih,h1,h4 => exact absurd h4.2.2.1 (by simp)
  | 11,h4 =>
   obtain ⟨x,y,rfl⟩ : ∃ x y,ks = [x,y]:=len2 h4.2.2.1
   have:=wex11 n t x y ns _ _ (ih x (by simp)) (ih y (by simp))
   simpa [exB',exWs,plW,inW] using this
  | 12,h4 =>
   obtain ⟨x,rfl⟩ : ∃ x,ks = [x]:=List.length_eq_one_iff.1 h4.2.2.1
   have:=wex12 n t x ns _ (ih x (by simp))
   simpa [exB',exWs,plW,inW] using this
  | 13,h4 =>
   obtain ⟨x,rfl⟩ : ∃ x,ks = [x]:=List.length_eq_one_iff.1 h4.2.2.1
   have:=wex13 n t x ns _ (ih x (by simp))
   simpa [exB',exWs,plW,inW] using this
  | 14,h4 =>
   obtain ⟨x,y,rfl⟩ : ∃ x y,ks = [x,y]:=len2 h4.2.2.1
   have:=wex14 n t x y ns _ _ (ih x (by simp)) (ih y (by simp))
   simpa [exB',exWs,plW,inW] using this
  | 0,h4 => exact h4.elim
  | k + 15,h4 => exact h4.elim
def Wt (f : FuncId) (x : St) (i : List UInt8) (p : Pcs) : Prop:=∀ (v u : Nat) (a : AV) (bs : List UInt8),(a = .nilp ∨ a = .ptr 0 v 0) → i.length ≤ bs.length → bs.length + p.flatten.length ≤ 70000000000000 →
 CallOk cx f [.ptr 0 v 0,stA x,.str i] (wrH v u a bs []) (fun o s => o = .ret (.tup []) ∧ s = wrH v (u + p.length) (.ptr 0 v 0) (bs ++ p.flatten) [])
theorem Wt.tail {f : FuncId} {x : St} {i : List UInt8} {p : Pcs} (h : Wt f x i p) (v u : Nat) (a : AV) (bs : List UInt8) (τ : Heap) (ha : a = .nilp ∨ a = .ptr 0 v 0) (hi : i.length ≤ bs.length) (hl : bs.length + p.flatten.length ≤ 70000000000000) :
  CallOk cx f [.ptr 0 v 0,stA x,.str i] (wrH v u a bs τ) (fun o s => o = .ret (.tup []) ∧ s = wrH v (u + p.length) (.ptr 0 v 0) (bs ++ p.flatten) τ) :=
 (h v u a bs ha hi hl).pre1 2 τ rfl rfl (.cons (.ptr rfl) (.free (by intro y hy; simp at hy; rcases hy with rfl | rfl; exact stA_free x; exact .str))) (wr_rn v u a ha bs) (wr_rn v (u + p.length) (.ptr 0 v 0) (.inr rfl) (bs ++ p.flatten)) (.free (.tup (by simp)))
def Wl (f : FuncId) (l : List St) (i : List UInt8) (p : Pcs) : Prop:=∀ (v u : Nat) (a : AV) (bs : List UInt8),(a = .nilp ∨ a = .ptr 0 v 0) → bs.length + p.flatten.length ≤ 70000000000000 →
 CallOk cx f [.ptr 0 v 0,.sl true false 10 (stL l),.str i] (wrH v u a bs []) (fun o s => o = .ret (.tup []) ∧ s = wrH v (u + p.length) (if l.length = 0 then a else .ptr 0 v 0) (bs ++ p.flatten) [])
theorem Wl.tail {f : FuncId} {l : List St} {i : List UInt8} {p : Pcs} (h : Wl f l i p) (v u : Nat) (bs : List UInt8) (τ : Heap) (hl : bs.length + p.flatten.length ≤ 70000000000000) :
  CallOk cx f [.ptr 0 v 0,.sl true false 10 (stL l),.str i] (wrH v u (.ptr 0 v 0) bs τ) (fun o s => o = .ret (.tup []) ∧ s = wrH v (u + p.length) (.ptr 0 v 0) (bs ++ p.flatten) τ):=by
 have h:=h v u (.ptr 0 v 0) bs (.inr rfl) hl
 rw [ite_self] at h
 exact h.pre1 2 τ rfl rfl (.cons (.ptr rfl) (.free (by intro y hy; simp at hy; rcases hy with rfl | rfl; exact stsA_free l; exact .str))) (wr_rn v u _ (.inr rfl) bs) (wr_rn v (u + p.length) (.ptr 0 v 0) (.inr rfl) (bs ++ p.flatten)) (.free (.tup (by simp)))
theorem wfinA {v u : Nat} {a : AV} {bs : List UInt8} {τ : Heap} (ha : a = .nilp ∨ a = .ptr 0 v 0) : TR 2 (fun o s => o = .ret (.tup []) ∧ s = wrH v u a bs []) (.ret (.tup [])) (wrH v u a bs τ) :=
 ⟨2,Nat.le_refl _,wr_low _ _ _ ha _ _,.tup [],.low (.tup (by simp)),rfl,rfl⟩
theorem stL_get {l : List St} {i : Nat} (h : i < l.length) {y : St} (hy : l[i] = y) : (stL l)[(i : Int).toNat]? = some (stA y):=by
 subst hy
 rw [stL_map,List.getElem?_map,Int.toNat_natCast,List.getElem?_eq_getElem h]; rfl
theorem stWs_snoc (i : List UInt8) (l : List St) (s : St) : stWs (l ++ [s]) i = stWs l i ++ ([i] ++ stW s i):=by
 induction l with
 | nil => simp [stWs]
 | cons x r ih => rw [List.cons_append,stWs,ih,stWs]; simp
theorem stWs_take (i : List UInt8) (l : List St) (j : Nat) (h : j < l.length) : stWs (l.take (j + 1)) i = stWs (l.take j) i ++ ([i] ++ stW l[j] i):=by
 rw [List.take_succ_eq_append_getElem h,stWs_snoc]
theorem stWs_le (i : List UInt8) (l : List St) (j : Nat) (h : j ≤ l.length) : (stWs (l.take j) i).flatten.length ≤ (stWs l i).flatten.length:=by
 induction hk : l.length - j generalizing j with
 | zero => rw [List.take_of_length_le (by omega)]; exact Nat.le_refl _
 | succ n ih =>
  have:=ih (j + 1) (by omega) (by omega)
  rw [stWs_take _ _ _ (by omega),List.flatten_append,List.length_append] at this
  omega
abbrev WS:=43
structure StmSt where
 i : Nat
 w : Nat
 a : AV
theorem wstmts (l : List St) (i : List UInt8) (h : ∀ s ∈ l,Wt WS s i (stW s i)) (hz : l.length ≤ 1000000) : Wl 32 l i (stWs l i):=by
 intro v u a bs ha hl
 have hll : (stL l).length = l.length:=stL_len l
 exact callOk_introT (fun a w => Tryz.call32 a w) Tryz.func32 rfl Tryz.ntmps32 rfl fun B => by
  refine pB [] rfl ?_
  refine S_dead ?_ ⟨_,_,.inl rfl⟩
  refine S_while (α:=StmSt) (fun q => [(0,.ptr 0 v 0),(2,.str i),(8,.sl true false 10 (stL l)),(9,.int .i64 (l.length : Nat)),(10,.int .i64 (q.i : Nat))]) (fun q => wrH v (u + (stWs (l.take q.i) i).length) q.a (bs ++ (stWs (l.take q.i) i).flatten) [(q.w,none)])
   (fun q => q.i ≤ l.length ∧ (q.a = .nilp ∨ q.a = .ptr 0 v 0) ∧ (0 < q.i → q.a = .ptr 0 v 0) ∧ (q.i = 0 → q.a = a)) (fun q => l.length - q.i) ⟨0,0,a⟩ ⟨Nat.zero_le _,ha,fun h => absurd h (Nat.lt_irrefl 0),fun _ => rfl⟩ (.cons rfl (.cons rfl (.cons rfl (.cons (by show AV.int .i64 (((stL l).length : Nat) : Int) = _; rw [hll]) (.cons rfl (.nil _)))))) (by show wrH v u a bs _ = wrH v (u + 0) a (bs ++ []) _; simp) ?_
  rintro ⟨j,w,a1⟩ ⟨hj,ha1,hp,hp0⟩
  have hj : j ≤ l.length:=hj
  have ha1 : a1 = .nilp ∨ a1 = .ptr 0 v 0:=ha1
  have hp : 0 < j → a1 = .ptr 0 v 0:=hp
  have hp0 : j = 0 → a1 = a:=hp0
  show S cx _ B _ _ [(0,.ptr 0 v 0),(2,.str i),(8,.sl true false 10 (stL l)),(9,.int .i64 (l.length : Nat)),(10,.int .i64 (j : Nat))] (wrH v (u + (stWs (l.take j) i).length) a1 (bs ++ (stWs (l.take j) i).flatten) [(w,none)])
  by_cases hlt : j < l.length
  ·have hle:=stWs_le i l (j + 1) hlt
   have he:=stWs_take i l j hlt
   have hs:=h _ (List.getElem_mem hlt)
   rw [he,List.flatten_append,List.flatten_append,List.length_append,List.length_append] at hle
   obtain ⟨y,hy⟩ : ∃ y,l[j] = y:=⟨_,rfl⟩
   have hel:=stL_get hlt hy
   rw [hy] at he hle hs
   obtain ⟨p,hpp⟩ : ∃ p,p = stW y i:=⟨_,rfl⟩
   rw [← hpp] at he hle hs
   clear hpp
   obtain ⟨yk,yt,yns,yx,yb,ye⟩:=y
   obtain ⟨xk,xn,xt,xs,xm⟩:=yx
   have h1:=wput1 v (u + (stWs (l.take j) i).length) a1 ha1 (bs ++ (stWs (l.take j) i).flatten) i [(w + 1,some (.cells (stA (.mk yk yt yns (.mk xk xn xt xs xm) yb ye)).cells ⟨false,some 56⟩))] (by exact fl)
   have h2:=hs.tail v (u + (stWs (l.take j) i).length + 1) (.ptr 0 v 0) (bs ++ (stWs (l.take j) i).flatten ++ i) [(w + 1,some (.cells (stA (.mk yk yt yns (.mk xk xn xt xs xm) yb ye)).cells ⟨false,some 56⟩))] (.inr rfl) (by exact fl) (by exact fl)
   refine pB [.b true,.v (stA (.mk yk yt yns (.mk xk xn xt xs xm) yb ye)),.f (.tup []) (fun _ => wrH v (u + (stWs (l.take j) i).length + 1) (.ptr 0 v 0) (bs ++ (stWs (l.take j) i).flatten ++ i) [(w + 1,some (.cells (stA (.mk yk yt yns (.mk xk xn xt xs xm) yb ye)).cells ⟨false,some 56⟩))]),
    .f (.tup []) (fun _ => wrH v (u + (stWs (l.take j) i).length + 1 + p.length) (.ptr 0 v 0) (bs ++ (stWs (l.take j) i).flatten ++ i ++ p.flatten) [(w + 1,some (.cells (stA (.mk yk yt yns (.mk xk xn xt xs xm) yb ye)).cells ⟨false,some 56⟩))]),.s] rfl ?_
   refine S_drop (id:=2) rfl ?_ ⟨.skip,_,.inr ⟨_,_,_,rfl⟩⟩
   refine pB [] rfl ?_
   refine S_round ⟨j + 1,w + 1,.ptr 0 v 0⟩ (by show l.length - (j + 1) < l.length - j; omega) ⟨hlt,.inr rfl,fun _ => rfl,fun h => absurd h (Nat.succ_ne_zero j)⟩ (.cons rfl (.cons rfl (.cons rfl (.cons rfl (.cons (nX (by omega)) (.nil _)))))) ?_
   show wrH v (u + (stWs (l.take j) i).length + 1 + p.length) (.ptr 0 v 0) (bs ++ (stWs (l.take j) i).flatten ++ i ++ p.flatten) [(w + 1,none)] = wrH v (u + (stWs (l.take (j + 1)) i).length) (.ptr 0 v 0) (bs ++ (stWs (l.take (j + 1)) i).flatten) [(w + 1,none)]
   rw [he]
   simp only [List.length_append,List.flatten_append,List.flatten_cons,List.flatten_nil,List.append_nil,List.length_cons,List.length_nil,List.append_assoc]
   rw [show u + ((stWs (l.take j) i).length + (0 + 1 + p.length)) = u + (stWs (l.take j) i).length + 1 + p.length by omega]
  ·obtain rfl : j = l.length:=by omega
   have : a1 = if l.length = 0 then a else .ptr 0 v 0:=by
    by_cases h0 : l.length = 0
    ·rw [if_pos h0]; exact hp0 h0
    ·rw [if_neg h0]; exact hp (by omega)
   rw [List.take_length,← this]
   refine pB [.b false] rfl ?_
   exact S_nil ⟨_,_,rfl,trivial,wfinA ha1⟩
theorem wbody (l : List St) (i : List UInt8) (h : ∀ s ∈ l,Wt WS s (i ++ tab4) (stW s (i ++ tab4))) (hz : l.length ≤ 1000000) (v u : Nat) (bs : List UInt8) (τ : Heap) (hi : i.length ≤ bs.length) (hl : bs.length + ([[58,10]] ++ stWs l (i ++ tab4)).flatten.length ≤ 70000000000000) :
  CallOk cx 75 [.ptr 0 v 0,.sl true false 10 (stL l),.str i] (wrH v u (.ptr 0 v 0) bs τ) (fun o s => o = .ret (.tup []) ∧ s = wrH v (u + ([[58,10]] ++ stWs l (i ++ tab4)).length) (.ptr 0 v 0) (bs ++ ([[58,10]] ++ stWs l (i ++ tab4)).flatten) τ):=by
 have hw:=(wstmts l (i ++ tab4) h hz).tail v (u + 1) (bs ++ [58,10]) [] (by exact fl)
 have h1:=wput1 v u (.ptr 0 v 0) (.inr rfl) bs [58,10] [] (by exact fl)
 have key : CallOk cx 75 [.ptr 0 v 0,.sl true false 10 (stL l),.str i] (wrH v u (.ptr 0 v 0) bs []) (fun o s => o = .ret (.tup []) ∧ s = wrH v (u + ([[58,10]] ++ stWs l (i ++ tab4)).length) (.ptr 0 v 0) (bs ++ ([[58,10]] ++ stWs l (i ++ tab4)).flatten) []):=callOk_intro (fun a w => Tryz.call75 a w) Tryz.func75 rfl Tryz.ntmps75 rfl fun B => by
  refine pB [.f (.tup []) (fun _ => wrH v (u + 1) (.ptr 0 v 0) (bs ++ [58,10]) []),.f (.tup []) (fun _ => wrH v (u + 1 + (stWs l (i ++ tab4)).length) (.ptr 0 v 0) (bs ++ [58,10] ++ (stWs l (i ++ tab4)).flatten) [])] rfl ?_
  refine S_nil ⟨_,_,rfl,trivial,rfl,?_⟩
  show wrH _ _ _ _ _ = wrH _ _ _ _ _
  simp only [List.length_append,List.flatten_append,List.flatten_cons,List.flatten_nil,List.append_nil,List.length_cons,List.length_nil,List.append_assoc]
  rw [show u + (0 + 1 + (stWs l (i ++ tab4)).length) = u + 1 + (stWs l (i ++ tab4)).length by omega]
 exact key.pre1 2 τ rfl rfl (.cons (.ptr rfl) (.free (by intro y hy; simp at hy; rcases hy with rfl | rfl; exact stsA_free l; exact .str))) (wr_rn v u _ (.inr rfl) bs) (wr_rn v _ (.ptr 0 v 0) (.inr rfl) _) (.free (.tup (by simp)))
def wsBx (k : Nat) (t : List UInt8) (ns : List (List UInt8)) (xk xn : Nat) (xt : List UInt8) (xs : List Ex) (xm : List (List UInt8)) (b e : List St) : Nat × Option Box :=
 (0,some (.cells [.int .i64 (k : Nat),.str t,.sl true false 1 (texts ns),.int .i64 (xk : Nat),.int .i64 (xn : Nat),.str xt,.sl true false 5 (exL xs),.sl true false 1 (texts xm),.sl true false 10 (stL b),.sl true false 10 (stL e)] ⟨false,some 56⟩))
theorem wst1 (t : List UInt8) (ns : List (List UInt8)) (x : Ex) (b e : List St) (i : List UInt8) : Wt WS (.mk 1 t ns x b e) i ([[112,97,115,115,10]]):=by
 intro v u a bs ha hi hl
 obtain ⟨xk,xn,xt,xs,xm⟩:=x
 have h1:=wput1 v (u) a ha (bs) [112,97,115,115,10] [wsBx 1 t ns xk xn xt xs xm b e] (by exact fl)
 exact callOk_introT (fun a w => Tryz.call43 a w) Tryz.func43 rfl Tryz.ntmps43 rfl fun B => by
  refine pB [.b true,.f (.tup []) (fun _ => wrH v (u + 1) (.ptr 0 v 0) (bs ++ [112,97,115,115,10]) [wsBx 1 t ns xk xn xt xs xm b e])] rfl ?_
  exact S_nil ⟨_,_,rfl,trivial,wfinE (by exact fl) (by simp [nl])⟩
theorem wst2 (t : List UInt8) (ns : List (List UInt8)) (x : Ex) (b e : List St) (i : List UInt8) (p : Pcs) (hx : Wr WX x p) : Wt WS (.mk 2 t ns x b e) i ([[114,101,116,117,114,110,32]] ++ p ++ [[10]]):=by
 intro v u a bs ha hi hl
 obtain ⟨xk,xn,xt,xs,xm⟩:=x
 have h1:=wput1 v (u) a ha (bs) [114,101,116,117,114,110,32] [wsBx 2 t ns xk xn xt xs xm b e] (by exact fl)
 have h2:=hx.tail v (u + 1) (.ptr 0 v 0) (bs ++ [114,101,116,117,114,110,32]) [wsBx 2 t ns xk xn xt xs xm b e] (.inr rfl) (by exact fl)
 have h3:=wput1 v (u + 1 + p.length) (.ptr 0 v 0) (.inr rfl) (bs ++ [114,101,116,117,114,110,32] ++ p.flatten) [10] [wsBx 2 t ns xk xn xt xs xm b e] (by exact fl)
 exact callOk_introT (fun a w => Tryz.call43 a w) Tryz.func43 rfl Tryz.ntmps43 rfl fun B => by
  refine pB [.b false,.b true,.f (.tup []) (fun _ => wrH v (u + 1) (.ptr 0 v 0) (bs ++ [114,101,116,117,114,110,32]) [wsBx 2 t ns xk xn xt xs xm b e]),
   .f (.tup []) (fun _ => wrH v (u + 1 + p.length) (.ptr 0 v 0) (bs ++ [114,101,116,117,114,110,32] ++ p.flatten) [wsBx 2 t ns xk xn xt xs xm b e]),
   .f (.tup []) (fun _ => wrH v (u + 1 + p.length + 1) (.ptr 0 v 0) (bs ++ [114,101,116,117,114,110,32] ++ p.flatten ++ [10]) [wsBx 2 t ns xk xn xt xs xm b e])] rfl ?_
  exact S_nil ⟨_,_,rfl,trivial,wfinE (by exact fl) (by simp [nl])⟩
theorem wst3 (t : List UInt8) (ns : List (List UInt8)) (x : Ex) (b e : List St) (i : List UInt8) (p : Pcs) (hx : Wr WX x p) : Wt WS (.mk 3 t ns x b e) i ([t,[32,61,32]] ++ p ++ [[10]]):=by
 intro v u a bs ha hi hl
 obtain ⟨xk,xn,xt,xs,xm⟩:=x
 have h1:=wput_ok v (u) a ha (bs) true true [t,[32,61,32]] [wsBx 3 t ns xk xn xt xs xm b e] (by simp) (by exact fl) (by simp)
 have h2:=hx.tail v (u + 2) (.ptr 0 v 0) (bs ++ [t,[32,61,32]].flatten) [wsBx 3 t ns xk xn xt xs xm b e] (.inr rfl) (by exact fl)
 have h3:=wput1 v (u + 2 + p.length) (.ptr 0 v 0) (.inr rfl) (bs ++ [t,[32,61,32]].flatten ++ p.flatten) [10] [wsBx 3 t ns xk xn xt xs xm b e] (by exact fl)
 exact callOk_introT (fun a w => Tryz.call43 a w) Tryz.func43 rfl Tryz.ntmps43 rfl fun B => by
  refine pB [.b false,.b false,.b true,.f (.tup []) (fun _ => wrH v (u + 2) (.ptr 0 v 0) (bs ++ [t,[32,61,32]].flatten) [wsBx 3 t ns xk xn xt xs xm b e]),
   .f (.tup []) (fun _ => wrH v (u + 2 + p.length) (.ptr 0 v 0) (bs ++ [t,[32,61,32]].flatten ++ p.flatten) [wsBx 3 t ns xk xn xt xs xm b e]),
   .f (.tup []) (fun _ => wrH v (u + 2 + p.length + 1) (.ptr 0 v 0) (bs ++ [t,[32,61,32]].flatten ++ p.flatten ++ [10]) [wsBx 3 t ns xk xn xt xs xm b e])] rfl ?_
  exact S_nil ⟨_,_,rfl,trivial,wfinE (by exact fl) (by simp [nl])⟩
theorem wst5 (t : List UInt8) (ns : List (List UInt8)) (x : Ex) (b e : List St) (i : List UInt8) (p : Pcs) (hx : Wr WX x p) : Wt WS (.mk 5 t ns x b e) i (p ++ [[10]]):=by
 intro v u a bs ha hi hl
 obtain ⟨xk,xn,xt,xs,xm⟩:=x
 have h2:=hx.tail v (u) a (bs) [wsBx 5 t ns xk xn xt xs xm b e] ha (by exact fl)
 have h3:=wput1 v (u + p.length) (.ptr 0 v 0) (.inr rfl) (bs ++ p.flatten) [10] [wsBx 5 t ns xk xn xt xs xm b e] (by exact fl)
 exact callOk_introT (fun a w => Tryz.call43 a w) Tryz.func43 rfl Tryz.ntmps43 rfl fun B => by
  refine pB [.b false,.b false,.b false,.b false,.b true,.f (.tup []) (fun _ => wrH v (u + p.length) (.ptr 0 v 0) (bs ++ p.flatten) [wsBx 5 t ns xk xn xt xs xm b e]),
   .f (.tup []) (fun _ => wrH v (u + p.length + 1) (.ptr 0 v 0) (bs ++ p.flatten ++ [10]) [wsBx 5 t ns xk xn xt xs xm b e])] rfl ?_
  exact S_nil ⟨_,_,rfl,trivial,wfinE (by exact fl) (by simp [nl])⟩
theorem wst6 (t : List UInt8) (ns : List (List UInt8)) (x : Ex) (b e : List St) (i : List UInt8) (hJ : Calc cx 74 [.sl true false 1 (texts ns),.str [44,32]] (.str (joinT ns))) (hb : ∀ s ∈ b,Wt WS s (i ++ tab4) (stW s (i ++ tab4))) (hz : b.length ≤ 1000000) : Wt WS (.mk 6 t ns x b e) i ([[100,101,102,32],t,[40],joinT ns,[41]] ++ ([[58,10]] ++ stWs b (i ++ tab4))):=by
 intro v u a bs ha hi hl
 obtain ⟨xk,xn,xt,xs,xm⟩:=x
 have h1:=wput_ok v (u) a ha (bs) true true [[100,101,102,32],t,[40],joinT ns,[41]] [wsBx 6 t ns xk xn xt xs xm b e] (by simp) (by exact fl) (by simp)
 have h2:=wbody b i hb (by omega) v (u + 5) (bs ++ [[100,101,102,32],t,[40],joinT ns,[41]].flatten) [wsBx 6 t ns xk xn xt xs xm b e] (by exact fl) (by exact fl)
 exact callOk_introT (fun a w => Tryz.call43 a w) Tryz.func43 rfl Tryz.ntmps43 rfl fun B => by
  refine pa [.b false,.b false,.b false,.b false,.b false,.b true,.v (.str (joinT ns)),.f (.tup []) (fun _ => wrH v (u + 5) (.ptr 0 v 0) (bs ++ [[100,101,102,32],t,[40],joinT ns,[41]].flatten) [wsBx 6 t ns xk xn xt xs xm b e]),
   .f (.tup []) (fun _ => wrH v (u + 5 + ([[58,10]] ++ stWs b (i ++ tab4)).length) (.ptr 0 v 0) (bs ++ [[100,101,102,32],t,[40],joinT ns,[41]].flatten ++ ([[58,10]] ++ stWs b (i ++ tab4)).flatten) [wsBx 6 t ns xk xn xt xs xm b e])] rfl ?_ ?_
  ·(repeat' with_reducible apply AllP_cons) <;> try exact aC
   ·exact ⟨_,hJ,.cons (.refl (.sl (fun h => by cases h) (textsF ns))) (.cons (.refl .str) (.nil _))⟩
  exact S_nil ⟨_,_,rfl,trivial,wfinE (by exact fl) (by simp)⟩
theorem wst7a (t : List UInt8) (ns : List (List UInt8)) (x : Ex) (b e : List St) (i : List UInt8) (p : Pcs) (hx : Wr WX x p) (he : e = []) (hb : ∀ s ∈ b,Wt WS s (i ++ tab4) (stW s (i ++ tab4))) (hz : b.length ≤ 1000000) : Wt WS (.mk 7 t ns x b e) i ([[105,102,32]] ++ p ++ ([[58,10]] ++ stWs b (i ++ tab4)) ++ []):=by
 intro v u a bs ha hi hl
 obtain ⟨xk,xn,xt,xs,xm⟩:=x
 have h1:=wput1 v (u) a ha (bs) [105,102,32] [wsBx 7 t ns xk xn xt xs xm b e] (by exact fl)
 have h2:=hx.tail v (u + 1) (.ptr 0 v 0) (bs ++ [105,102,32]) [wsBx 7 t ns xk xn xt xs xm b e] (.inr rfl) (by exact fl)
 have h3:=wbody b i hb (by omega) v (u + 1 + p.length) (bs ++ [105,102,32] ++ p.flatten) [wsBx 7 t ns xk xn xt xs xm b e] (by exact fl) (by exact fl)
 subst he
 exact callOk_introT (fun a w => Tryz.call43 a w) Tryz.func43 rfl Tryz.ntmps43 rfl fun B => by
  refine pB [.b false,.b false,.b false,.b false,.b false,.b false,.b true,.f (.tup []) (fun _ => wrH v (u + 1) (.ptr 0 v 0) (bs ++ [105,102,32]) [wsBx 7 t ns xk xn xt xs xm b []]),
   .f (.tup []) (fun _ => wrH v (u + 1 + p.length) (.ptr 0 v 0) (bs ++ [105,102,32] ++ p.flatten) [wsBx 7 t ns xk xn xt xs xm b []]),
   .f (.tup []) (fun _ => wrH v (u + 1 + p.length + ([[58,10]] ++ stWs b (i ++ tab4)).length) (.ptr 0 v 0) (bs ++ [105,102,32] ++ p.flatten ++ ([[58,10]] ++ stWs b (i ++ tab4)).flatten) [wsBx 7 t ns xk xn xt xs xm b []]),
   .b false] rfl ?_
  exact S_nil ⟨_,_,rfl,trivial,wfinE (by exact fl) (by simp [nl])⟩
theorem wst7b (t : List UInt8) (ns : List (List UInt8)) (x : Ex) (b e : List St) (i : List UInt8) (p : Pcs) (hx : Wr WX x p) (he : 0 < e.length) (hb : ∀ s ∈ b,Wt WS s (i ++ tab4) (stW s (i ++ tab4))) (hz : b.length ≤ 1000000) (hc : ∀ s ∈ e,Wt WS s (i ++ tab4) (stW s (i ++ tab4))) (hy : e.length ≤ 1000000) : Wt WS (.mk 7 t ns x b e) i ([[105,102,32]] ++ p ++ ([[58,10]] ++ stWs b (i ++ tab4)) ++ ([i,wElse] ++ ([[58,10]] ++ stWs e (i ++ tab4)))):=by
 intro v u a bs ha hi hl
 obtain ⟨xk,xn,xt,xs,xm⟩:=x
 have h1:=wput1 v (u) a ha (bs) [105,102,32] [wsBx 7 t ns xk xn xt xs xm b e] (by exact fl)
 have h2:=hx.tail v (u + 1) (.ptr 0 v 0) (bs ++ [105,102,32]) [wsBx 7 t ns xk xn xt xs xm b e] (.inr rfl) (by exact fl)
 have h3:=wbody b i hb (by omega) v (u + 1 + p.length) (bs ++ [105,102,32] ++ p.flatten) [wsBx 7 t ns xk xn xt xs xm b e] (by exact fl) (by exact fl)
 have h4:=wput_ok v (u + 1 + p.length + ([[58,10]] ++ stWs b (i ++ tab4)).length) (.ptr 0 v 0) (.inr rfl) (bs ++ [105,102,32] ++ p.flatten ++ ([[58,10]] ++ stWs b (i ++ tab4)).flatten) true true [i,wElse] [wsBx 7 t ns xk xn xt xs xm b e] (by simp) (by exact fl) (by simp)
 have h5:=wbody e i hc (by omega) v (u + 1 + p.length + ([[58,10]] ++ stWs b (i ++ tab4)).length + 2) (bs ++ [105,102,32] ++ p.flatten ++ ([[58,10]] ++ stWs b (i ++ tab4)).flatten ++ [i,wElse].flatten) [wsBx 7 t ns xk xn xt xs xm b e] (by exact fl) (by exact fl)
 have hse : (stL e).length = e.length:=stL_len e
 have hq : decide ((((stL e).length : Nat) : Int) > 0) = true:=decide_eq_true (by omega)
 exact callOk_introT (fun a w => Tryz.call43 a w) Tryz.func43 rfl Tryz.ntmps43 rfl fun B => by
  refine pB [.b false,.b false,.b false,.b false,.b false,.b false,.b true,.f (.tup []) (fun _ => wrH v (u + 1) (.ptr 0 v 0) (bs ++ [105,102,32]) [wsBx 7 t ns xk xn xt xs xm b e]),
   .f (.tup []) (fun _ => wrH v (u + 1 + p.length) (.ptr 0 v 0) (bs ++ [105,102,32] ++ p.flatten) [wsBx 7 t ns xk xn xt xs xm b e]),
   .f (.tup []) (fun _ => wrH v (u + 1 + p.length + ([[58,10]] ++ stWs b (i ++ tab4)).length) (.ptr 0 v 0) (bs ++ [105,102,32] ++ p.flatten ++ ([[58,10]] ++ stWs b (i ++ tab4)).flatten) [wsBx 7 t ns xk xn xt xs xm b e]),
   .b true,
   .f (.tup []) (fun _ => wrH v (u + 1 + p.length + ([[58,10]] ++ stWs b (i ++ tab4)).length + 2) (.ptr 0 v 0) (bs ++ [105,102,32] ++ p.flatten ++ ([[58,10]] ++ stWs b (i ++ tab4)).flatten ++ [i,wElse].flatten) [wsBx 7 t ns xk xn xt xs xm b e]),
   .f (.tup []) (fun _ => wrH v (u + 1 + p.length + ([[58,10]] ++ stWs b (i ++ tab4)).length + 2 + ([[58,10]] ++ stWs e (i ++ tab4)).length) (.ptr 0 v 0) (bs ++ [105,102,32] ++ p.flatten ++ ([[58,10]] ++ stWs b (i ++ tab4)).flatten ++ [i,wElse].flatten ++ ([[58,10]] ++ stWs e (i ++ tab4)).flatten) [wsBx 7 t ns xk xn xt xs xm b e])] rfl ?_
  exact S_nil ⟨_,_,rfl,trivial,wfinE (by exact fl) (by simp [nl])⟩
theorem wst8 (t : List UInt8) (ns : List (List UInt8)) (x : Ex) (b e : List St) (i : List UInt8) (p : Pcs) (hx : Wr WX x p) (hb : ∀ s ∈ b,Wt WS s (i ++ tab4) (stW s (i ++ tab4))) (hz : b.length ≤ 1000000) : Wt WS (.mk 8 t ns x b e) i ([[102,111,114,32],t,[32,105,110,32]] ++ p ++ ([[58,10]] ++ stWs b (i ++ tab4))):=by
 intro v u a bs ha hi hl
 obtain ⟨xk,xn,xt,xs,xm⟩:=x
 have h1:=wput_ok v (u) a ha (bs) true true [[102,111,114,32],t,[32,105,110,32]] [wsBx 8 t ns xk xn xt xs xm b e] (by simp) (by exact fl) (by simp)
 have h2:=hx.tail v (u + 3) (.ptr 0 v 0) (bs ++ [[102,111,114,32],t,[32,105,110,32]].flatten) [wsBx 8 t ns xk xn xt xs xm b e] (.inr rfl) (by exact fl)
 have h3:=wbody b i hb (by omega) v (u + 3 + p.length) (bs ++ [[102,111,114,32],t,[32,105,110,32]].flatten ++ p.flatten) [wsBx 8 t ns xk xn xt xs xm b e] (by exact fl) (by exact fl)
 exact callOk_introT (fun a w => Tryz.call43 a w) Tryz.func43 rfl Tryz.ntmps43 rfl fun B => by
  refine pB [.b false,.b false,.b false,.b false,.b false,.b false,.b false,.b true,.f (.tup []) (fun _ => wrH v (u + 3) (.ptr 0 v 0) (bs ++ [[102,111,114,32],t,[32,105,110,32]].flatten) [wsBx 8 t ns xk xn xt xs xm b e]),
   .f (.tup []) (fun _ => wrH v (u + 3 + p.length) (.ptr 0 v 0) (bs ++ [[102,111,114,32],t,[32,105,110,32]].flatten ++ p.flatten) [wsBx 8 t ns xk xn xt xs xm b e]),
   .f (.tup []) (fun _ => wrH v (u + 3 + p.length + ([[58,10]] ++ stWs b (i ++ tab4)).length) (.ptr 0 v 0) (bs ++ [[102,111,114,32],t,[32,105,110,32]].flatten ++ p.flatten ++ ([[58,10]] ++ stWs b (i ++ tab4)).flatten) [wsBx 8 t ns xk xn xt xs xm b e])] rfl ?_
  exact S_nil ⟨_,_,rfl,trivial,wfinE (by exact fl) (by simp [nl])⟩
def ldP (n : List UInt8) : Pcs:=[[44,32],quoT n]
theorem ld_take (ns : List (List UInt8)) (j : Nat) (h : j < ns.length) : (ns.take (j + 1)).flatMap ldP = (ns.take j).flatMap ldP ++ ldP ns[j]:=by
 rw [List.take_succ_eq_append_getElem h,List.flatMap_append]; simp
theorem ld_le (ns : List (List UInt8)) (j : Nat) (h : j ≤ ns.length) : ((ns.take j).flatMap ldP).flatten.length ≤ (ns.flatMap ldP).flatten.length:=by
 induction hk : ns.length - j generalizing j with
 | zero => rw [List.take_of_length_le (by omega)]; exact Nat.le_refl _
 | succ n ih =>
  have:=ih (j + 1) (by omega) (by omega)
  rw [ld_take _ _ (by omega),List.flatten_append,List.length_append] at this
  omega
theorem wst4 (t : List UInt8) (ns : List (List UInt8)) (x : Ex) (b e : List St) (i : List UInt8) (hn : ns.length ≤ 1000000) : Wt WS (.mk 4 t ns x b e) i ([[108,111,97,100,40],quoT t] ++ ns.flatMap ldP ++ [[41,10]]):=by
 intro v u a bs ha hi hl
 obtain ⟨xk,xn,xt,xs,xm⟩:=x
 have htl:=texts_len ns
 have hqt:=quoT_ge t
 have hl' : bs.length + 5 + (quoT t).length + (ns.flatMap ldP).flatten.length + 2 ≤ 70000000000000:=by
  simp only [List.flatten_append,List.length_append,List.flatten_cons,List.flatten_nil,List.length_cons,List.length_nil] at hl; omega
 have hQ:=Quote_ok t (by omega)
 have h1:=wput_ok v u a ha bs true true [[108,111,97,100,40],quoT t] [wsBx 4 t ns xk xn xt xs xm b e] (by simp) (by simp only [List.flatten_cons,List.flatten_nil,List.length_append,List.length_cons,List.length_nil]; omega) (by simp)
 exact callOk_introT (fun a w => Tryz.call43 a w) Tryz.func43 rfl Tryz.ntmps43 rfl fun B => by
  refine pa [.b false,.b false,.b false,.b true,.v (.str (quoT t)),.f (.tup []) (fun _ => wrH v (u + 2) (.ptr 0 v 0) (bs ++ [[108,111,97,100,40],quoT t].flatten) [wsBx 4 t ns xk xn xt xs xm b e])] rfl ?_ ?_
  ·(repeat' with_reducible apply AllP_cons) <;> try exact aC
   ·exact ⟨_,hQ,.cons (.refl .str) (.nil _)⟩
  refine S_while (α:=Nat) (fun j => [(0,.ptr 0 v 0),(50,.sl true false 1 (texts ns)),(51,.int .i64 (ns.length : Nat)),(52,.int .i64 (j : Nat))]) (fun j => wrH v (u + 2 + ((ns.take j).flatMap ldP).length) (.ptr 0 v 0) (bs ++ [[108,111,97,100,40],quoT t].flatten ++ ((ns.take j).flatMap ldP).flatten) [wsBx 4 t ns xk xn xt xs xm b e])
   (fun j => j ≤ ns.length) (fun j => ns.length - j) 0 (Nat.zero_le _) (.cons rfl (.cons rfl (.cons (by show AV.int .i64 (((texts ns).length : Nat) : Int) = _; rw [htl]) (.cons rfl (.nil _))))) (by show wrH _ _ _ (bs ++ [[108,111,97,100,40],quoT t].flatten) _ = wrH _ _ _ (bs ++ [[108,111,97,100,40],quoT t].flatten ++ []) _; rw [List.append_nil]; rfl) ?_
  intro j hj
  have hj : j ≤ ns.length:=hj
  by_cases hlt : j < ns.length
  ·have hel : (texts ns)[(j : Int).toNat]? = some (.str ns[j]):=texts_get hlt
   have h1:=ld_take ns j hlt
   have h2:=ld_le ns (j + 1) hlt
   have hqn:=quoT_ge ns[j]
   rw [h1,List.flatten_append,List.length_append] at h2
   have h2 : ((ns.take j).flatMap ldP).flatten.length + (2 + (quoT ns[j]).length) ≤ (ns.flatMap ldP).flatten.length:=by
    simp only [ldP,List.flatten_cons,List.flatten_nil,List.length_append,List.length_cons,List.length_nil] at h2 ⊢; omega
   have hQ:=Quote_ok ns[j] (by omega)
   have hw:=wput_ok v (u + 2 + ((ns.take j).flatMap ldP).length) (.ptr 0 v 0) (.inr rfl) (bs ++ [[108,111,97,100,40],quoT t].flatten ++ ((ns.take j).flatMap ldP).flatten) true true [[44,32],quoT ns[j]] [wsBx 4 t ns xk xn xt xs xm b e] (by simp) (by simp only [List.flatten_cons,List.flatten_nil,List.length_append,List.length_cons,List.length_nil]; omega) (by simp)
   refine pa [.b true,.v (.str ns[j]),.v (.str (quoT ns[j])),.f (.tup []) (fun _ => wrH v (u + 2 + ((ns.take j).flatMap ldP).length + 2) (.ptr 0 v 0) (bs ++ [[108,111,97,100,40],quoT t].flatten ++ ((ns.take j).flatMap ldP).flatten ++ [[44,32],quoT ns[j]].flatten) [wsBx 4 t ns xk xn xt xs xm b e])] rfl ?_ ?_
   ·(repeat' with_reducible apply AllP_cons) <;> try exact aC
    ·exact ⟨_,hQ,.cons (.refl .str) (.nil _)⟩
   refine S_round (j + 1) (by show ns.length - (j + 1) < ns.length - j; omega) hlt (.cons rfl (.cons rfl (.cons rfl (.cons (nX (by omega)) (.nil _))))) ?_
   rw [h1]
   show wrH v (u + 2 + ((ns.take j).flatMap ldP).length + 2) _ _ _ = wrH _ _ _ _ _
   rw [List.flatten_append,List.length_append,← List.append_assoc]
   rfl
  ·obtain rfl : j = ns.length:=by omega
   rw [List.take_length]
   have hw:=wput1 v (u + 2 + (ns.flatMap ldP).length) (.ptr 0 v 0) (.inr rfl) (bs ++ [[108,111,97,100,40],quoT t].flatten ++ (ns.flatMap ldP).flatten) [41,10] [wsBx 4 t ns xk xn xt xs xm b e] (by simp only [List.flatten_cons,List.flatten_nil,List.length_append,List.length_cons,List.length_nil]; omega)
   refine pB [.b false,.f (.tup []) (fun _ => wrH v (u + 2 + (ns.flatMap ldP).length + 1) (.ptr 0 v 0) (bs ++ [[108,111,97,100,40],quoT t].flatten ++ (ns.flatMap ldP).flatten ++ [41,10]) [wsBx 4 t ns xk xn xt xs xm b e])] rfl ?_
   exact S_nil ⟨_,_,rfl,trivial,wfinE (by simp only [List.length_append,List.length_cons,List.length_nil]; omega) (by simp)⟩
inductive AllJ (J : List (List UInt8) → Prop) : St → Prop
 | mk {k : Nat} {t : List UInt8} {ns : List (List UInt8)} {x : Ex} {b e : List St} (h1 : k = 6 → J ns) (h2 : ∀ s ∈ b,AllJ J s) (h3 : ∀ s ∈ e,AllJ J s) : AllJ J (.mk k t ns x b e)
theorem wst {J : List (List UInt8) → Prop} (HJ : ∀ ns,J ns → Calc cx 74 [.sl true false 1 (texts ns),.str [44,32]] (.str (joinT ns))) {s : St} (h : Ws 800000 s) : AllJ J s → ∀ i,Wt WS s i (stW s i):=by
 induction h with
 | @mk k t ns x b e h1 h2 h3 h4 h5 h6 ihb ihe =>
  intro hj i
  cases hj with
  | mk hj1 hj2 hj3 =>
  match k,h6,hj1 with
  | 1,_,_ => exact wst1 t ns x b e i
  | 2,h6,_ => exact wst2 t ns x b e i _ (wex h6.2.2.1)
  | 3,h6,_ => exact wst3 t ns x b e i _ (wex h6.2.2.1)
  | 4,_,_ => exact wst4 t ns x b e i (by omega)
  | 5,h6,_ => exact wst5 t ns x b e i _ (wex h6.2.2.1)
  | 6,h6,hj1 => exact wst6 t ns x b e i (HJ ns (hj1 rfl)) (fun s hs => ihb s hs (hj2 s hs) _) (by omega)
  | 7,h6,_ =>
   by_cases he : e = []
   ·have:=wst7a t ns x b e i _ (wex h6.2.2) he (fun s hs => ihb s hs (hj2 s hs) _) (by omega)
    subst he; exact this
   ·have hpos : 0 < e.length:=List.length_pos_iff.2 he
    have:=wst7b t ns x b e i _ (wex h6.2.2) hpos (fun s hs => ihb s hs (hj2 s hs) _) (by omega) (fun s hs => ihe s hs (hj3 s hs) _) (by omega)
    show Wt WS _ i ([[105,102,32]] ++ exW x ++ ([[58,10]] ++ stWs b (i ++ tab4)) ++ (if e.length > 0 then [i,wElse] ++ ([[58,10]] ++ stWs e (i ++ tab4)) else []))
    rw [if_pos hpos]; exact this
  | 8,h6,_ => exact wst8 t ns x b e i _ (wex h6.2.2.1) (fun s hs => ihb s hs (hj2 s hs) _) (by omega)
  | 0,h6,_ => exact h6.elim
  | k + 9,h6,_ => exact h6.elim
theorem Join_few (ns : List (List UInt8)) (h : ns.length ≤ 1) : Calc cx 74 [.sl true false 1 (texts ns),.str [44,32]] (.str (joinT ns)) :=
 pure_intro (fun a w => Tryz.call74 a w) Tryz.func74 rfl Tryz.ntmps74 rfl .str fun B => by
  match ns,h with
  | [],_ =>
   refine pB [.b true] rfl ?_
   exact S_retc .str rfl trivial rfl
  | [s],_ =>
   refine pB [.b false,.b true,.v (.str s)] rfl ?_
   refine S_retc .str rfl trivial ?_
   show AV.str s = .str (s ++ [])
   rw [List.append_nil]
def canonAV (x : List UInt8 × Flt) : AV:=.tup [.str x.1,fltA x.2]
theorem canonAV_free (x : List UInt8 × Flt) : Free true (canonAV x):=.tup (by intro y hy; simp at hy; rcases hy with rfl | rfl; exact .str; exact flt_free _)
theorem stmts0_ok (a : AV) (i : List UInt8) (σ : Heap) : CallOk cx 32 [a,.sl true false 10 [],.str i] σ (fun o s => o = .ret (.tup []) ∧ s = σ) :=
 callOk_intro (fun a w => Tryz.call32 a w) Tryz.func32 rfl Tryz.ntmps32 rfl fun B => by
  refine pB [] rfl ?_
  refine S_while (α:=Unit) (fun _ => [(9,.int .i64 (0 : Nat)),(10,.int .i64 (0 : Nat))]) (fun _ => σ) (fun _ => True) (fun _ => 0) () trivial (.cons rfl (.cons rfl (.nil _))) rfl ?_
  rintro ⟨⟩ _
  refine pB [.b false] rfl ?_
  exact S_nil ⟨_,_,rfl,trivial,rfl,rfl⟩
theorem stW_ne {s : St} (h : Ws 800000 s) (i : List UInt8) : (stW s i).flatten ≠ []:=by
 cases h with
 | @mk k t ns x b e h1 h2 h3 h4 h5 h6 =>
  match k,h6 with
  | 1,_ => exact fun h => by cases h
  | 2,_ => exact fun h => by cases h
  | 3,_ =>
   intro h
   have h : ([t,[32,61,32]] ++ exW x ++ [nl]).flatten = []:=h
   simp at h
  | 4,_ => exact fun h => by cases h
  | 5,_ =>
   intro h
   have h : (exW x ++ [nl]).flatten = []:=h
   simp [nl] at h
  | 6,_ => exact fun h => by cases h
  | 7,_ => exact fun h => by cases h
  | 8,_ => exact fun h => by cases h
  | 0,h6 => exact h6.elim
  | k + 9,h6 => exact h6.elim
theorem srcT_ne {l : List St} (h : ∀ x ∈ l,Ws 800000 x) (hl : l ≠ []) : srcT l ≠ []:=by
 match l,h,hl with
 | s :: r,h,_ =>
  have:=stW_ne (h s (List.mem_cons_self ..)) []
  intro hc
  have hc : ([] :: (stW s [] ++ stWs r [])).flatten = []:=hc
  simp only [List.flatten_cons,List.nil_append,List.flatten_append,List.append_eq_nil_iff] at hc
  exact this hc.1
def wrQ (v u : Nat) (a : AV) (bs : List UInt8) : Heap:=[(v,some (bBox 69 a (.ms 3 u 0 bs.length 1 false) [])),(u,some (byBox bs))]
theorem wrQ_rn (u : Nat) (bs : List UInt8) (a a' : AV) (ha : a = .nilp ∧ a' = .nilp ∨ a = .ptr 0 0 0 ∧ a' = .ptr 2 0 0) : RnH [2,3] (wrH 0 u a bs []) (wrQ 0 u a' bs):=by
 have h : Rn [2,3] a a':=by
  rcases ha with ⟨rfl,rfl⟩ | ⟨rfl,rfl⟩
  ·exact .free .nilp
  ·exact .ptr rfl
 exact .cons (.live (.cells (.cons h (.cons (.ms rfl) (.nil _))))) (.cons (.live (.cells (.free (bytes_fr bs)))) (.nil _))
theorem Canon_ok {J : List (List UInt8) → Prop} (HJ : ∀ ns,J ns → Calc cx 74 [.sl true false 1 (texts ns),.str [44,32]] (.str (joinT ns))) (s : List UInt8) (hj : ∀ x ∈ (parseS s).1,AllJ J x) (hl : (srcT (parseS s).1).length ≤ 70000000000000) :
  Calc cx 16 [.str s] (canonAV (canonS s)) :=
 pure_intro (fun a w => Tryz.call16 a w) Tryz.func16 rfl Tryz.ntmps16 rfl (canonAV_free _) fun B => by
  have hP:=Parse_ok s
  have hw:=parseS_w s
  obtain ⟨Y,hY⟩ : ∃ Y,Y = canonS s:=⟨_,rfl⟩
  rw [← hY]
  unfold canonS at hY
  obtain ⟨l,e1,e2,hp⟩ : ∃ l e1 e2,parseS s = (l,(e1,e2)):=⟨_,_,_,rfl⟩
  rw [hp] at hP hw hj hl hY
  have hw : l.length ≤ 800000 ∧ ∀ x ∈ l,Ws 800000 x:=hw
  have hj : ∀ x ∈ l,AllJ J x:=hj
  have hl : (srcT l).length ≤ 70000000000000:=hl
  have hY : Y = if e1 ≠ 0 then ([],(e1,e2)) else if 6000 < (srcT l).length ∨ (parseS (srcT l)).2.1 ≠ 0 then ([],(2,0)) else (srcT l,(0,0)):=hY
  by_cases h1 : e1 = 0
  ·subst h1
   rw [if_neg (by decide)] at hY
   obtain ⟨tx,ht⟩ : ∃ tx,tx = srcT l:=⟨_,rfl⟩
   rw [← ht] at hl hY
   have hP2:=Parse_ok tx
   obtain ⟨l2,f1,f2,hp2⟩ : ∃ l2 f1 f2,parseS tx = (l2,(f1,f2)):=⟨_,_,_,rfl⟩
   rw [hp2] at hP2 hY
   have hY : Y = if 6000 < tx.length ∨ f1 ≠ 0 then ([],(2,0)) else (tx,(0,0)):=hY
   obtain ⟨l2f,hl2⟩ : ∃ z,z = AV.tup [stsA l2,.agg [.int .i64 (f1 : Nat),.int .i64 (f2 : Nat)]]:=⟨_,rfl⟩
   by_cases hn : l = []
   ·subst hn
    have ht : tx = []:=ht
    subst ht
    refine pa [.v (.tup [.sl true false 10 [],.agg [.int .i64 (0 : Nat),.int .i64 (e2 : Nat)]]),.b false,.k (.tup [])] rfl ?_ ?_
    ·(repeat' with_reducible apply AllP_cons) <;> try exact aC
     ·exact ⟨_,hP,.cons (.refl .str) (.nil _)⟩
     ·exact stmts0_ok (.ptr 2 0 0) [] _
    refine S_dead ?_ ⟨.skip,_,.inr ⟨_,_,_,rfl⟩⟩
    refine S_callf [2,3] (string0_ok (T:=69) 0 0 .nilp) rfl (.cons (.ptr rfl) (.nil _)) (Part.mk' (es:=[(0,some (bBox 69 .nilp .nils [])),(0,none)]) rfl rfl (.cons (.live (.cells (.cons (.free .nilp) (.cons (.free .nils) (.nil _))))) (.cons .dead (.nil _)))) rfl rfl ?_ (fun v σ1 h => by cases h.1)
    intro y σ1 h
    obtain ⟨h1,rfl⟩:=h
    cases h1
    refine ⟨.str [],[(0,some (bBox 69 .nilp .nils [])),(0,none)],.cons (.live (.cells (.cons (.free .nilp) (.cons (.free .nils) (.nil _))))) (.cons .dead (.nil _)),.free .str,?_⟩
    obtain ⟨tx,htx⟩ : ∃ tx : List UInt8,tx = []:=⟨_,rfl⟩
    rw [← htx] at hP2 hY ⊢
    by_cases h6 : 6000 < tx.length
    ·rw [if_pos (.inl h6)] at hY
     subst hY
     have e6 : decide ((tx.length : Int) > 6000) = true:=decide_eq_true (by omega)
     refine pa [.v (.tup [stsA l2,.agg [.int .i64 (f1 : Nat),.int .i64 (f2 : Nat)]]),.b true,.b true] rfl ?_ ?_
     ·(repeat' with_reducible apply AllP_cons) <;> try exact aC
      ·exact ⟨_,hP2,.cons (.refl .str) (.nil _)⟩
     subst htx; exact S_retc (canonAV_free ([],(2,0))) rfl ⟨rfl,trivial⟩ rfl
    ·have e6 : decide ((tx.length : Int) > 6000) = false:=decide_eq_false (by omega)
     by_cases hf : f1 = 0
     ·rw [if_neg (by rintro (h | h); exact h6 h; exact h hf)] at hY
      subst hY
      subst hf
      refine pa [.v (.tup [stsA l2,.agg [.int .i64 (0 : Nat),.int .i64 (f2 : Nat)]]),.b false,.b false] rfl ?_ ?_
      ·(repeat' with_reducible apply AllP_cons) <;> try exact aC
       ·exact ⟨_,hP2,.cons (.refl .str) (.nil _)⟩
      exact S_retc (canonAV_free (tx,(0,0))) rfl ⟨rfl,trivial⟩ rfl
     ·rw [if_pos (.inr hf)] at hY
      subst hY
      have ef : ((f1 : Int) != 0) = true:=bne_iff_ne.2 (by omega)
      refine pa [.v (.tup [stsA l2,.agg [.int .i64 (f1 : Nat),.int .i64 (f2 : Nat)]]),.b false,.b true] rfl ?_ ?_
      ·(repeat' with_reducible apply AllP_cons) <;> try exact aC
       ·exact ⟨_,hP2,.cons (.refl .str) (.nil _)⟩
      subst htx; exact S_retc (canonAV_free ([],(2,0))) rfl ⟨rfl,trivial⟩ rfl
   ·have hst:=wstmts l [] (fun s hs => wst HJ (hw.2 s hs) (hj s hs) _) (by omega) 0 0 .nilp [] (.inl rfl) (by rw [← show tx = (stWs l []).flatten from ht]; simpa using hl)
    have hlen0 : l.length ≠ 0:=fun h => hn (List.length_eq_zero_iff.1 h)
    rw [if_neg hlen0,← show tx = (stWs l []).flatten from ht,List.nil_append] at hst
    obtain ⟨m,hm⟩ : ∃ m,m = 0 + (stWs l []).length:=⟨_,rfl⟩
    rw [← hm] at hst
    have hne : tx ≠ []:=by rw [ht]; exact srcT_ne hw.2 hn
    have hsr:=string_ok (T:=69) (rest:=[]) 0 m (.ptr 0 0 0) tx hne (by omega)
    refine pa [.v (.tup [stsA l,.agg [.int .i64 (0 : Nat),.int .i64 (e2 : Nat)]]),.b false] rfl ?_ ?_
    ·(repeat' with_reducible apply AllP_cons) <;> try exact aC
     ·exact ⟨_,hP,.cons (.refl .str) (.nil _)⟩
    refine S_ghost (id:=2) (j:=1) 1 ⟨false,some 5⟩ rfl rfl rfl (Nat.ne_of_lt (lble rfl)) ⟨.skip,_,.inr ⟨_,_,_,rfl⟩⟩ ?_
    refine S_callf [2,3] hst rfl (.cons (.ptr rfl) (.free (by intro y hy; simp at hy; rcases hy with rfl | rfl; exact stsA_free l; exact .str))) (Part.mk' (es:=wrQ 0 0 .nilp []) rfl rfl (wrQ_rn 0 [] _ _ (.inl ⟨rfl,rfl⟩))) rfl rfl ?_ (fun v σ1 h => by cases h.1)
    intro y σ1 h
    obtain ⟨h1,rfl⟩:=h
    cases h1
    refine ⟨.tup [],wrQ 0 m (.ptr 2 0 0) tx,wrQ_rn m tx _ _ (.inr ⟨rfl,rfl⟩),.free (.tup (by simp)),?_⟩
    refine pB [] rfl ?_
    refine S_callf [2,3] hsr rfl (.cons (.ptr rfl) (.nil _)) (Part.mk' (es:=wrQ 0 m (.ptr 2 0 0) tx) rfl rfl (wrQ_rn m tx _ _ (.inr ⟨rfl,rfl⟩))) rfl rfl ?_ (fun v σ1 h => by cases h.1)
    intro y σ1 h
    obtain ⟨h1,rfl⟩:=h
    cases h1
    refine ⟨.str tx,[(0,some (bBox 69 (.ptr 2 0 0) (.ms 3 m 0 tx.length 1 false) [])),(m,none)],.cons (.live (.cells (.cons (.ptr rfl) (.cons (.ms rfl) (.nil _))))) (.cons .dead (.nil _)),.free .str,?_⟩
    by_cases h6 : 6000 < tx.length
    ·rw [if_pos (.inl h6)] at hY
     subst hY
     have e6 : decide ((tx.length : Int) > 6000) = true:=decide_eq_true (by omega)
     refine pa [.v (.tup [stsA l2,.agg [.int .i64 (f1 : Nat),.int .i64 (f2 : Nat)]]),.b true,.b true] rfl ?_ ?_
     ·(repeat' with_reducible apply AllP_cons) <;> try exact aC
      ·exact ⟨_,hP2,.cons (.refl .str) (.nil _)⟩
     exact S_retc (canonAV_free ([],(2,0))) rfl ⟨rfl,trivial⟩ rfl
    ·have e6 : decide ((tx.length : Int) > 6000) = false:=decide_eq_false (by omega)
     by_cases hf : f1 = 0
     ·rw [if_neg (by rintro (h | h); exact h6 h; exact h hf)] at hY
      subst hY
      subst hf
      refine pa [.v (.tup [stsA l2,.agg [.int .i64 (0 : Nat),.int .i64 (f2 : Nat)]]),.b false,.b false] rfl ?_ ?_
      ·(repeat' with_reducible apply AllP_cons) <;> try exact aC
       ·exact ⟨_,hP2,.cons (.refl .str) (.nil _)⟩
      exact S_retc (canonAV_free (tx,(0,0))) rfl ⟨rfl,trivial⟩ rfl
     ·rw [if_pos (.inr hf)] at hY
      subst hY
      have ef : ((f1 : Int) != 0) = true:=bne_iff_ne.2 (by omega)
      refine pa [.v (.tup [stsA l2,.agg [.int .i64 (f1 : Nat),.int .i64 (f2 : Nat)]]),.b false,.b true] rfl ?_ ?_
      ·(repeat' with_reducible apply AllP_cons) <;> try exact aC
       ·exact ⟨_,hP2,.cons (.refl .str) (.nil _)⟩
      exact S_retc (canonAV_free ([],(2,0))) rfl ⟨rfl,trivial⟩ rfl
  ·have e0 : ((e1 : Int) != 0) = true:=bne_iff_ne.2 (by omega)
   rw [if_pos h1] at hY
   subst hY
   refine pa [.v (.tup [stsA l,.agg [.int .i64 (e1 : Nat),.int .i64 (e2 : Nat)]]),.b true] rfl ?_ ?_
   ·(repeat' with_reducible apply AllP_cons) <;> try exact aC
    ·exact ⟨_,hP,.cons (.refl .str) (.nil _)⟩
   exact S_retc (canonAV_free ([],(e1,e2))) rfl ⟨rfl,trivial⟩ rfl
structure Rd where
 r : List Tok
 f : Flt
def Rd.bad (q : Rd) : Bool:=q.f.1 != 0
def Rd.next (q : Rd) : Rd:=⟨q.r.tail,q.f⟩
def failR (e k : Nat) (q : Rd) : Rd:=if q.bad then q else ⟨q.r,(k,placeS e q.r)⟩
def lkK (q : Rd) : Nat:=if q.bad then 0 else hdK q.r
def lkT (q : Rd) : List UInt8:=if q.bad then [] else hdT q.r
def lkK1 (q : Rd) : Nat:=if q.bad then 0 else hdK q.r.tail
def lkT1 (q : Rd) : List UInt8:=if q.bad then [] else hdT q.r.tail
def isR (l : List (List UInt8)) (q : Rd) : Bool:=(lkK q == 4 || lkK q == 5) && l.contains (lkT q)
def signR (e : Nat) (s : List UInt8) (q : Rd) : Rd:=if isR [s] q then q.next else failR e 1 q
def kindR (e k : Nat) (q : Rd) : List UInt8 × Rd:=if lkK q = k then (lkT q,q.next) else ([],failR e 1 q)
def inR (e n : Nat) (q : Rd) : Rd:=if n = 30 then failR e 2 q else q
def nameR (q : Rd) : Bool:=lkK q == 1 && lkK1 q == 4 && lkT1 q == [61]
def wd (q : Rd) : List UInt8:=if lkK q = 5 then lkT q else []
def atomW (t : List UInt8) : Nat:=if t == wFalse then 3 else if t == wTrue then 2 else 1
mutual
def exprR (e : Nat) : Nat → Nat → Rd → Option (Ex × Rd)
 | 0,_,q => if q.bad then some (.zero,q) else none
 | F + 1,n,q => levR e F 0 (n + 1) (inR e n q)
 termination_by structural F _ _ => F
def levR (e : Nat) : Nat → Nat → Nat → Rd → Option (Ex × Rd)
 | 0,_,_,q => if q.bad then some (.zero,q) else none
 | F + 1,k,n,q => if q.bad then some (.zero,q) else match k with
  | 2 => if isR [wNot] q then (levR e F 2 (n + 1) (inR e n q.next)).bind fun x => some (.mk 12 0 [] [x.1] [],x.2)
   else (levR e F 3 n q).bind fun x => if isR (binS 2) x.2 then (levR e F 3 n x.2.next).bind fun y => some (binE (lkT x.2) x.1 y.1,y.2) else some x
  | 5 => if isR [[45]] q then (levR e F 5 (n + 1) (inR e n q.next)).bind fun x => some (.mk 13 0 [] [x.1] [],x.2)
   else postA e F n q
  | k => (levR e F (k + 1) n q).bind fun x => loopR e F k n x.1 x.2
 termination_by structural F _ _ _ => F
def loopR (e : Nat) : Nat → Nat → Nat → Ex → Rd → Option (Ex × Rd)
 | 0,_,_,x,q => if q.bad then some (x,q) else none
 | F + 1,k,n,x,q => if isR (binS k) q then (levR e F (k + 1) n q.next).bind fun y => loopR e F k n (binE (lkT q) x y.1) y.2 else some (x,q)
 termination_by structural F _ _ _ _ => F
def postA (e : Nat) : Nat → Nat → Rd → Option (Ex × Rd)
 | 0,_,_ => none
 | F + 1,n,q => (atomR e F n q).bind fun x => postR e F n x.1 x.2
 termination_by structural F _ _ => F
def postR (e : Nat) : Nat → Nat → Ex → Rd → Option (Ex × Rd)
 | 0,_,x,q => if q.bad then some (x,q) else none
 | F + 1,n,x,q => if q.bad then some (x,q)
  else if isR [[91]] q then (exprR e F n q.next).bind fun y => postR e F n (.mk 11 0 [] [x,y.1] []) (signR e [93] y.2)
  else if isR [[40]] q then (callR e F n [x] [] q.next).bind fun y => postR e F n y.1 y.2
  else some (x,q)
 termination_by structural F _ _ _ => F
def callR (e : Nat) : Nat → Nat → List Ex → List (List UInt8) → Rd → Option (Ex × Rd)
 | 0,_,ks,ns,q => if q.bad then some (.mk 10 0 [] ks ns,q) else none
 | F + 1,n,ks,ns,q => if q.bad then some (.mk 10 0 [] ks ns,q)
  else if isR [[41]] q then some (.mk 10 0 [] ks ns,q.next)
  else callG e F n ks ns (if ks.length > 1 then signR e [44] q else q)
 termination_by structural F _ _ _ _ => F
def callG (e : Nat) : Nat → Nat → List Ex → List (List UInt8) → Rd → Option (Ex × Rd)
 | 0,_,_,_,_ => none
 | F + 1,n,ks,ns,q => if nameR q then (exprR e F n (if ns.contains (lkT q) then failR e 6 q else q).next.next).bind fun y => callR e F n (ks ++ [y.1]) (ns ++ [lkT q]) y.2
  else (exprR e F n (if ns.length > 0 then failR e 1 q else q)).bind fun y => callR e F n (ks ++ [y.1]) ns y.2
 termination_by structural F _ _ _ _ => F
def atomR (e : Nat) : Nat → Nat → Rd → Option (Ex × Rd)
 | 0,_,_ => none
 | F + 1,n,q =>
  if lkK q = 1 then some (.mk 6 0 (lkT q) [] [],q.next)
  else if lkK q = 2 then some (.mk 4 ((q.r.head?.map Tok.num).getD 0) [] [] [],q.next)
  else if lkK q = 3 then some (.mk 5 0 (lkT q) [] [],q.next)
  else if isR [wNone,wTrue,wFalse] q then some (.mk (atomW (lkT q)) 0 [] [] [],q.next)
  else if isR [[40]] q then (exprR e F n q.next).bind fun x => some (x.1,signR e [41] x.2)
  else if isR [[91]] q then listR e F n 7 [] [] q.next
  else if isR [[123]] q then dictR e F n [] q.next
  else some (.zero,failR e 1 q)
 termination_by structural F _ _ => F
def listR (e : Nat) : Nat → Nat → Nat → List UInt8 → List Ex → Rd → Option (Ex × Rd)
 | 0,_,kd,tx,ks,q => if q.bad then some (.mk kd 0 tx ks [],q) else none
 | F + 1,n,kd,tx,ks,q => if q.bad then some (.mk kd 0 tx ks [],q)
  else if isR [[93]] q then some (.mk kd 0 tx ks [],signR e [93] q)
  else if ks.length = 1 ∧ isR [wFor] q = true then eachR e F n ks (kindR e 1 q.next).1 (signR e wIn (kindR e 1 q.next).2)
  else (exprR e F n (if ks.length > 0 then signR e [44] q else q)).bind fun y => listR e F n kd tx (ks ++ [y.1]) y.2
 termination_by structural F _ _ _ _ _ => F
def eachR (e : Nat) : Nat → Nat → List Ex → List UInt8 → Rd → Option (Ex × Rd)
 | 0,_,_,_,_ => none
 | F + 1,n,ks,t,q => (exprR e F n q).bind fun y => if isR [wIf] y.2 then (exprR e F n y.2.next).bind fun z => some (.mk 9 0 t (ks ++ [y.1] ++ [z.1]) [],signR e [93] z.2)
  else some (.mk 9 0 t (ks ++ [y.1]) [],signR e [93] y.2)
 termination_by structural F _ _ _ _ => F
def dictR (e : Nat) : Nat → Nat → List Ex → Rd → Option (Ex × Rd)
 | 0,_,ks,q => if q.bad then some (.mk 8 0 [] ks [],q) else none
 | F + 1,n,ks,q => if q.bad then some (.mk 8 0 [] ks [],q)
  else if isR [[125]] q then some (.mk 8 0 [] ks [],signR e [125] q)
  else (exprR e F n (if ks.length > 0 then signR e [44] q else q)).bind fun y => (exprR e F n (signR e [58] y.2)).bind fun z => dictR e F n (ks ++ [y.1] ++ [z.1]) z.2
 termination_by structural F _ _ _ => F
end
def paramR (e : Nat) : Nat → List (List UInt8) → Rd → Option (List (List UInt8) × Rd)
 | 0,ns,q => if q.bad then some (ns,q) else none
 | F + 1,ns,q => if q.bad then some (ns,q)
  else if ns.length = 0 ∧ lkK q ≠ 1 then some (ns,q)
  else let x:=kindR e 1 (if lkK q = 1 ∧ ns.contains (lkT q) = true then failR e 6 q else q)
   if isR [[44]] x.2 then paramR e F (ns ++ [x.1]) x.2.next else some (ns ++ [x.1],x.2)
def namesR (e : Nat) : Nat → List (List UInt8) → Rd → Option (List (List UInt8) × Rd)
 | 0,ns,q => if q.bad then some (ns,q) else none
 | F + 1,ns,q => if q.bad then some (ns,q)
  else let x:=kindR e 3 (if lkK q = 3 ∧ isNm (lkT q) = false then failR e 1 q else q)
   if isR [[44]] x.2 then namesR e F (ns ++ [x.1]) x.2.next else some (ns ++ [x.1],x.2)
def loadR (e F b : Nat) (q : Rd) : Option (St × Rd) :=
 let x:=kindR e 3 (signR e [40] (signR e wLoad (if b > 0 then failR e 4 q else q)))
 (namesR e F [] (signR e [44] x.2)).bind fun y => some (.mk 4 x.1 y.1 .zero [] [],signR e [41] y.2)
def smallR (e F d : Nat) (b : Nat) (q : Rd) : Option (St × Rd) :=
 if wd q = wPass then some (.mk 1 [] [] .zero [] [],q.next)
 else if wd q = wReturn then
  let p:=(if d = 0 then failR e 4 q else q).next
  if lkK p ≠ 6 then (exprR e F 0 p).bind fun x => some (.mk 2 [] [] x.1 [] [],x.2) else some (.mk 2 [] [] (.mk 1 0 [] [] []) [] [],p)
 else if wd q = wLoad then loadR e F b q
 else if nameR q then
  let x:=kindR e 1 q
  (exprR e F 0 (signR e [61] x.2)).bind fun y => some (.mk 3 x.1 [] y.1 [] [],y.2)
 else (exprR e F 0 q).bind fun x => some (.mk 5 [] [] x.1 [] [],x.2)
mutual
def stmtsR (e : Nat) : Nat → Nat → Nat → List St → Rd → Option (List St × Rd)
 | 0,_,_,l,q => if lkK q = 0 ∨ lkK q = 8 then some (l,q) else none
 | F + 1,b,d,l,q => if lkK q = 0 ∨ lkK q = 8 then some (l,q) else (stmtR e F b d q).bind fun s => stmtsR e F b d (l ++ [s.1]) s.2
 termination_by structural F _ _ _ _ => F
def blockR (e : Nat) : Nat → Nat → Nat → Rd → Option (List St × Rd)
 | 0,_,_,q => if q.bad then some ([],q) else none
 | F + 1,b,d,q => (stmtsR e F (b + 1) d [] (kindR e 7 (kindR e 6 (signR e [58] q)).2).2).bind fun l => some (l.1,(kindR e 8 l.2).2)
 termination_by structural F _ _ _ => F
def defR (e : Nat) : Nat → Nat → Nat → Rd → Option (St × Rd)
 | 0,_,_,_ => none
 | F + 1,b,d,q =>
  let x:=kindR e 1 (signR e wDef (if b > 0 then failR e 4 q else q))
  (paramR e F [] (signR e [40] x.2)).bind fun ns => (blockR e F b (d + 1) (signR e [41] ns.2)).bind fun l => some (.mk 6 x.1 ns.1 .zero l.1 [],l.2)
 termination_by structural F _ _ _ => F
def stmtR (e : Nat) : Nat → Nat → Nat → Rd → Option (St × Rd)
 | 0,_,_,_ => none
 | F + 1,b,d,q =>
  if wd q = wDef then defR e F b d q
  else if wd q = wIf then (exprR e F 0 q.next).bind fun x => (blockR e F b d x.2).bind fun l => if isR [wElse] l.2 then (blockR e F b d l.2.next).bind fun m => some (.mk 7 [] [] x.1 l.1 m.1,m.2) else some (.mk 7 [] [] x.1 l.1 [],l.2)
  else if wd q = wFor then
   let t:=kindR e 1 q.next
   (exprR e F 0 (signR e wIn t.2)).bind fun x => (blockR e F b d x.2).bind fun l => some (.mk 8 t.1 [] x.1 l.1 [],l.2)
  else (smallR e F d b q).bind fun s => some (s.1,(kindR e 6 s.2).2)
 termination_by structural F _ _ _ => F
end
def parseR (F : Nat) (s : List UInt8) : Option (List St × Flt):=match splitS s with
 | (l,f) => if f.1 ≠ 0 then some ([],f) else (stmtsR s.length F 0 0 [] ⟨l,(0,0)⟩).bind fun x =>
  let q:=if x.2.r.isEmpty then x.2 else failR s.length 1 x.2
  if q.bad then some ([],q.f) else some (x.1,(0,0))
theorem Rd.bad_of {r : List Tok} {k p : Nat} (h : k ≠ 0) : (⟨r,(k,p)⟩ : Rd).bad = true:=bne_iff_ne.2 h
theorem failR_bad {e k : Nat} {q : Rd} (h : q.bad = true) : failR e k q = q:=by unfold failR; rw [if_pos h]
theorem lkK_bad {q : Rd} (h : q.bad = true) : lkK q = 0:=by unfold lkK; rw [if_pos h]
theorem isR_bad {l : List (List UInt8)} {q : Rd} (h : q.bad = true) : isR l q = false:=by unfold isR; rw [lkK_bad h]; rfl
theorem signR_bad {e : Nat} {s : List UInt8} {q : Rd} (h : q.bad = true) : signR e s q = q:=by unfold signR; rw [isR_bad h,failR_bad h]; rfl
theorem kindR_bad {e k : Nat} {q : Rd} (h : q.bad = true) (hk : k ≠ 0) : kindR e k q = ([],q):=by unfold kindR; rw [lkK_bad h,if_neg (by omega),failR_bad h]
theorem inR_bad {e n : Nat} {q : Rd} (h : q.bad = true) : inR e n q = q:=by unfold inR; rw [failR_bad h]; split <;> rfl
theorem nameR_bad {q : Rd} (h : q.bad = true) : nameR q = false:=by unfold nameR; rw [lkK_bad h]; rfl
theorem levR_bad {e : Nat} : ∀ {F k n : Nat} {q : Rd},q.bad = true → levR e F k n q = some (.zero,q)
 | 0,_,_,_,h => if_pos h
 | F + 1,_,_,_,h => by unfold levR; rw [if_pos h]
theorem exprR_bad {e : Nat} : ∀ {F n : Nat} {q : Rd},q.bad = true → exprR e F n q = some (.zero,q)
 | 0,_,_,h => if_pos h
 | F + 1,n,q,h => by unfold exprR; rw [inR_bad h,levR_bad h]
theorem loopR_bad {e : Nat} : ∀ {F k n : Nat} {x : Ex} {q : Rd},q.bad = true → loopR e F k n x q = some (x,q)
 | 0,_,_,_,_,h => if_pos h
 | F + 1,_,_,_,_,h => by unfold loopR; rw [isR_bad h]; rfl
theorem postR_bad {e : Nat} : ∀ {F n : Nat} {x : Ex} {q : Rd},q.bad = true → postR e F n x q = some (x,q)
 | 0,_,_,_,h => if_pos h
 | F + 1,_,_,_,h => by unfold postR; rw [if_pos h]
theorem callR_bad {e : Nat} : ∀ {F n : Nat} {ks : List Ex} {ns : List (List UInt8)} {q : Rd},q.bad = true → callR e F n ks ns q = some (.mk 10 0 [] ks ns,q)
 | 0,_,_,_,_,h => if_pos h
 | F + 1,_,_,_,_,h => by unfold callR; rw [if_pos h]
theorem callG_bad {e F n : Nat} {ks : List Ex} {ns : List (List UInt8)} {q : Rd} (h : q.bad = true) : callG e (F + 1) n ks ns q = some (.mk 10 0 [] (ks ++ [.zero]) ns,q):=by
 unfold callG
 rw [nameR_bad h,if_neg (by decide),failR_bad h,ite_self,exprR_bad h]
 exact callR_bad h
theorem listR_bad {e : Nat} : ∀ {F n kd : Nat} {tx : List UInt8} {ks : List Ex} {q : Rd},q.bad = true → listR e F n kd tx ks q = some (.mk kd 0 tx ks [],q)
 | 0,_,_,_,_,_,h => if_pos h
 | F + 1,_,_,_,_,_,h => by unfold listR; rw [if_pos h]
theorem dictR_bad {e : Nat} : ∀ {F n : Nat} {ks : List Ex} {q : Rd},q.bad = true → dictR e F n ks q = some (.mk 8 0 [] ks [],q)
 | 0,_,_,_,h => if_pos h
 | F + 1,_,_,_,h => by unfold dictR; rw [if_pos h]
theorem eachR_bad {e F n : Nat} {t : List UInt8} {ks : List Ex} {q : Rd} (h : q.bad = true) : eachR e (F + 1) n ks t q = some (.mk 9 0 t (ks ++ [.zero]) [],q):=by
 unfold eachR
 rw [exprR_bad h]
 show (if isR [wIf] q = true then _ else some (Ex.mk 9 0 t (ks ++ [.zero]) [],signR e [93] q)) = _
 rw [isR_bad h,signR_bad h]; rfl
def Ag {α : Type} (e : Nat) (x : Pr α) (y : Option (α × Rd)) : Prop:=match x with
 | .out => True
 | .ok v u => y = some (v,⟨u,(0,0)⟩)
 | .bad k u => k ≠ 0 ∧ ∃ v w,y = some (v,⟨w,(k,placeS e u)⟩)
def Bp {α β : Type} (g : α × Rd → Option (β × Rd)) : Prop:=∀ (v : α) (q : Rd),q.bad = true → ∃ z w,g (v,q) = some (z,⟨w,q.f⟩)
theorem Ag.bind {α β : Type} {e : Nat} {x : Pr α} {y : Option (α × Rd)} {f : α → List Tok → Pr β} {g : α × Rd → Option (β × Rd)} (h : Ag e x y) (hf : ∀ v u,x = .ok v u → Ag e (f v u) (g (v,⟨u,(0,0)⟩))) (hg : Bp g) : Ag e (x.bind f) (y.bind g):=by
 cases x with
 | out => trivial
 | bad k u =>
  obtain ⟨hk,v,w,rfl⟩:=h
  obtain ⟨z,w',h'⟩:=hg v ⟨w,(k,placeS e u)⟩ (Rd.bad_of hk)
  exact ⟨hk,z,w',h'⟩
 | ok v u =>
  have h : y = _:=h
  subst h
  exact hf v u rfl
theorem Ag.step {α β : Type} {e : Nat} {x : Pr α} {v : α} {q : Rd} {f : α → List Tok → Pr β} {g : α → Rd → Option (β × Rd)} (h : Ag e x (some (v,q))) (hf : ∀ v u,x = .ok v u → Ag e (f v u) (g v ⟨u,(0,0)⟩)) (hg : Bp fun x => g x.1 x.2) : Ag e (x.bind f) (g v q) :=
 Ag.bind (g:=fun x => g x.1 x.2) h hf hg
theorem Ag.okv {α : Type} {e : Nat} {v : α} {u : List Tok} : Ag e (.ok v u) (some (v,⟨u,(0,0)⟩)):=rfl
theorem Ag.badv {α : Type} {e k : Nat} {v : α} {u w : List Tok} (hk : k ≠ 0) : Ag e (.bad k u : Pr α) (some (v,⟨w,(k,placeS e u)⟩)):=⟨hk,v,w,rfl⟩
theorem isR_one (s : List UInt8) (r : List Tok) : isR [s] ⟨r,(0,0)⟩ = isS s r:=by
 show ((hdK r == 4 || hdK r == 5) && [s].contains (hdT r)) = ((hdK r == 4 || hdK r == 5) && hdT r == s)
 congr 1
 rw [List.contains_cons]; simp
theorem isR_of (l : List (List UInt8)) (r : List Tok) : isR l ⟨r,(0,0)⟩ = isOf l r:=rfl
theorem mustS_a (e : Nat) (s : List UInt8) (r : List Tok) : Ag e (mustS s r) (some ((),signR e s ⟨r,(0,0)⟩)):=by
 unfold mustS signR
 rw [isR_one]
 split
 ·exact .okv
 ·exact .badv (by decide)
theorem takeS_a (e k : Nat) (r : List Tok) (hk : k ≠ 0) : Ag e ((takeS k r).bind fun t r => .ok t.text r) (some ((kindR e k ⟨r,(0,0)⟩).1,(kindR e k ⟨r,(0,0)⟩).2)):=by
 unfold takeS kindR
 cases r with
 | nil =>
  rw [if_neg (show ¬ lkK ⟨[],(0,0)⟩ = k from fun h => hk h.symm)]
  exact .badv (by decide)
 | cons t u =>
  by_cases h : t.kind = k
  ·rw [if_pos (show lkK ⟨t :: u,(0,0)⟩ = k from h)]
   simp only [if_pos h]
   exact .okv
  ·rw [if_neg (show ¬ lkK ⟨t :: u,(0,0)⟩ = k from h)]
   simp only [if_neg h]
   exact .badv (by decide)
theorem Ag.take {β : Type} {e k : Nat} {r : List Tok} {f : Tok → List Tok → Pr β} {g : List UInt8 × Rd → Option (β × Rd)} (hk : k ≠ 0) (hf : ∀ t u,takeS k r = .ok t u → Ag e (f t u) (g (t.text,⟨u,(0,0)⟩))) (hg : Bp g) : Ag e ((takeS k r).bind f) (g (kindR e k ⟨r,(0,0)⟩)):=by
 have h:=takeS_a e k r hk
 cases hx : takeS k r with
 | out => trivial
 | bad j u =>
  rw [hx] at h
  obtain ⟨hj,v,w,h⟩:=h
  have h : kindR e k ⟨r,(0,0)⟩ = (v,⟨w,(j,placeS e u)⟩):=by
   rw [Option.some.injEq] at h; exact h
  obtain ⟨z,w',h'⟩:=hg v ⟨w,(j,placeS e u)⟩ (Rd.bad_of hj)
  rw [h]
  exact ⟨hj,z,w',h'⟩
 | ok t u =>
  rw [hx] at h
  have h : kindR e k ⟨r,(0,0)⟩ = (t.text,⟨u,(0,0)⟩):=by
   have h : some ((kindR e k ⟨r,(0,0)⟩).1,(kindR e k ⟨r,(0,0)⟩).2) = some (t.text,⟨u,(0,0)⟩):=h
   rw [Option.some.injEq] at h; exact h
  rw [h]
  exact hf t u hx
theorem bp_some {α β : Type} {z : α × Rd → β} {s : α × Rd → Rd} (h : ∀ v (q : Rd),q.bad = true → s (v,q) = q) : Bp fun x : α × Rd => some (z x,s x):=fun v q hq => ⟨z (v,q),q.r,by show some (z (v,q),s (v,q)) = _; rw [h v q hq]⟩
structure AllA (e F : Nat) : Prop where
 expr : ∀ G n r,4 * F ≤ G → Ag e (exprS F n r) (exprR e G n ⟨r,(0,0)⟩)
 lev : ∀ G k n r,4 * F ≤ G → Ag e (levS F k n r) (levR e G k n ⟨r,(0,0)⟩)
 loop : ∀ G k n x r,4 * F ≤ G → Ag e (loopS F k n x r) (loopR e G k n x ⟨r,(0,0)⟩)
 post : ∀ G n x r,4 * F ≤ G → Ag e (postS F n x r) (postR e G n x ⟨r,(0,0)⟩)
 call : ∀ G n ks ns r,4 * F ≤ G → Ag e (callS F n ks ns r) (callR e G n ks ns ⟨r,(0,0)⟩)
 atom : ∀ G n r,4 * F ≤ G → Ag e (atomS F n r) (atomR e G n ⟨r,(0,0)⟩)
 list : ∀ G n r,4 * F ≤ G → Ag e (listS F n r) (listR e G n 7 [] [] ⟨r,(0,0)⟩)
 item : ∀ G n ks r,4 * F ≤ G → 1 ≤ ks.length → (ks.length = 1 → isS wFor r = false) → Ag e (itemS F n ks r) (listR e G n 7 [] ks ⟨r,(0,0)⟩)
 dict : ∀ G n ks r,4 * F ≤ G → Ag e (dictS F n ks r) (dictR e G n ks ⟨r,(0,0)⟩)
theorem levR_b {e F k n : Nat} {q : Rd} (h : k = 0 ∨ k = 1 ∨ k = 3 ∨ k = 4) : levR e (F + 1) k n q = if q.bad then some (.zero,q) else (levR e F (k + 1) n q).bind fun x => loopR e F k n x.1 x.2:=by
 rcases h with rfl | rfl | rfl | rfl <;> rfl
theorem isOf_of0 {sg : List (List UInt8)} {s : List UInt8} {r : List Tok} (hs : s ∈ sg) (h : isS s r = true) : isOf sg r = true ∧ hdT r = s:=by
 simp only [isS,Bool.and_eq_true,beq_iff_eq] at h
 refine ⟨?_,h.2⟩
 unfold isOf
 rw [h.1,h.2]
 simpa using hs
theorem isOf_no0 {sg : List (List UInt8)} {r : List Tok} (h : ∀ s ∈ sg,isS s r = false) : isOf sg r = false:=by
 unfold isOf
 cases hk : (hdK r == 4 || hdK r == 5) with
 | false => rfl
 | true =>
  cases hc : sg.contains (hdT r) with
  | false => rfl
  | true =>
   have:=h _ (by simpa using hc)
   simp [isS,hk] at this
theorem isS_ne {s t : List UInt8} {r : List Tok} (h : isS s r = true) (hne : s ≠ t) : isS t r = false:=by
 simp only [isS,Bool.and_eq_true,beq_iff_eq] at h
 unfold isS
 rw [h.2,beq_false_of_ne hne]; simp
theorem Ag.ite {α : Type} {e : Nat} {x y : Pr α} {z : Option (α × Rd)} {c : Prop} [Decidable c] (h : c → Ag e x z) (h' : ¬ c → Ag e y z) : Ag e (if c then x else y) z:=by
 split
 ·exact h ‹_›
 ·exact h' ‹_›
theorem inR_at {e n : Nat} {r : List Tok} (h : ¬ n = 30) : inR e n ⟨r,(0,0)⟩ = ⟨r,(0,0)⟩:=if_neg h
theorem inR_30 {e : Nat} {r : List Tok} : inR e 30 ⟨r,(0,0)⟩ = ⟨r,(2,placeS e r)⟩:=rfl
theorem allA (e F : Nat) : AllA e F:=by
 induction F with
 | zero => exact ⟨fun _ _ _ _ => trivial,fun _ _ _ _ _ => trivial,fun _ _ _ _ _ _ => trivial,fun _ _ _ _ _ => trivial,fun _ _ _ _ _ _ => trivial,fun _ _ _ _ => trivial,fun _ _ _ _ => trivial,fun _ _ _ _ _ _ _ => trivial,fun _ _ _ _ _ => trivial⟩
 | succ F ih =>
  refine ⟨?_,?_,?_,?_,?_,?_,?_,?_,?_⟩
  ·intro G n r hG
   obtain ⟨G,rfl⟩ : ∃ G',G = G' + 1:=⟨G - 1,by omega⟩
   rw [exprS,exprR]
   refine .ite (fun h => ?_) (fun h => ?_)
   ·subst h
    rw [inR_30,levR_bad (Rd.bad_of (by decide))]
    exact .badv (by decide)
   ·rw [inR_at h]
    exact ih.lev G 0 _ r (by omega)
  ·intro G k n r hG
   obtain ⟨G,rfl⟩ : ∃ G',G = G' + 1:=⟨G - 1,by omega⟩
   have bin : ∀ k,Ag e ((levS F (k + 1) n r).bind fun x r => loopS F k n x r) ((levR e G (k + 1) n ⟨r,(0,0)⟩).bind fun x => loopR e G k n x.1 x.2):=fun k =>
    (ih.lev G (k + 1) n r (by omega)).bind (fun v u _ => ih.loop G k n v u (by omega)) (fun v q hq => ⟨_,q.r,loopR_bad hq⟩)
   match k with
   | 0 => exact bin 0
   | 1 => exact bin 1
   | 3 => exact bin 3
   | 4 => exact bin 4
   | k + 6 => exact bin (k + 6)
   | 2 =>
    rw [levS_2]
    show Ag e _ (if isR [wNot] ⟨r,(0,0)⟩ then (levR e G 2 (n + 1) (inR e n ⟨r.tail,(0,0)⟩)).bind fun x => some (.mk 12 0 [] [x.1] [],x.2)
     else (levR e G 3 n ⟨r,(0,0)⟩).bind fun x => if isR (binS 2) x.2 then (levR e G 3 n x.2.next).bind fun y => some (binE (lkT x.2) x.1 y.1,y.2) else some x)
    rw [isR_one]
    refine .ite (fun h => ?_) (fun h => ?_)
    ·rw [if_pos h]
     refine .ite (fun h => ?_) (fun h => ?_)
     ·subst h
      rw [inR_30,levR_bad (Rd.bad_of (by decide))]
      exact .badv (by decide)
     ·rw [inR_at h]
      exact (ih.lev G 2 _ r.tail (by omega)).bind (fun v u _ => .okv) (bp_some (s:=fun x => x.2) fun _ _ _ => rfl)
    ·rw [if_neg h]
     refine (ih.lev G 3 n r (by omega)).bind (fun v u _ => ?_) (fun v q hq => ⟨v,q.r,?_⟩)
     ·show Ag e _ (if isR (binS 2) ⟨u,(0,0)⟩ then (levR e G 3 n ⟨u.tail,(0,0)⟩).bind fun y => some (binE (hdT u) v y.1,y.2) else some (v,⟨u,(0,0)⟩))
      rw [isR_of]
      refine .ite (fun h => ?_) (fun h => ?_)
      ·rw [if_pos h]
       exact (ih.lev G 3 n u.tail (by omega)).bind (fun v u _ => .okv) (bp_some (s:=fun x => x.2) fun _ _ _ => rfl)
      ·rw [if_neg h]; exact .okv
     ·show (if isR (binS 2) q = true then _ else some (v,q)) = _
      rw [isR_bad hq]; rfl
   | 5 =>
    rw [levS_5]
    show Ag e _ (if isR [[45]] ⟨r,(0,0)⟩ then (levR e G 5 (n + 1) (inR e n ⟨r.tail,(0,0)⟩)).bind fun x => some (.mk 13 0 [] [x.1] [],x.2)
     else postA e G n ⟨r,(0,0)⟩)
    rw [isR_one]
    refine .ite (fun h => ?_) (fun h => ?_)
    ·rw [if_pos h]
     refine .ite (fun h => ?_) (fun h => ?_)
     ·subst h
      rw [inR_30,levR_bad (Rd.bad_of (by decide))]
      exact .badv (by decide)
     ·rw [inR_at h]
      exact (ih.lev G 5 _ r.tail (by omega)).bind (fun v u _ => .okv) (bp_some (s:=fun x => x.2) fun _ _ _ => rfl)
    ·rw [if_neg h]
     obtain ⟨G,rfl⟩ : ∃ G',G = G' + 1:=⟨G - 1,by omega⟩
     rw [postA]
     exact (ih.atom G n r (by omega)).bind (fun v u _ => ih.post G n v u (by omega)) (fun v q hq => ⟨_,q.r,postR_bad hq⟩)
  ·intro G k n x r hG
   obtain ⟨G,rfl⟩ : ∃ G',G = G' + 1:=⟨G - 1,by omega⟩
   rw [loopS,loopR,isR_of]
   refine .ite (fun h => ?_) (fun h => ?_)
   ·rw [if_pos h]
    exact (ih.lev G (k + 1) n r.tail (by omega)).bind (fun v u _ => ih.loop G k n _ u (by omega)) (fun v q hq => ⟨_,q.r,loopR_bad hq⟩)
   ·rw [if_neg h]; exact .okv
  ·intro G n x r hG
   obtain ⟨G,rfl⟩ : ∃ G',G = G' + 1:=⟨G - 1,by omega⟩
   rw [postS]
   show Ag e _ (if isR [[91]] ⟨r,(0,0)⟩ then (exprR e G n ⟨r.tail,(0,0)⟩).bind fun y => postR e G n (.mk 11 0 [] [x,y.1] []) (signR e [93] y.2)
    else if isR [[40]] ⟨r,(0,0)⟩ then (callR e G n [x] [] ⟨r.tail,(0,0)⟩).bind fun y => postR e G n y.1 y.2 else some (x,⟨r,(0,0)⟩))
   rw [isR_one,isR_one]
   refine .ite (fun h => ?_) (fun h => ?_)
   ·rw [isS_ne h (by decide),if_neg (by decide),if_pos h]
    exact (ih.call G n _ _ r.tail (by omega)).bind (fun v u _ => ih.post G n _ u (by omega)) (fun v q hq => ⟨_,q.r,postR_bad hq⟩)
   ·rw [if_neg h]
    refine .ite (fun h => ?_) (fun h => ?_)
    ·rw [if_pos h]
     refine (ih.expr G n r.tail (by omega)).bind (fun v u _ => ?_) (fun v q hq => ⟨.mk 11 0 [] [x,v] [],q.r,?_⟩)
     ·exact Ag.step (g:=fun _ q => postR e G n (.mk 11 0 [] [x,v] []) q) (mustS_a e [93] u) (fun _ w _ => ih.post G n _ w (by omega)) (fun _ q hq => ⟨_,q.r,postR_bad hq⟩)
     ·show postR e G n (.mk 11 0 [] [x,v] []) (signR e [93] q) = _
      rw [signR_bad hq]; exact postR_bad hq
    ·rw [if_neg h]; exact .okv
  ·intro G n ks ns r hG
   obtain ⟨G,rfl⟩ : ∃ G',G = G' + 1:=⟨G - 1,by omega⟩
   obtain ⟨G,rfl⟩ : ∃ G',G = G' + 1:=⟨G - 1,by omega⟩
   rw [callS]
   show Ag e _ (if isR [[41]] ⟨r,(0,0)⟩ then some (.mk 10 0 [] ks ns,⟨r.tail,(0,0)⟩)
    else callG e (G + 1) n ks ns (if ks.length > 1 then signR e [44] ⟨r,(0,0)⟩ else ⟨r,(0,0)⟩))
   rw [isR_one]
   refine .ite (fun h => ?_) (fun h => ?_)
   ·rw [if_pos h]; exact .okv
   rw [if_neg h]
   have hm : Ag e (if ks.length > 1 then mustS [44] r else .ok () r) (some ((),if ks.length > 1 then signR e [44] ⟨r,(0,0)⟩ else ⟨r,(0,0)⟩)):=by
    split
    ·exact mustS_a e _ r
    ·exact .okv
   refine Ag.step (g:=fun _ q => callG e (G + 1) n ks ns q) hm (fun _ u _ => ?_) (fun _ q hq => ⟨_,q.r,callG_bad hq⟩)
   show Ag e _ (if nameS u then (exprR e G n (if ns.contains (hdT u) then failR e 6 ⟨u,(0,0)⟩ else ⟨u,(0,0)⟩).next.next).bind fun y => callR e G n (ks ++ [y.1]) (ns ++ [hdT u]) y.2
    else (exprR e G n (if ns.length > 0 then failR e 1 ⟨u,(0,0)⟩ else ⟨u,(0,0)⟩)).bind fun y => callR e G n (ks ++ [y.1]) ns y.2)
   refine .ite (fun h => ?_) (fun h => ?_)
   ·rw [if_pos h]
    refine .ite (fun h => ?_) (fun h => ?_)
    ·have hb : (failR e 6 ⟨u,(0,0)⟩).next.next.bad = true:=rfl
     rw [if_pos h,exprR_bad hb]
     exact ⟨by decide,_,_,callR_bad hb⟩
    ·rw [if_neg h]
     exact (ih.expr G n u.tail.tail (by omega)).bind (fun v w _ => ih.call G n _ _ w (by omega)) (fun v q hq => ⟨_,q.r,callR_bad hq⟩)
   ·rw [if_neg h]
    refine .ite (fun h => ?_) (fun h => ?_)
    ·have hb : (failR e 1 ⟨u,(0,0)⟩).bad = true:=rfl
     rw [if_pos h,exprR_bad hb]
     exact ⟨by decide,_,_,callR_bad hb⟩
    ·rw [if_neg h]
     exact (ih.expr G n u (by omega)).bind (fun v w _ => ih.call G n _ _ w (by omega)) (fun v q hq => ⟨_,q.r,callR_bad hq⟩)
  ·intro G n r hG
   obtain ⟨G,rfl⟩ : ∃ G',G = G' + 1:=⟨G - 1,by omega⟩
   cases r with
   | nil => exact .badv (by decide)
   | cons t u =>
    show Ag e _ (if t.kind = 1 then some (.mk 6 0 t.text [] [],⟨u,(0,0)⟩)
     else if t.kind = 2 then some (.mk 4 t.num [] [] [],⟨u,(0,0)⟩)
     else if t.kind = 3 then some (.mk 5 0 t.text [] [],⟨u,(0,0)⟩)
     else if isR [wNone,wTrue,wFalse] ⟨t :: u,(0,0)⟩ then some (.mk (atomW t.text) 0 [] [] [],⟨u,(0,0)⟩)
     else if isR [[40]] ⟨t :: u,(0,0)⟩ then (exprR e G n ⟨u,(0,0)⟩).bind fun x => some (x.1,signR e [41] x.2)
     else if isR [[91]] ⟨t :: u,(0,0)⟩ then listR e G n 7 [] [] ⟨u,(0,0)⟩
     else if isR [[123]] ⟨t :: u,(0,0)⟩ then dictR e G n [] ⟨u,(0,0)⟩
     else some (.zero,failR e 1 ⟨t :: u,(0,0)⟩))
    rw [isR_one,isR_one,isR_one,isR_of,atomS]
    refine .ite (fun h => ?_) (fun h => ?_)
    ·rw [if_pos h]; exact .okv
    rw [if_neg h]
    refine .ite (fun h => ?_) (fun h => ?_)
    ·rw [if_pos h]; exact .okv
    rw [if_neg h]
    refine .ite (fun h => ?_) (fun h => ?_)
    ·rw [if_pos h]; exact .okv
    rw [if_neg h]
    refine .ite (fun h => ?_) (fun h1 => ?_)
    ·have:=isOf_of0 (sg:=[wNone,wTrue,wFalse]) (s:=wNone) (by decide) h
     rw [if_pos this.1,show t.text = wNone from this.2]; exact .okv
    refine .ite (fun h => ?_) (fun h2 => ?_)
    ·have:=isOf_of0 (sg:=[wNone,wTrue,wFalse]) (s:=wTrue) (by decide) h
     rw [if_pos this.1,show t.text = wTrue from this.2]; exact .okv
    refine .ite (fun h => ?_) (fun h3 => ?_)
    ·have:=isOf_of0 (sg:=[wNone,wTrue,wFalse]) (s:=wFalse) (by decide) h
     rw [if_pos this.1,show t.text = wFalse from this.2]; exact .okv
    rw [isOf_no0 (sg:=[wNone,wTrue,wFalse]) (by
     intro s hs
     simp only [List.mem_cons,List.not_mem_nil,or_false] at hs
     rcases hs with rfl | rfl | rfl
     ·exact (Bool.not_eq_true _).mp h1
     ·exact (Bool.not_eq_true _).mp h2
     ·exact (Bool.not_eq_true _).mp h3),if_neg (show ¬ (false = true) from nofun)]
    refine .ite (fun h => ?_) (fun h => ?_)
    ·rw [if_pos h]
     refine (ih.expr G n u (by omega)).bind (fun v w _ => ?_) (fun v q hq => ⟨v,q.r,?_⟩)
     ·exact Ag.step (g:=fun _ q => some (v,q)) (mustS_a e [41] w) (fun _ _ _ => .okv) (bp_some (s:=fun x => x.2) fun _ _ _ => rfl)
     ·show some (v,signR e [41] q) = _
      rw [signR_bad hq]
    rw [if_neg h]
    refine .ite (fun h => ?_) (fun h => ?_)
    ·rw [if_pos h]; exact ih.list G n u (by omega)
    rw [if_neg h]
    refine .ite (fun h => ?_) (fun h => ?_)
    ·rw [if_pos h]; exact ih.dict G n [] u (by omega)
    rw [if_neg h]; exact .badv (by decide)
  ·intro G n r hG
   obtain ⟨G,rfl⟩ : ∃ G',G = G' + 1:=⟨G - 1,by omega⟩
   rw [listS]
   show Ag e _ (if isR [[93]] ⟨r,(0,0)⟩ then some (.mk 7 0 [] [] [],signR e [93] ⟨r,(0,0)⟩)
    else if ([] : List Ex).length = 1 ∧ isR [wFor] ⟨r,(0,0)⟩ = true then _
    else (exprR e G n ⟨r,(0,0)⟩).bind fun y => listR e G n 7 [] [y.1] y.2)
   rw [if_neg (fun h : ([] : List Ex).length = 1 ∧ _ => by cases h.1)]
   unfold signR
   rw [isR_one]
   refine .ite (fun h => ?_) (fun h => ?_)
   ·rw [if_pos h,if_pos h]; exact .okv
   rw [if_neg h]
   refine (ih.expr G n r (by omega)).bind (fun v u _ => ?_) (fun v q hq => ⟨_,q.r,listR_bad hq⟩)
   refine .ite (fun h => ?_) (fun h => ih.item G n [v] u (by omega) (by simp) (fun _ => (Bool.not_eq_true _).mp h))
   obtain ⟨G,rfl⟩ : ∃ G',G = G' + 1:=⟨G - 1,by omega⟩
   show Ag e _ (if isR [[93]] ⟨u,(0,0)⟩ then _
    else if ([v] : List Ex).length = 1 ∧ isR [wFor] ⟨u,(0,0)⟩ = true then eachR e G n [v] (kindR e 1 ⟨u.tail,(0,0)⟩).1 (signR e wIn (kindR e 1 ⟨u.tail,(0,0)⟩).2)
    else _)
   rw [isR_one,isR_one,isS_ne h (by decide),if_neg (by decide),if_pos ⟨rfl,h⟩]
   obtain ⟨G,rfl⟩ : ∃ G',G = G' + 1:=⟨G - 1,by omega⟩
   refine Ag.take (g:=fun x => eachR e (G + 1) n [v] x.1 (signR e wIn x.2)) (by decide) (fun t w _ => ?_) (fun v q hq => ⟨_,q.r,by show eachR e (G + 1) n _ _ (signR e wIn q) = _; rw [signR_bad hq]; exact eachR_bad hq⟩)
   refine Ag.step (g:=fun _ q => eachR e (G + 1) n [v] t.text q) (mustS_a e wIn w) (fun _ w _ => ?_) (fun _ q hq => ⟨_,q.r,eachR_bad hq⟩)
   rw [eachR]
   refine (ih.expr G n w (by omega)).bind (fun y u _ => ?_) (fun v q hq => ?_)
   ·show Ag e _ (if isR [wIf] ⟨u,(0,0)⟩ then (exprR e G n ⟨u.tail,(0,0)⟩).bind fun z => some (Ex.mk 9 0 t.text [v,y,z.1] [],signR e [93] z.2) else some (Ex.mk 9 0 t.text [v,y] [],signR e [93] ⟨u,(0,0)⟩))
    rw [isR_one]
    refine .ite (fun h => ?_) (fun h => ?_)
    ·rw [if_pos h]
     refine (ih.expr G n u.tail (by omega)).bind (fun z w _ => ?_) (bp_some (s:=fun x => signR e [93] x.2) fun _ q hq => signR_bad hq)
     exact Ag.step (g:=fun _ q => some (_,q)) (mustS_a e [93] w) (fun _ _ _ => .okv) (bp_some (s:=fun x => x.2) fun _ _ _ => rfl)
    ·rw [if_neg h]
     exact Ag.step (g:=fun _ q => some (_,q)) (mustS_a e [93] u) (fun _ _ _ => .okv) (bp_some (s:=fun x => x.2) fun _ _ _ => rfl)
   ·show ∃ z w,(if isR [wIf] q = true then _ else some (Ex.mk 9 0 t.text _ [],signR e [93] q)) = some (z,⟨w,q.f⟩)
    rw [isR_bad hq,signR_bad hq]
    exact ⟨_,q.r,rfl⟩
  ·intro G n ks r hG h1 h2
   obtain ⟨G,rfl⟩ : ∃ G',G = G' + 1:=⟨G - 1,by omega⟩
   rw [itemS]
   show Ag e _ (if isR [[93]] ⟨r,(0,0)⟩ then some (.mk 7 0 [] ks [],signR e [93] ⟨r,(0,0)⟩)
    else if ks.length = 1 ∧ isR [wFor] ⟨r,(0,0)⟩ = true then _
    else (exprR e G n (if ks.length > 0 then signR e [44] ⟨r,(0,0)⟩ else ⟨r,(0,0)⟩)).bind fun y => listR e G n 7 [] (ks ++ [y.1]) y.2)
   rw [isR_one,isR_one,if_pos (show ks.length > 0 by omega),if_neg (fun h : ks.length = 1 ∧ _ => by rw [h2 h.1] at h; cases h.2)]
   refine .ite (fun h => ?_) (fun h => ?_)
   ·rw [if_pos h]
    unfold signR
    rw [isR_one,if_pos h]; exact .okv
   rw [if_neg h]
   refine Ag.step (g:=fun _ q => (exprR e G n q).bind fun y => listR e G n 7 [] (ks ++ [y.1]) y.2) (mustS_a e [44] r) (fun _ u _ => ?_) (fun _ q hq => ⟨_,q.r,by show (exprR e G n q).bind _ = _; rw [exprR_bad hq]; exact listR_bad hq⟩)
   exact (ih.expr G n u (by omega)).bind (fun v w _ => ih.item G n _ w (by omega) (by simp) (fun h => by simp at h; rw [h] at h1; simp at h1)) (fun v q hq => ⟨_,q.r,listR_bad hq⟩)
  ·intro G n ks r hG
   obtain ⟨G,rfl⟩ : ∃ G',G = G' + 1:=⟨G - 1,by omega⟩
   rw [dictS]
   show Ag e _ (if isR [[125]] ⟨r,(0,0)⟩ then some (.mk 8 0 [] ks [],signR e [125] ⟨r,(0,0)⟩)
    else (exprR e G n (if ks.length > 0 then signR e [44] ⟨r,(0,0)⟩ else ⟨r,(0,0)⟩)).bind fun y => (exprR e G n (signR e [58] y.2)).bind fun z => dictR e G n (ks ++ [y.1] ++ [z.1]) z.2)
   rw [isR_one]
   refine .ite (fun h => ?_) (fun h => ?_)
   ·rw [if_pos h]
    unfold signR
    rw [isR_one,if_pos h]; exact .okv
   rw [if_neg h]
   have hm : Ag e (if ks.length > 0 then mustS [44] r else .ok () r) (some ((),if ks.length > 0 then signR e [44] ⟨r,(0,0)⟩ else ⟨r,(0,0)⟩)):=by
    split
    ·exact mustS_a e _ r
    ·exact .okv
   have b2 : ∀ (y : Ex) (q : Rd),q.bad = true → (exprR e G n q).bind (fun z => dictR e G n (ks ++ [y] ++ [z.1]) z.2) = some (Ex.mk 8 0 [] (ks ++ [y] ++ [Ex.zero]) [],q):=fun y q hq => by
    rw [exprR_bad hq]; exact dictR_bad hq
   have b1 : ∀ q : Rd,q.bad = true → (exprR e G n q).bind (fun y => (exprR e G n (signR e [58] y.2)).bind fun z => dictR e G n (ks ++ [y.1] ++ [z.1]) z.2) = some (Ex.mk 8 0 [] (ks ++ [Ex.zero] ++ [Ex.zero]) [],q):=fun q hq => by
    rw [exprR_bad hq]
    show (exprR e G n (signR e [58] q)).bind _ = _
    rw [signR_bad hq]; exact b2 _ q hq
   refine Ag.step (g:=fun _ q => (exprR e G n q).bind fun y => (exprR e G n (signR e [58] y.2)).bind fun z => dictR e G n (ks ++ [y.1] ++ [z.1]) z.2) hm (fun _ u _ => ?_) (fun _ q hq => ⟨_,q.r,b1 q hq⟩)
   refine (ih.expr G n u (by omega)).bind (fun y w _ => ?_) (fun y q hq => ⟨_,q.r,by show (exprR e G n (signR e [58] q)).bind _ = _; rw [signR_bad hq]; exact b2 y q hq⟩)
   refine Ag.step (g:=fun _ q => (exprR e G n q).bind fun z => dictR e G n (ks ++ [y] ++ [z.1]) z.2) (mustS_a e [58] w) (fun _ u _ => ?_) (fun _ q hq => ⟨_,q.r,b2 y q hq⟩)
   exact (ih.expr G n u (by omega)).bind (fun z w _ => ih.dict G n _ w (by omega)) (fun v q hq => ⟨_,q.r,dictR_bad hq⟩)
theorem next_s {l : List Tok} {q : Rd} (hr : q.r <:+ l) : q.next.r <:+ l:=(List.tail_suffix q.r).trans hr
theorem fail_s {l : List Tok} {q : Rd} {e k : Nat} (hr : q.r <:+ l) : (failR e k q).r <:+ l:=by unfold failR; split <;> exact hr
theorem fail_r {q : Rd} {e k : Nat} : (failR e k q).r = q.r:=by unfold failR; split <;> rfl
theorem sign_s {l : List Tok} {q : Rd} {e : Nat} {s : List UInt8} (hr : q.r <:+ l) : (signR e s q).r <:+ l:=by
 unfold signR; split
 ·exact next_s hr
 ·exact fail_s hr
theorem kind_s {l : List Tok} {q : Rd} {e k : Nat} (hr : q.r <:+ l) : (kindR e k q).2.r <:+ l:=by
 unfold kindR; split
 ·exact next_s hr
 ·exact fail_s hr
theorem in_s {l : List Tok} {q : Rd} {e n : Nat} (hr : q.r <:+ l) : (inR e n q).r <:+ l:=by
 unfold inR; split
 ·exact fail_s hr
 ·exact hr
theorem ite_s {l : List Tok} {q q' : Rd} {c : Prop} [Decidable c] (h : q.r <:+ l) (h' : q'.r <:+ l) : (if c then q else q').r <:+ l:=by
 split
 ·exact h
 ·exact h'
def Sr {α : Type} (r : List Tok) (x : Option (α × Rd)) : Prop:=∀ y,x = some y → y.2.r <:+ r
theorem Sr.none {α : Type} {r : List Tok} : Sr r (.none : Option (α × Rd)):=nofun
theorem Sr.some {α : Type} {r : List Tok} {v : α} {q : Rd} (h : q.r <:+ r) : Sr r (.some (v,q)):=by intro y h'; cases h'; exact h
theorem Sr.bind {α β : Type} {r : List Tok} {x : Option (α × Rd)} {f : α × Rd → Option (β × Rd)} (h : Sr r x) (hf : ∀ y : α × Rd,y.2.r <:+ r → Sr r (f y)) : Sr r (x.bind f):=by
 cases x with
 | none => exact .none
 | some y => exact hf y (h y rfl)
theorem Sr.ite {α : Type} {r : List Tok} {x y : Option (α × Rd)} {c : Prop} [Decidable c] (h : Sr r x) (h' : Sr r y) : Sr r (if c then x else y):=by
 split
 ·exact h
 ·exact h'
theorem Sr.base {α : Type} {r : List Tok} {v : α} {q : Rd} (h : q.r <:+ r) : Sr r (if q.bad then .some (v,q) else .none):=.ite (.some h) .none
structure AllR (e : Nat) (r : List Tok) (F : Nat) : Prop where
 expr : ∀ n q,q.r <:+ r → Sr r (exprR e F n q)
 lev : ∀ k n q,q.r <:+ r → Sr r (levR e F k n q)
 loop : ∀ k n x q,q.r <:+ r → Sr r (loopR e F k n x q)
 postA : ∀ n q,q.r <:+ r → Sr r (postA e F n q)
 post : ∀ n x q,q.r <:+ r → Sr r (postR e F n x q)
 call : ∀ n ks ns q,q.r <:+ r → Sr r (callR e F n ks ns q)
 callG : ∀ n ks ns q,q.r <:+ r → Sr r (callG e F n ks ns q)
 atom : ∀ n q,q.r <:+ r → Sr r (atomR e F n q)
 list : ∀ n kd tx ks q,q.r <:+ r → Sr r (listR e F n kd tx ks q)
 each : ∀ n ks t q,q.r <:+ r → Sr r (eachR e F n ks t q)
 dict : ∀ n ks q,q.r <:+ r → Sr r (dictR e F n ks q)
theorem allR (e : Nat) (r : List Tok) (F : Nat) : AllR e r F:=by
 induction F with
 | zero => exact ⟨fun _ _ h => .base h,fun _ _ _ h => .base h,fun _ _ _ _ h => .base h,fun _ _ _ => .none,fun _ _ _ h => .base h,fun _ _ _ _ h => .base h,fun _ _ _ _ _ => .none,fun _ _ _ => .none,fun _ _ _ _ _ h => .base h,fun _ _ _ _ _ => .none,fun _ _ _ h => .base h⟩
 | succ F ih =>
  refine ⟨?_,?_,?_,?_,?_,?_,?_,?_,?_,?_,?_⟩
  ·intro n q h; rw [exprR]; exact ih.lev _ _ _ (in_s h)
  ·intro k n q h
   unfold levR
   refine .ite (.some h) ?_
   split
   ·exact .ite ((ih.lev _ _ _ (in_s (next_s h))).bind fun y hy => .some hy) ((ih.lev _ _ _ h).bind fun y hy => .ite ((ih.lev _ _ _ (next_s hy)).bind fun z hz => .some hz) (.some hy))
   ·exact .ite ((ih.lev _ _ _ (in_s (next_s h))).bind fun y hy => .some hy) (ih.postA _ _ h)
   ·exact (ih.lev _ _ _ h).bind fun y hy => ih.loop _ _ _ _ hy
  ·intro k n x q h; rw [loopR]; exact .ite ((ih.lev _ _ _ (next_s h)).bind fun y hy => ih.loop _ _ _ _ hy) (.some h)
  ·intro n q h; rw [postA]; exact (ih.atom _ _ h).bind fun y hy => ih.post _ _ _ hy
  ·intro n x q h; rw [postR]; exact .ite (.some h) (.ite ((ih.expr _ _ (next_s h)).bind fun y hy => ih.post _ _ _ (sign_s hy)) (.ite ((ih.call _ _ _ _ (next_s h)).bind fun y hy => ih.post _ _ _ hy) (.some h)))
  ·intro n ks ns q h; rw [callR]; exact .ite (.some h) (.ite (.some (next_s h)) (ih.callG _ _ _ _ (ite_s (sign_s h) h)))
  ·intro n ks ns q h; rw [callG]; exact .ite ((ih.expr _ _ (next_s (next_s (ite_s (fail_s h) h)))).bind fun y hy => ih.call _ _ _ _ hy) ((ih.expr _ _ (ite_s (fail_s h) h)).bind fun y hy => ih.call _ _ _ _ hy)
  ·intro n q h; rw [atomR]
   exact .ite (.some (next_s h)) (.ite (.some (next_s h)) (.ite (.some (next_s h)) (.ite (.some (next_s h)) (.ite ((ih.expr _ _ (next_s h)).bind fun y hy => .some (sign_s hy)) (.ite (ih.list _ _ _ _ _ (next_s h)) (.ite (ih.dict _ _ _ (next_s h)) (.some (fail_s h))))))))
  ·intro n kd tx ks q h; rw [listR]
   exact .ite (.some h) (.ite (.some (sign_s h)) (.ite (ih.each _ _ _ _ (sign_s (kind_s (next_s h)))) ((ih.expr _ _ (ite_s (sign_s h) h)).bind fun y hy => ih.list _ _ _ _ _ hy)))
  ·intro n ks t q h; rw [eachR]
   exact (ih.expr _ _ h).bind fun y hy => .ite ((ih.expr _ _ (next_s hy)).bind fun z hz => .some (sign_s hz)) (.some (sign_s hy))
  ·intro n ks q h; rw [dictR]
   exact .ite (.some h) (.ite (.some (sign_s h)) ((ih.expr _ _ (ite_s (sign_s h) h)).bind fun y hy => (ih.expr _ _ (sign_s hy)).bind fun z hz => ih.dict _ _ _ hz))
def rdB (v : Nat) (l : List Tok) (q : Rd) (e b d n : Nat) : Nat × Option Box:=(v,some (.cells [.sl true false 4 (l.map tokA),.int .i64 (e : Nat),.int .i64 ((l.length - q.r.length : Nat) : Int),.int .i64 (q.f.1 : Nat),.int .i64 (q.f.2 : Nat),.int .i64 (b : Nat),.int .i64 (d : Nat),.int .i64 (n : Nat)] ⟨false,some 48⟩))
def rdI (v : Nat) (l : List Tok) (a : Int) (f : Flt) (e b d n : Int) : Nat × Option Box:=(v,some (.cells [.sl true false 4 (l.map tokA),.int .i64 e,.int .i64 a,.int .i64 (f.1 : Nat),.int .i64 (f.2 : Nat),.int .i64 b,.int .i64 d,.int .i64 n] ⟨false,some 48⟩))
theorem rdB_free (v : Nat) (l : List Tok) (q : Rd) (e b d n : Nat) : ∀ x ∈ [AV.sl true false 4 (l.map tokA),.int .i64 (e : Nat),.int .i64 ((l.length - q.r.length : Nat) : Int),.int .i64 (q.f.1 : Nat),.int .i64 (q.f.2 : Nat),.int .i64 (b : Nat),.int .i64 (d : Nat),.int .i64 (n : Nat)],Free false x:=by
 intro x hx
 simp only [List.mem_cons,List.not_mem_nil,or_false] at hx
 rcases hx with rfl | rfl | rfl | rfl | rfl | rfl | rfl | rfl
 ·exact .sl (fun h => by cases h) (toks_free l)
 all_goals exact .int
theorem rd_rn (v : Nat) (l : List Tok) (q : Rd) (e b d n : Nat) : RnH (List.range 1) [rdB v l q e b d n] [rdB v l q e b d n] :=
 .cons (.live (.cells (.free (rdB_free v l q e b d n)))) (.nil _)
theorem rd_low (v : Nat) (l : List Tok) (q : Rd) (e b d n : Nat) (τ : Heap) : LowH 1 (rdB v l q e b d n :: τ):=by
 intro id ver x hid hx
 match id,hid with
 | 0,_ =>
  cases hx
  exact .cells fun y hy => Low.free (rdB_free v l q e b d n y hy)
theorem rT {f : FuncId} {xs : List AV} {x : AV} {v : Nat} {l : List Tok} {q q' : Rd} {e b d n b' d' n' : Nat} (h : CallOk cx f (.ptr 0 v 0 :: xs) [rdB v l q e b d n] (fun o s => o = .ret x ∧ s = [rdB v l q' e b' d' n'])) (hx : Free false x) (hxs : ∀ y ∈ xs,Free false y) (τ : Heap) :
  CallOk cx f (.ptr 0 v 0 :: xs) (rdB v l q e b d n :: τ) (fun o s => o = .ret x ∧ s = rdB v l q' e b' d' n' :: τ) :=
 h.pre1 1 τ rfl rfl (arg0_rn v xs hxs) (rd_rn ..) (rd_rn ..) (.free hx)
theorem rfin {v : Nat} {l : List Tok} {q : Rd} {e b d n : Nat} {x z : AV} {τ : Heap} (h : FzT 1 (rdB v l q e b d n :: τ) z x) : TR 1 (fun o s => o = .ret x ∧ s = [rdB v l q e b d n]) (.ret z) (rdB v l q e b d n :: τ) :=
 ⟨1,Nat.le_refl _,rd_low _ _ _ _ _ _ _ _,x,h,rfl,rfl⟩
theorem rbad_ok (v : Nat) (l : List Tok) (q : Rd) (e b d n : Nat) : CallOk cx 25 [.ptr 0 v 0] [rdB v l q e b d n] (fun o s => o = .ret (.bool q.bad) ∧ s = [rdB v l q e b d n]) :=
 callOk_intro (fun a w => Tryz.call25 a w) Tryz.func25 rfl Tryz.ntmps25 rfl fun B => by
  refine pB [] rfl ?_
  refine S_ret ⟨_,_,rfl,trivial,?_,rfl⟩
  show Out.ret (.bool ((q.f.1 : Int) != ((0 : Nat) : Int))) = _
  rw [bne_nat]; rfl
theorem rbadT (v : Nat) (l : List Tok) (q : Rd) (e b d n : Nat) (τ : Heap) : CallOk cx 25 [.ptr 0 v 0] (rdB v l q e b d n :: τ) (fun o s => o = .ret (.bool q.bad) ∧ s = rdB v l q e b d n :: τ) :=
 rT (rbad_ok v l q e b d n) .bool (by simp) τ
theorem rfail_ok (v : Nat) (l : List Tok) (q : Rd) (e b d n k : Nat) (hr : q.r <:+ l) (hl : l.length ≤ 100000) : CallOk cx 26 [.ptr 0 v 0,.int .i64 (k : Nat)] [rdB v l q e b d n] (fun o s => o = .ret (.tup []) ∧ s = [rdB v l (failR e k q) e b d n]) :=
 callOk_intro (fun a w => Tryz.call26 a w) Tryz.func26 rfl Tryz.ntmps26 rfl fun B => by
  have hb:=rbad_ok v l q e b d n
  have hml : (l.map tokA).length = l.length:=by simp
  unfold failR
  by_cases h : q.bad = true
  ·rw [if_pos h]
   rw [h] at hb
   refine pB [.k (.bool true),.b true] rfl ?_
   exact S_ret ⟨_,_,rfl,trivial,rfl,rfl⟩
  rw [if_neg h]
  rw [(Bool.not_eq_true _).mp h] at hb
  obtain ⟨r,f⟩:=q
  have hr : r <:+ l:=hr
  cases r with
  | nil =>
   refine pa [.k (.bool false),.b false,.b false] rfl ?_ ?_
   ·(repeat' with_reducible apply AllP_cons) <;> try exact aC
    exact decide_eq_false (by rw [hml]; simp)
   exact S_nil ⟨_,_,rfl,trivial,rfl,rfl⟩
  | cons t u =>
   have hg:=suf_get hr
   have ht:=suf_lt hr
   refine pa [.k (.bool false),.b false,.b true,.v (tokA t)] rfl ?_ ?_
   ·(repeat' with_reducible apply AllP_cons) <;> try exact aC
    exact decide_eq_true (by rw [hml]; show ((l.length - (t :: u).length : Nat) : Int) < _; omega)
   exact S_nil ⟨_,_,rfl,trivial,rfl,rfl⟩
theorem rfailT (v : Nat) (l : List Tok) (q : Rd) (e b d n k : Nat) (τ : Heap) (hr : q.r <:+ l) (hl : l.length ≤ 100000) : CallOk cx 26 [.ptr 0 v 0,.int .i64 (k : Nat)] (rdB v l q e b d n :: τ) (fun o s => o = .ret (.tup []) ∧ s = rdB v l (failR e k q) e b d n :: τ) :=
 rT (rfail_ok v l q e b d n k hr hl) (.tup (by simp)) (by intro y hy; simp at hy; subst hy; exact .int) τ
def lookA (k : Nat) (t : List UInt8) : AV:=.tup [.int .i64 (k : Nat),.str t]
theorem lookA_free {st : Bool} (k : Nat) (t : List UInt8) : Free st (lookA k t):=.tup (by intro y hy; simp at hy; rcases hy with rfl | rfl; exact .int; exact .str)
theorem rlook_ok (v : Nat) (l : List Tok) (q : Rd) (e b d n : Nat) (hr : q.r <:+ l) (hl : l.length ≤ 100000) : CallOk cx 38 [.ptr 0 v 0,.int .i64 0] [rdB v l q e b d n] (fun o s => o = .ret (lookA (lkK q) (lkT q)) ∧ s = [rdB v l q e b d n]) :=
 callOk_intro (fun a w => Tryz.call38 a w) Tryz.func38 rfl Tryz.ntmps38 rfl fun B => by
  have hb:=rbad_ok v l q e b d n
  have hml : (l.map tokA).length = l.length:=by simp
  unfold lkK lkT
  by_cases h : q.bad = true
  ·rw [if_pos h,if_pos h]
   rw [h] at hb
   refine pB [.k (.bool true),.b true,.b true] rfl ?_
   exact S_ret ⟨_,_,rfl,trivial,rfl,rfl⟩
  rw [if_neg h,if_neg h]
  rw [(Bool.not_eq_true _).mp h] at hb
  obtain ⟨r,f⟩:=q
  have hr : r <:+ l:=hr
  have hw : IntKind.i64.wrap (((l.length - r.length : Nat) : Int) + 0) = ((l.length - r.length : Nat) : Int):=by rw [IntWalk.i64_in _ ⟨by omega,by omega⟩]; omega
  cases r with
  | nil =>
   refine pa [.k (.bool false),.b false,.b true] rfl ?_ ?_
   ·(repeat' with_reducible apply AllP_cons) <;> try exact aC
    exact decide_eq_true (by rw [hw,hml]; simp)
   exact S_ret ⟨_,_,rfl,trivial,rfl,rfl⟩
  | cons t u =>
   have hg:=suf_get hr
   have ht:=suf_lt hr
   have hd : decide (IntKind.i64.wrap (((l.length - (t :: u).length : Nat) : Int) + 0) ≥ ((l.map tokA).length : Nat)) = false:=decide_eq_false (by rw [hw,hml]; omega)
   refine pa [.k (.bool false),.b false,.b false,.v (tokA t),.v (tokA t)] rfl ?_ ?_
   ·(repeat' with_reducible apply AllP_cons) <;> first | exact hd | (rw [hw]; exact hg) | (rw [hw]; omega) | exact aC | skip
   exact S_ret ⟨_,_,rfl,trivial,rfl,rfl⟩
theorem rlookT (v : Nat) (l : List Tok) (q : Rd) (e b d n : Nat) (τ : Heap) (hr : q.r <:+ l) (hl : l.length ≤ 100000) : CallOk cx 38 [.ptr 0 v 0,.int .i64 0] (rdB v l q e b d n :: τ) (fun o s => o = .ret (lookA (lkK q) (lkT q)) ∧ s = rdB v l q e b d n :: τ) :=
 rT (rlook_ok v l q e b d n hr hl) (lookA_free _ _) (by intro y hy; simp at hy; subst hy; exact .int) τ
theorem rlook1_ok (v : Nat) (l : List Tok) (q : Rd) (e b d n : Nat) (hr : q.r <:+ l) (hl : l.length ≤ 100000) : CallOk cx 38 [.ptr 0 v 0,.int .i64 1] [rdB v l q e b d n] (fun o s => o = .ret (lookA (lkK1 q) (lkT1 q)) ∧ s = [rdB v l q e b d n]) :=
 callOk_intro (fun a w => Tryz.call38 a w) Tryz.func38 rfl Tryz.ntmps38 rfl fun B => by
  have hb:=rbad_ok v l q e b d n
  have hml : (l.map tokA).length = l.length:=by simp
  unfold lkK1 lkT1
  by_cases h : q.bad = true
  ·rw [if_pos h,if_pos h]
   rw [h] at hb
   refine pB [.k (.bool true),.b true,.b true] rfl ?_
   exact S_ret ⟨_,_,rfl,trivial,rfl,rfl⟩
  rw [if_neg h,if_neg h]
  rw [(Bool.not_eq_true _).mp h] at hb
  obtain ⟨r,f⟩:=q
  have hr : r <:+ l:=hr
  have hle:=hr.length_le
  have hw : IntKind.i64.wrap (((l.length - r.length : Nat) : Int) + 1) = ((l.length - r.length : Nat) : Int) + 1:=by rw [IntWalk.i64_in _ ⟨by omega,by omega⟩]
  by_cases h2 : r.length < 2
  ·have e2 : hdK r.tail = 0 ∧ hdT r.tail = []:=by
    match r,h2 with
    | [],_ => exact ⟨rfl,rfl⟩
    | [t],_ => exact ⟨rfl,rfl⟩
    | t :: u :: w,h => exact absurd h (by simp only [List.length_cons]; omega)
   rw [show hdK (⟨r,f⟩ : Rd).r.tail = 0 from e2.1,show hdT (⟨r,f⟩ : Rd).r.tail = [] from e2.2]
   refine pa [.k (.bool false),.b false,.b true] rfl ?_ ?_
   ·(repeat' with_reducible apply AllP_cons) <;> try exact aC
    exact decide_eq_true (by show IntKind.i64.wrap (((l.length - r.length : Nat) : Int) + 1) ≥ _; rw [hw,hml]; omega)
   exact S_ret ⟨_,_,rfl,trivial,rfl,rfl⟩
  ·obtain ⟨t,t2,u,rfl⟩ : ∃ t t2 u,r = t :: t2 :: u:=by
    match r,h2 with
    | [],h => simp at h
    | [t],h => simp at h
    | t :: t2 :: u,_ => exact ⟨t,t2,u,rfl⟩
   have hw:=suf_next hr hl
   have hr4:=suf_tail hr
   have hg2 : (l.map tokA)[(IntKind.i64.wrap (((l.length - (t :: t2 :: u).length : Nat) : Int) + 1)).toNat]? = some (tokA t2):=by
    rw [hw]; exact suf_get hr4
   have h0 : (0 : Int) ≤ IntKind.i64.wrap (((l.length - (t :: t2 :: u).length : Nat) : Int) + 1):=by rw [hw]; omega
   have hd : decide (IntKind.i64.wrap (((l.length - (t :: t2 :: u).length : Nat) : Int) + 1) ≥ (((l.map tokA).length : Nat) : Int)) = false:=by
    have:=suf_lt hr4
    rw [hw,hml]; exact decide_eq_false (by omega)
   refine pB [.k (.bool false),.b false,.b false,.v (tokA t2),.v (tokA t2)] rfl ?_
   exact S_ret ⟨_,_,rfl,trivial,rfl,rfl⟩
theorem rlook1T (v : Nat) (l : List Tok) (q : Rd) (e b d n : Nat) (τ : Heap) (hr : q.r <:+ l) (hl : l.length ≤ 100000) : CallOk cx 38 [.ptr 0 v 0,.int .i64 1] (rdB v l q e b d n :: τ) (fun o s => o = .ret (lookA (lkK1 q) (lkT1 q)) ∧ s = rdB v l q e b d n :: τ) :=
 rT (rlook1_ok v l q e b d n hr hl) (lookA_free _ _) (by intro y hy; simp at hy; subst hy; exact .int) τ
theorem ris_ok (v : Nat) (l : List Tok) (q : Rd) (e b d n : Nat) (ws : List (List UInt8)) (st fl : Bool) (hw : ws.length ≤ 100) (hr : q.r <:+ l) (hl : l.length ≤ 100000) : CallOk cx 66 [.ptr 0 v 0,.sl st fl 1 (texts ws)] [rdB v l q e b d n] (fun o s => o = .ret (.bool (isR ws q)) ∧ s = [rdB v l q e b d n]) :=
 callOk_intro (fun a w => Tryz.call66 a w) Tryz.func66 rfl Tryz.ntmps66 rfl fun B => by
  have hk:=rlook_ok v l q e b d n hr hl
  have hH:=HasText_ok (st:=st) (fl:=fl) ws (lkT q) (by omega)
  unfold isR
  generalize lkT q = t at hk hH ⊢
  generalize lkK q = k at hk ⊢
  by_cases h4 : k = 4
  ·have e4 : ((k : Int) == 4) = true:=by rw [h4]; rfl
   refine pa [.k (lookA k t),.b true,.b true,.v (.bool (ws.contains t))] rfl ?_ ?_
   ·(repeat' with_reducible apply AllP_cons) <;> try exact aC
    exact ⟨_,hH,.cons (.refl (.sl (fun h => by cases h) (textsF ws))) (.cons (.refl .str) (.nil _))⟩
   refine S_ret ⟨_,_,rfl,trivial,?_,rfl⟩
   rw [h4]; rfl
  ·have e4 : ((k : Int) == 4) = false:=beq_false_of_ne (by omega)
   by_cases h5 : k = 5
   ·have e5 : ((k : Int) == 5) = true:=by rw [h5]; rfl
    refine pa [.k (lookA k t),.b false,.b true,.v (.bool (ws.contains t))] rfl ?_ ?_
    ·(repeat' with_reducible apply AllP_cons) <;> try exact aC
     exact ⟨_,hH,.cons (.refl (.sl (fun h => by cases h) (textsF ws))) (.cons (.refl .str) (.nil _))⟩
    refine S_ret ⟨_,_,rfl,trivial,?_,rfl⟩
    rw [h5]; rfl
   ·have e5 : ((k : Int) == 5) = false:=beq_false_of_ne (by omega)
    refine pB [.k (lookA k t),.b false,.b false] rfl ?_
    refine S_ret ⟨_,_,rfl,trivial,?_,rfl⟩
    rw [beq_false_of_ne h4,beq_false_of_ne h5]; rfl
theorem risT (v : Nat) (l : List Tok) (q : Rd) (e b d n : Nat) (ws : List (List UInt8)) (st fl : Bool) (τ : Heap) (hw : ws.length ≤ 100) (hr : q.r <:+ l) (hl : l.length ≤ 100000) : CallOk cx 66 [.ptr 0 v 0,.sl st fl 1 (texts ws)] (rdB v l q e b d n :: τ) (fun o s => o = .ret (.bool (isR ws q)) ∧ s = rdB v l q e b d n :: τ) :=
 rT (ris_ok v l q e b d n ws st fl hw hr hl) .bool (by intro y hy; simp at hy; subst hy; exact .sl (fun h => by cases h) (textsF ws)) τ
theorem isR_ne {ws : List (List UInt8)} {q : Rd} (h : isR ws q = true) : q.r ≠ []:=by
 intro h'
 unfold isR lkK at h
 rw [h'] at h
 revert h
 split <;> simp [hdK]
theorem lkK_ne {q : Rd} {k : Nat} (h : lkK q = k) (hk : k ≠ 0) : q.r ≠ []:=by
 intro h'
 unfold lkK at h
 rw [h'] at h
 revert h
 split
 ·intro h; exact hk h.symm
 ·intro h; exact hk h.symm
theorem rd_next {l : List Tok} {q : Rd} (h : q.r ≠ []) (hr : q.r <:+ l) (hl : l.length ≤ 100000) : IntKind.i64.wrap (((l.length - q.r.length : Nat) : Int) + 1) = ((l.length - q.next.r.length : Nat) : Int):=by
 obtain ⟨r,f⟩:=q
 cases r with
 | nil => exact absurd rfl h
 | cons t u => exact suf_next hr hl
theorem rsign_ok (v : Nat) (l : List Tok) (q : Rd) (e b d n : Nat) (s : List UInt8) (hr : q.r <:+ l) (hl : l.length ≤ 100000) : CallOk cx 68 [.ptr 0 v 0,.str s] [rdB v l q e b d n] (fun o σ => o = .ret (.tup []) ∧ σ = [rdB v l (signR e s q) e b d n]) :=
 callOk_intro (fun a w => Tryz.call68 a w) Tryz.func68 rfl Tryz.ntmps68 rfl fun B => by
  have hi:=ris_ok v l q e b d n [s] true true (by simp) hr hl
  unfold signR
  by_cases h : isR [s] q = true
  ·rw [if_pos h]
   rw [h] at hi
   have hw:=rd_next (isR_ne h) hr hl
   refine pB [.k (.bool true),.b true] rfl ?_
   refine S_nil ⟨_,_,rfl,trivial,rfl,?_⟩
   show [rdI v l (IntKind.i64.wrap (((l.length - q.r.length : Nat) : Int) + 1)) q.f e b d n] = _
   rw [hw]; rfl
  ·rw [if_neg h]
   rw [(Bool.not_eq_true _).mp h] at hi
   have hf:=rfail_ok v l q e b d n 1 hr hl
   refine pB [.k (.bool false),.b false,.f (.tup []) (fun _ => [rdB v l (failR e 1 q) e b d n])] rfl ?_
   exact S_nil ⟨_,_,rfl,trivial,rfl,rfl⟩
theorem rsignT (v : Nat) (l : List Tok) (q : Rd) (e b d n : Nat) (s : List UInt8) (τ : Heap) (hr : q.r <:+ l) (hl : l.length ≤ 100000) : CallOk cx 68 [.ptr 0 v 0,.str s] (rdB v l q e b d n :: τ) (fun o σ => o = .ret (.tup []) ∧ σ = rdB v l (signR e s q) e b d n :: τ) :=
 rT (rsign_ok v l q e b d n s hr hl) (.tup (by simp)) (by intro y hy; simp at hy; subst hy; exact .str) τ
theorem rkind_ok (v : Nat) (l : List Tok) (q : Rd) (e b d n k : Nat) (hk0 : k ≠ 0) (hr : q.r <:+ l) (hl : l.length ≤ 100000) : CallOk cx 67 [.ptr 0 v 0,.int .i64 (k : Nat)] [rdB v l q e b d n] (fun o σ => o = .ret (.str (kindR e k q).1) ∧ σ = [rdB v l (kindR e k q).2 e b d n]) :=
 callOk_intro (fun a w => Tryz.call67 a w) Tryz.func67 rfl Tryz.ntmps67 rfl fun B => by
  have hk:=rlook_ok v l q e b d n hr hl
  unfold kindR
  by_cases h : lkK q = k
  ·rw [if_pos h]
   have hw:=rd_next (lkK_ne h hk0) hr hl
   generalize lkT q = t at hk ⊢
   rw [h] at hk
   refine pa [.k (lookA k t),.b false] rfl ?_ ?_
   ·(repeat' with_reducible apply AllP_cons) <;> try exact aC
    exact bne_self_eq_false _
   refine S_ret ⟨_,_,rfl,trivial,rfl,?_⟩
   show [rdI v l (IntKind.i64.wrap (((l.length - q.r.length : Nat) : Int) + 1)) q.f e b d n] = _
   rw [hw]; rfl
  ·rw [if_neg h]
   generalize lkT q = t at hk
   generalize lkK q = m at hk h
   have hf:=rfail_ok v l q e b d n 1 hr hl
   refine pa [.k (lookA m t),.b true,.f (.tup []) (fun _ => [rdB v l (failR e 1 q) e b d n])] rfl ?_ ?_
   ·(repeat' with_reducible apply AllP_cons) <;> try exact aC
    exact bne_iff_ne.2 (by omega)
   exact S_ret ⟨_,_,rfl,trivial,rfl,rfl⟩
theorem rkindT (v : Nat) (l : List Tok) (q : Rd) (e b d n k : Nat) (τ : Heap) (hk0 : k ≠ 0) (hr : q.r <:+ l) (hl : l.length ≤ 100000) : CallOk cx 67 [.ptr 0 v 0,.int .i64 (k : Nat)] (rdB v l q e b d n :: τ) (fun o σ => o = .ret (.str (kindR e k q).1) ∧ σ = rdB v l (kindR e k q).2 e b d n :: τ) :=
 rT (rkind_ok v l q e b d n k hk0 hr hl) .str (by intro y hy; simp at hy; subst hy; exact .int) τ
theorem rin_ok (v : Nat) (l : List Tok) (q : Rd) (e b d n : Nat) (hn : n ≤ 3000000) (hr : q.r <:+ l) (hl : l.length ≤ 100000) : CallOk cx 97 [.ptr 0 v 0] [rdB v l q e b d n] (fun o σ => o = .ret (.tup []) ∧ σ = [rdB v l (inR e n q) e b d (n + 1)]) :=
 callOk_intro (fun a w => Tryz.call97 a w) Tryz.func97 rfl Tryz.ntmps97 rfl fun B => by
  have hw : IntKind.i64.wrap ((n : Nat) + 1) = ((n + 1 : Nat) : Int):=by rw [IntWalk.i64_in _ ⟨by omega,by omega⟩]; omega
  unfold inR
  by_cases h : n = 30
  ·rw [if_pos h]
   have hf:=rfail_ok v l q e b d n 2 hr hl
   have e0 : ((n : Int) == 30) = true:=by rw [h]; rfl
   refine pB [.b true,.f (.tup []) (fun _ => [rdB v l (failR e 2 q) e b d n])] rfl ?_
   refine S_nil ⟨_,_,rfl,trivial,rfl,?_⟩
   show [rdI v l ((l.length - (failR e 2 q).r.length : Nat) : Int) (failR e 2 q).f e b d (IntKind.i64.wrap ((n : Nat) + 1))] = _
   rw [hw]; rfl
  ·rw [if_neg h]
   have e0 : ((n : Int) == 30) = false:=beq_false_of_ne (by omega)
   refine pB [.b false] rfl ?_
   refine S_nil ⟨_,_,rfl,trivial,rfl,?_⟩
   show [rdI v l ((l.length - q.r.length : Nat) : Int) q.f e b d (IntKind.i64.wrap ((n : Nat) + 1))] = _
   rw [hw]; rfl
theorem rinT (v : Nat) (l : List Tok) (q : Rd) (e b d n : Nat) (τ : Heap) (hn : n ≤ 3000000) (hr : q.r <:+ l) (hl : l.length ≤ 100000) : CallOk cx 97 [.ptr 0 v 0] (rdB v l q e b d n :: τ) (fun o σ => o = .ret (.tup []) ∧ σ = rdB v l (inR e n q) e b d (n + 1) :: τ) :=
 rT (rin_ok v l q e b d n hn hr hl) (.tup (by simp)) (by simp) τ
def Rx (f : FuncId) (x : Nat → Nat → Nat → Rd → Option (Ex × Rd)) (F : Nat) : Prop:=∀ (v : Nat) (l : List Tok) (q : Rd) (e b d n : Nat) (y : Ex × Rd),q.r <:+ l → l.length ≤ 100000 → n + F ≤ 3000000 → x e F n q = some y →
 CallOk cx f [.ptr 0 v 0] [rdB v l q e b d n] (fun o s => o = .ret (exA y.1) ∧ s = [rdB v l y.2 e b d n])
def RdLv (k : Nat) (F : Nat) : Prop:=∀ (v : Nat) (l : List Tok) (q : Rd) (e b d n : Nat) (y : Ex × Rd),q.r <:+ l → l.length ≤ 100000 → n + F ≤ 3000000 → levR e F k n q = some y →
 CallOk cx 98 [.ptr 0 v 0,.int .i64 (k : Nat)] [rdB v l q e b d n] (fun o s => o = .ret (exA y.1) ∧ s = [rdB v l y.2 e b d n])
theorem Rx.tail {f : FuncId} {x : Nat → Nat → Nat → Rd → Option (Ex × Rd)} {F : Nat} (h : Rx f x F) (v : Nat) (l : List Tok) (q : Rd) (e b d n : Nat) (y : Ex) (q' : Rd) (τ : Heap) (hr : q.r <:+ l) (hl : l.length ≤ 100000) (hn : n + F ≤ 3000000) (hx : x e F n q = some (y,q')) :
  CallOk cx f [.ptr 0 v 0] (rdB v l q e b d n :: τ) (fun o s => o = .ret (exA y) ∧ s = rdB v l q' e b d n :: τ) :=
 rT (h v l q e b d n (y,q') hr hl hn hx) (exA_free _) (by simp) τ
theorem RdLv.tail {k F : Nat} (h : RdLv k F) (v : Nat) (l : List Tok) (q : Rd) (e b d n : Nat) (y : Ex) (q' : Rd) (τ : Heap) (hr : q.r <:+ l) (hl : l.length ≤ 100000) (hn : n + F ≤ 3000000) (hx : levR e F k n q = some (y,q')) :
  CallOk cx 98 [.ptr 0 v 0,.int .i64 (k : Nat)] (rdB v l q e b d n :: τ) (fun o s => o = .ret (exA y) ∧ s = rdB v l q' e b d n :: τ) :=
 rT (h v l q e b d n (y,q') hr hl hn hx) (exA_free _) (by intro y hy; simp at hy; subst hy; exact .int) τ
theorem rexpr_ok (F : Nat) (h0 : RdLv 0 F) : Rx 64 exprR (F + 1):=fun v l q e b d n y hr hl hn hx =>
 callOk_introT (fun a w => Tryz.call64 a w) Tryz.func64 rfl Tryz.ntmps64 rfl fun B => by
  have hx : levR e F 0 (n + 1) (inR e n q) = some y:=hx
  obtain ⟨⟨xk,xn,xt,xs,xm⟩,q'⟩:=y
  have h1:=h0.tail v l (inR e n q) e b d (n + 1) _ q' [exO] (in_s hr) hl (by omega) hx
  have h2:=rinT v l q e b d n [exO] (by omega) hr hl
  have hw : IntKind.i64.wrap (((n + 1 : Nat) : Int) - 1) = (n : Int):=by rw [IntWalk.i64_in _ ⟨by omega,by omega⟩]; omega
  refine pB [.f (.tup []) (fun σ => rdB v l (inR e n q) e b d (n + 1) :: σ.tail),.f (exA (.mk xk xn xt xs xm)) (fun σ => rdB v l q' e b d (n + 1) :: σ.tail)] rfl ?_
  refine S_ret ⟨_,_,rfl,⟨rfl,trivial⟩,?_⟩
  show TR 1 _ (.ret (exA (.mk xk xn xt xs xm))) (rdI v l ((l.length - q'.r.length : Nat) : Int) q'.f e b d (IntKind.i64.wrap (((n + 1 : Nat) : Int) - 1)) :: _)
  rw [hw]
  exact rfin (q:=q') (.low (Low.free (exA_free (st:=true) _)))
structure LvSt where
 F : Nat
 x : Ex
 q : Rd
def binAV : List AV:=[.sl true true 1 (texts (binS 0)),.sl true true 1 (texts (binS 1)),.sl true true 1 (texts (binS 2)),.sl true true 1 (texts (binS 3)),.sl true true 1 (texts (binS 4))]
theorem rlev_bad (k F : Nat) (v : Nat) (l : List Tok) (q : Rd) (e b d n : Nat) (hb : q.bad = true) :
  CallOk cx 98 [.ptr 0 v 0,.int .i64 (k : Nat)] [rdB v l q e b d n] (fun o s => o = .ret (exA .zero) ∧ s = [rdB v l q e b d n]) :=
 callOk_introT (fun a w => Tryz.call98 a w) Tryz.func98 rfl Tryz.ntmps98 rfl fun B => by
  have h1:=rbadT v l q e b d n [exO]
  rw [hb] at h1
  refine pB [.k (.bool true),.b true] rfl ?_
  refine S_ret ⟨_,_,rfl,⟨rfl,trivial⟩,?_⟩
  exact rfin (exFz (kd:=0) (nm:=0) (ks:=[]) (ns:=[]) .nils .nils)
theorem rlev_b (k F : Nat) (hk : k = 0 ∨ k = 1 ∨ k = 3 ∨ k = 4) (h : ∀ F',F' ≤ F → RdLv (k + 1) F') : RdLv k (F + 1):=fun v l q e b d n y hr hl hn hx => by
 rw [levR_b hk] at hx
 by_cases hbad : q.bad = true
 ·rw [if_pos hbad] at hx
  cases hx
  exact rlev_bad k F v l q e b d n hbad
 rw [if_neg hbad] at hx
 exact callOk_introT (fun a w => Tryz.call98 a w) Tryz.func98 rfl Tryz.ntmps98 rfl fun B => by
  have h1:=rbadT v l q e b d n [exO]
  rw [(Bool.not_eq_true _).mp hbad] at h1
  have e2 : ((k : Int) == 2) = false:=beq_false_of_ne (by omega)
  have e5 : ((k : Int) == 5) = false:=beq_false_of_ne (by omega)
  have hw : IntKind.i64.wrap ((k : Nat) + 1) = ((k + 1 : Nat) : Int):=by rw [IntWalk.i64_in _ ⟨by omega,by omega⟩]; omega
  have hel : binAV[(k : Int).toNat]? = some (.sl true true 1 (texts (binS k))):=by
   rcases hk with rfl | rfl | rfl | rfl <;> rfl
  have hlen : (binS k).length ≤ 100:=by unfold binS; split <;> decide
  have hk5 : k < 5:=by omega
  cases hx1 : levR e F (k + 1) n q with
  | none => rw [hx1] at hx; cases hx
  | some y1 =>
  rw [hx1] at hx
  have hx : loopR e F k n y1.1 y1.2 = some y:=hx
  have hr1:=(allR e l F).lev _ _ _ hr _ hx1
  obtain ⟨⟨xk,xn,xt,xs,xm⟩,q1⟩:=y1
  have h2:=(h F (Nat.le_refl _)).tail v l q e b d n _ q1 [exO] hr hl (by omega) hx1
  refine pa [.k (.bool false),.b false,.b false,.b false,.b false,.b false,.b false,.v (.sl true true 1 (texts (binS k))),.f (exA (.mk xk xn xt xs xm)) (fun σ => rdB v l q1 e b d n :: σ.tail)] rfl ?_ ?_
  ·(repeat' with_reducible apply AllP_cons) <;> try exact aC
   show CallOk cx 98 [.ptr 0 v 0,.int .i64 (IntKind.i64.wrap ((k : Nat) + 1))] [rdB v l q e b d n,exO] _
   rw [hw]; exact h2
  refine S_while (α:=LvSt) (fun p => [(0,.ptr 0 v 0),(1,.int .i64 (k : Nat)),(4,.ptr 1 0 0),(7,.sl true true 1 (texts (binS k))),(8,.ptr 2 0 0)]) (fun p => [rdB v l p.q e b d n,exO,exB p.x])
   (fun p => p.F ≤ F ∧ p.q.r <:+ l ∧ loopR e p.F k n p.x p.q = some y) (fun p => p.F) ⟨F,.mk xk xn xt xs xm,q1⟩ ⟨Nat.le_refl _,hr1,hx⟩ (.cons rfl (.cons rfl (.cons rfl (.cons rfl (.cons rfl (.nil _)))))) rfl ?_
  clear hx hx1 h2 h1 hr1 hbad hr
  rintro ⟨F1,⟨xk,xn,xt,xs,xm⟩,q⟩ ⟨hF,hr,hx⟩
  have hF : F1 ≤ F:=hF
  have hr : q.r <:+ l:=hr
  have hx : loopR e F1 k n (.mk xk xn xt xs xm) q = some y:=hx
  show S cx _ B _ _ [(0,.ptr 0 v 0),(1,.int .i64 (k : Nat)),(4,.ptr 1 0 0),(7,.sl true true 1 (texts (binS k))),(8,.ptr 2 0 0)] [rdB v l q e b d n,exO,exB (.mk xk xn xt xs xm)]
  have hi:=risT v l q e b d n (binS k) true true [exO,exB (.mk xk xn xt xs xm)] hlen hr hl
  by_cases c : isR (binS k) q = true
  ·cases F1 with
   | zero =>
    exfalso
    unfold loopR at hx
    split at hx
    ·rename_i hb
     rw [isR_bad hb] at c; cases c
    ·cases hx
   | succ F1 =>
   rw [loopR,if_pos c] at hx
   rw [c] at hi
   have hk:=rlookT v l q e b d n [exO,exB (.mk xk xn xt xs xm)] hr hl
   have hwr:=rd_next (isR_ne c) hr hl
   cases hx1 : levR e F1 (k + 1) n q.next with
   | none => rw [hx1] at hx; cases hx
   | some y1 =>
   rw [hx1] at hx
   have hr1:=(allR e l F1).lev _ _ _ (next_s hr) _ hx1
   obtain ⟨⟨yk,yn,yt,ys,ym⟩,q1⟩:=y1
   have h2:=(h F1 (by omega)).tail v l q.next e b d n _ q1 [exO,exB (.mk xk xn xt xs xm)] (next_s hr) hl (by omega) hx1
   have hx : loopR e F1 k n (binE (lkT q) (.mk xk xn xt xs xm) (.mk yk yn yt ys ym)) q1 = some y:=hx
   refine pB [.k (.bool true),.b true,.k (lookA (lkK q) (lkT q))] rfl ?_
   refine S_heap (rdB v l q.next e b d n :: [exO,exB (.mk xk xn xt xs xm)]) ?_ ?_
   ·show rdI v l (IntKind.i64.wrap (((l.length - q.r.length : Nat) : Int) + 1)) q.f e b d n :: _ = _
    rw [hwr]; rfl
   refine pa [.d 5 8 [] (fun σ => rdB v l q1 e b d n :: σ.tail) [exA (.mk yk yn yt ys ym)],.s] rfl ?_ ?_
   ·(repeat' with_reducible apply AllP_cons) <;> try exact aC
    exact ⟨_,h2,by show [AV.ptr 0 v 0,.int .i64 (IntKind.i64.wrap ((k : Nat) + 1))] = _; rw [hw]⟩
   refine S_wkF 94 (exC (binE (lkT q) (.mk xk xn xt xs xm) (.mk yk yn yt ys ym))) rfl (.cons .refl (.cons .refl (.cons .refl (.cons (.sl (fun _ => rfl) nofun) (.cons .nils .nil))))) ⟨.skip,_,.inr ⟨_,_,_,rfl⟩⟩ ?_
   refine pB [.b false] rfl ?_
   exact S_round ⟨F1,binE (lkT q) (.mk xk xn xt xs xm) (.mk yk yn yt ys ym),q1⟩ (Nat.lt_succ_self _) ⟨by show F1 ≤ F; omega,hr1,hx⟩ (.cons rfl (.cons rfl (.cons rfl (.cons rfl (.cons rfl (.nil _)))))) rfl
  ·have hx : some (Ex.mk xk xn xt xs xm,q) = some y:=by
    cases F1 with
    | zero =>
     unfold loopR at hx
     split at hx
     ·exact hx
     ·cases hx
    | succ F1 => rw [loopR,if_neg c] at hx; exact hx
   cases hx
   rw [(Bool.not_eq_true _).mp c] at hi
   refine pB [.k (.bool false),.b false] rfl ?_
   refine S_ret ⟨_,_,rfl,⟨rfl,trivial⟩,?_⟩
   exact rfin (.low (Low.free (exA_free (st:=true) (.mk xk xn xt xs xm))))
theorem rlev_2 (F : Nat) (h2 : RdLv 2 F) (h3 : RdLv 3 F) : RdLv 2 (F + 1):=fun v l q e b d n y hr hl hn hx => by
 have hx : (if q.bad then some (Ex.zero,q) else if isR [wNot] q then (levR e F 2 (n + 1) (inR e n q.next)).bind fun x => some (.mk 12 0 [] [x.1] [],x.2)
   else (levR e F 3 n q).bind fun x => if isR (binS 2) x.2 then (levR e F 3 n x.2.next).bind fun y => some (binE (lkT x.2) x.1 y.1,y.2) else some x) = some y:=hx
 by_cases hbad : q.bad = true
 ·rw [if_pos hbad] at hx
  cases hx
  exact rlev_bad 2 F v l q e b d n hbad
 rw [if_neg hbad] at hx
 exact callOk_introT (fun a w => Tryz.call98 a w) Tryz.func98 rfl Tryz.ntmps98 rfl fun B => by
  have h1:=rbadT v l q e b d n [exO]
  rw [(Bool.not_eq_true _).mp hbad] at h1
  have hi:=risT v l q e b d n [wNot] true true [exO] (by decide) hr hl
  by_cases c : isR [wNot] q = true
  ·rw [if_pos c] at hx
   rw [c] at hi
   have hwr:=rd_next (isR_ne c) hr hl
   cases hx1 : levR e F 2 (n + 1) (inR e n q.next) with
   | none => rw [hx1] at hx; cases hx
   | some y1 =>
   rw [hx1] at hx
   obtain ⟨⟨yk,yn,yt,ys,ym⟩,q1⟩:=y1
   cases hx
   have hin:=rinT v l q.next e b d n [exO] (by omega) (next_s hr) hl
   have hL:=h2.tail v l (inR e n q.next) e b d (n + 1) _ q1 [exO] (in_s (next_s hr)) hl (by omega) hx1
   have hw : IntKind.i64.wrap (((n + 1 : Nat) : Int) - 1) = (n : Int):=by rw [IntWalk.i64_in _ ⟨by omega,by omega⟩]; omega
   refine pB [.k (.bool false),.b false,.b true,.k (.bool true),.b true,.b true,.b false] rfl ?_
   refine S_heap (rdB v l q.next e b d n :: [exO]) ?_ ?_
   ·show rdI v l (IntKind.i64.wrap (((l.length - q.r.length : Nat) : Int) + 1)) q.f e b d n :: _ = _
    rw [hwr]; rfl
   refine pB [.f (.tup []) (fun σ => rdB v l (inR e n q.next) e b d (n + 1) :: σ.tail),.f (exA (.mk yk yn yt ys ym)) (fun σ => rdB v l q1 e b d (n + 1) :: σ.tail)] rfl ?_
   refine S_wkB 1 (exC (.mk 12 0 [] [.mk yk yn yt ys ym] [])) rfl (.cons .refl (.cons .refl (.cons .refl (.cons (.sl (fun _ => rfl) nofun) (.cons .nils .nil))))) ⟨_,_,.inl rfl⟩ ?_
   refine S_ret ⟨_,_,rfl,⟨rfl,trivial⟩,?_⟩
   show TR 1 _ (.ret (exA (.mk 12 0 [] [.mk yk yn yt ys ym] []))) (rdI v l ((l.length - q1.r.length : Nat) : Int) q1.f e b d (IntKind.i64.wrap (((n + 1 : Nat) : Int) - 1)) :: _)
   rw [hw]
   exact rfin (q:=q1) (.low (Low.free (exA_free (st:=true) _)))
  rw [if_neg c] at hx
  rw [(Bool.not_eq_true _).mp c] at hi
  cases hx1 : levR e F 3 n q with
  | none => rw [hx1] at hx; cases hx
  | some y1 =>
  rw [hx1] at hx
  have hx : (if isR (binS 2) y1.2 then (levR e F 3 n y1.2.next).bind fun y => some (binE (lkT y1.2) y1.1 y.1,y.2) else some y1) = some y:=hx
  have hr1:=(allR e l F).lev _ _ _ hr _ hx1
  obtain ⟨⟨xk,xn,xt,xs,xm⟩,q1⟩:=y1
  have hr1 : q1.r <:+ l:=hr1
  have hL:=h3.tail v l q e b d n _ q1 [exO] hr hl (by omega) hx1
  refine pB [.k (.bool false),.b false,.b true,.k (.bool false),.b false,.b false,.b false,.b false,.v (.sl true true 1 (texts (binS 2))),.f (exA (.mk xk xn xt xs xm)) (fun σ => rdB v l q1 e b d n :: σ.tail)] rfl ?_
  refine S_while (α:=Nat) (fun p => [(0,.ptr 0 v 0),(1,.int .i64 2),(4,.ptr 1 0 0),(7,.sl true true 1 (texts (binS 2))),(8,.ptr 2 0 0)]) (fun p => [rdB v l q1 e b d n,exO,exB (.mk xk xn xt xs xm)])
   (fun p => True) (fun p => p) 0 trivial (.cons rfl (.cons rfl (.cons rfl (.cons rfl (.cons rfl (.nil _)))))) rfl ?_
  rintro z _
  show S cx _ B _ _ [(0,.ptr 0 v 0),(1,.int .i64 2),(4,.ptr 1 0 0),(7,.sl true true 1 (texts (binS 2))),(8,.ptr 2 0 0)] [rdB v l q1 e b d n,exO,exB (.mk xk xn xt xs xm)]
  have hi2:=risT v l q1 e b d n (binS 2) true true [exO,exB (.mk xk xn xt xs xm)] (by decide) hr1 hl
  by_cases c2 : isR (binS 2) q1 = true
  ·rw [if_pos c2] at hx
   rw [c2] at hi2
   have hk:=rlookT v l q1 e b d n [exO,exB (.mk xk xn xt xs xm)] hr1 hl
   have hwr:=rd_next (isR_ne c2) hr1 hl
   cases hx2 : levR e F 3 n q1.next with
   | none => rw [hx2] at hx; cases hx
   | some y2 =>
   rw [hx2] at hx
   obtain ⟨⟨yk,yn,yt,ys,ym⟩,q2⟩:=y2
   cases hx
   have hL2:=h3.tail v l q1.next e b d n _ q2 [exO,exB (.mk xk xn xt xs xm)] (next_s hr1) hl (by omega) hx2
   refine pB [.k (.bool true),.b true,.k (lookA (lkK q1) (lkT q1))] rfl ?_
   refine S_heap (rdB v l q1.next e b d n :: [exO,exB (.mk xk xn xt xs xm)]) ?_ ?_
   ·show rdI v l (IntKind.i64.wrap (((l.length - q1.r.length : Nat) : Int) + 1)) q1.f e b d n :: _ = _
    rw [hwr]; rfl
   refine pa [.d 5 8 [] (fun σ => rdB v l q2 e b d n :: σ.tail) [exA (.mk yk yn yt ys ym)],.s] rfl ?_ ?_
   ·(repeat' with_reducible apply AllP_cons) <;> try exact aC
    exact ⟨_,hL2,rfl⟩
   refine S_wkF 94 (exC (binE (lkT q1) (.mk xk xn xt xs xm) (.mk yk yn yt ys ym))) rfl (.cons .refl (.cons .refl (.cons .refl (.cons (.sl (fun _ => rfl) nofun) (.cons .nils .nil))))) ⟨.skip,_,.inr ⟨_,_,_,rfl⟩⟩ ?_
   refine pB [.b true] rfl ?_
   refine S_ret ⟨_,_,rfl,⟨rfl,trivial⟩,?_⟩
   exact rfin (.low (Low.free (exA_free (st:=true) (binE (lkT q1) (.mk xk xn xt xs xm) (.mk yk yn yt ys ym)))))
  ·rw [if_neg c2] at hx
   cases hx
   rw [(Bool.not_eq_true _).mp c2] at hi2
   refine pB [.k (.bool false),.b false] rfl ?_
   refine S_ret ⟨_,_,rfl,⟨rfl,trivial⟩,?_⟩
   exact rfin (.low (Low.free (exA_free (st:=true) (.mk xk xn xt xs xm))))
theorem rlev_5 (F : Nat) (h5 : RdLv 5 F) (hp : Rx 119 postA F) : RdLv 5 (F + 1):=fun v l q e b d n y hr hl hn hx => by
 have hx : (if q.bad then some (Ex.zero,q) else if isR [[45]] q then (levR e F 5 (n + 1) (inR e n q.next)).bind fun x => some (.mk 13 0 [] [x.1] [],x.2)
   else postA e F n q) = some y:=hx
 by_cases hbad : q.bad = true
 ·rw [if_pos hbad] at hx
  cases hx
  exact rlev_bad 5 F v l q e b d n hbad
 rw [if_neg hbad] at hx
 exact callOk_introT (fun a w => Tryz.call98 a w) Tryz.func98 rfl Tryz.ntmps98 rfl fun B => by
  have h1:=rbadT v l q e b d n [exO]
  rw [(Bool.not_eq_true _).mp hbad] at h1
  have hi:=risT v l q e b d n [[45]] true true [exO] (by decide) hr hl
  by_cases c : isR [[45]] q = true
  ·rw [if_pos c] at hx
   rw [c] at hi
   have hwr:=rd_next (isR_ne c) hr hl
   cases hx1 : levR e F 5 (n + 1) (inR e n q.next) with
   | none => rw [hx1] at hx; cases hx
   | some y1 =>
   rw [hx1] at hx
   obtain ⟨⟨yk,yn,yt,ys,ym⟩,q1⟩:=y1
   cases hx
   have hin:=rinT v l q.next e b d n [exO] (by omega) (next_s hr) hl
   have hL:=h5.tail v l (inR e n q.next) e b d (n + 1) _ q1 [exO] (in_s (next_s hr)) hl (by omega) hx1
   have hw : IntKind.i64.wrap (((n + 1 : Nat) : Int) - 1) = (n : Int):=by rw [IntWalk.i64_in _ ⟨by omega,by omega⟩]; omega
   refine pB [.k (.bool false),.b false,.b false,.b false,.b true,.k (.bool true),.b true,.b true] rfl ?_
   refine S_heap (rdB v l q.next e b d n :: [exO]) ?_ ?_
   ·show rdI v l (IntKind.i64.wrap (((l.length - q.r.length : Nat) : Int) + 1)) q.f e b d n :: _ = _
    rw [hwr]; rfl
   refine pB [.f (.tup []) (fun σ => rdB v l (inR e n q.next) e b d (n + 1) :: σ.tail),.f (exA (.mk yk yn yt ys ym)) (fun σ => rdB v l q1 e b d (n + 1) :: σ.tail)] rfl ?_
   refine S_wkB 1 (exC (.mk 13 0 [] [.mk yk yn yt ys ym] [])) rfl (.cons .refl (.cons .refl (.cons .refl (.cons (.sl (fun _ => rfl) nofun) (.cons .nils .nil))))) ⟨_,_,.inl rfl⟩ ?_
   refine S_ret ⟨_,_,rfl,⟨rfl,trivial⟩,?_⟩
   show TR 1 _ (.ret (exA (.mk 13 0 [] [.mk yk yn yt ys ym] []))) (rdI v l ((l.length - q1.r.length : Nat) : Int) q1.f e b d (IntKind.i64.wrap (((n + 1 : Nat) : Int) - 1)) :: _)
   rw [hw]
   exact rfin (q:=q1) (.low (Low.free (exA_free (st:=true) _)))
  rw [if_neg c] at hx
  rw [(Bool.not_eq_true _).mp c] at hi
  obtain ⟨⟨xk,xn,xt,xs,xm⟩,q1⟩:=y
  have hL:=hp.tail v l q e b d n _ q1 [exO] hr hl (by omega) hx
  refine pB [.k (.bool false),.b false,.b false,.b false,.b true,.k (.bool false),.b false,.b true,.f (exA (.mk xk xn xt xs xm)) (fun σ => rdB v l q1 e b d n :: σ.tail)] rfl ?_
  refine S_ret ⟨_,_,rfl,⟨rfl,trivial⟩,?_⟩
  exact rfin (.low (Low.free (exA_free (st:=true) (.mk xk xn xt xs xm))))
def Rcl (F : Nat) : Prop:=∀ (v : Nat) (l : List Tok) (q : Rd) (e b d n : Nat) (x : Ex) (y : Ex × Rd),q.r <:+ l → l.length ≤ 100000 → n + F < 3000000 → callR e F n [x] [] q = some y →
 CallOk cx 129 [.ptr 0 v 0,exA x] [rdB v l q e b d n] (fun o s => o = .ret (exA y.1) ∧ s = [rdB v l y.2 e b d n])
theorem Rcl.tail {F : Nat} (h : Rcl F) (v : Nat) (l : List Tok) (q : Rd) (e b d n : Nat) (x y : Ex) (q' : Rd) (τ : Heap) (hr : q.r <:+ l) (hl : l.length ≤ 100000) (hn : n + F < 3000000) (hx : callR e F n [x] [] q = some (y,q')) :
  CallOk cx 129 [.ptr 0 v 0,exA x] (rdB v l q e b d n :: τ) (fun o s => o = .ret (exA y) ∧ s = rdB v l q' e b d n :: τ) :=
 rT (h v l q e b d n x (y,q') hr hl hn hx) (exA_free _) (by intro y hy; simp at hy; subst hy; exact exA_free x) τ
theorem postR_go {e F n : Nat} {x : Ex} {q : Rd} {y : Ex × Rd} (h : ¬ q.bad = true) (hx : postR e F n x q = some y) : ∃ G,F = G + 1 ∧ (if isR [[91]] q then (exprR e G n q.next).bind fun y => postR e G n (.mk 11 0 [] [x,y.1] []) (signR e [93] y.2)
  else if isR [[40]] q then (callR e G n [x] [] q.next).bind fun y => postR e G n y.1 y.2 else some (x,q)) = some y:=by
 cases F with
 | zero => unfold postR at hx; rw [if_neg h] at hx; cases hx
 | succ G => rw [postR,if_neg h] at hx; exact ⟨G,rfl,hx⟩
theorem rpost_ok (F : Nat) (ha : Rx 128 atomR F) (he : ∀ F',F' ≤ F → Rx 64 exprR F') (hc : ∀ F',F' ≤ F → Rcl F') : Rx 119 postA (F + 1):=fun v l q e b d n y hr hl hn hx =>
 callOk_introT (fun a w => Tryz.call119 a w) Tryz.func119 rfl Tryz.ntmps119 rfl fun B => by
  rw [postA] at hx
  cases hx1 : atomR e F n q with
  | none => rw [hx1] at hx; cases hx
  | some y1 =>
  rw [hx1] at hx
  have hr1:=(allR e l F).atom _ _ hr _ hx1
  obtain ⟨⟨xk,xn,xt,xs,xm⟩,q1⟩:=y1
  have h2:=ha.tail v l q e b d n _ q1 [exO] hr hl (by omega) hx1
  refine pB [.f (exA (.mk xk xn xt xs xm)) (fun σ => rdB v l q1 e b d n :: σ.tail)] rfl ?_
  refine S_while (α:=LvSt) (fun p => [(0,.ptr 0 v 0),(2,.ptr 1 0 0),(3,.ptr 2 0 0)]) (fun p => [rdB v l p.q e b d n,exO,exB p.x])
   (fun p => p.F ≤ F ∧ p.q.r <:+ l ∧ postR e p.F n p.x p.q = some y) (fun p => p.F) ⟨F,.mk xk xn xt xs xm,q1⟩ ⟨Nat.le_refl _,hr1,hx⟩ (.cons rfl (.cons rfl (.cons rfl (.nil _)))) rfl ?_
  clear hx hx1 h2 hr1 hr
  rintro ⟨F1,⟨xk,xn,xt,xs,xm⟩,q⟩ ⟨hF,hr,hx⟩
  have hF : F1 ≤ F:=hF
  have hr : q.r <:+ l:=hr
  have hx : postR e F1 n (.mk xk xn xt xs xm) q = some y:=hx
  show S cx _ B _ _ [(0,.ptr 0 v 0),(2,.ptr 1 0 0),(3,.ptr 2 0 0)] [rdB v l q e b d n,exO,exB (.mk xk xn xt xs xm)]
  have hb:=rbadT v l q e b d n [exO,exB (.mk xk xn xt xs xm)]
  by_cases hbad : q.bad = true
  ·rw [hbad] at hb
   rw [postR_bad hbad] at hx
   cases hx
   refine pB [.k (.bool true),.b false] rfl ?_
   refine S_ret ⟨_,_,rfl,⟨rfl,trivial⟩,?_⟩
   exact rfin (.low (Low.free (exA_free (st:=true) (.mk xk xn xt xs xm))))
  obtain ⟨G,rfl,hx'⟩:=postR_go hbad hx
  clear hx
  have hx:=hx'
  clear hx'
  rw [(Bool.not_eq_true _).mp hbad] at hb
  have hi:=risT v l q e b d n [[91]] true true [exO,exB (.mk xk xn xt xs xm)] (by decide) hr hl
  by_cases c : isR [[91]] q = true
  ·rw [if_pos c] at hx
   rw [c] at hi
   have hwr:=rd_next (isR_ne c) hr hl
   cases hx1 : exprR e G n q.next with
   | none => rw [hx1] at hx; cases hx
   | some y1 =>
   rw [hx1] at hx
   have hr1:=(allR e l G).expr _ _ (next_s hr) _ hx1
   obtain ⟨⟨yk,yn,yt,ys,ym⟩,q1⟩:=y1
   have hx : postR e G n (.mk 11 0 [] [.mk xk xn xt xs xm,.mk yk yn yt ys ym] []) (signR e [93] q1) = some y:=hx
   have h2:=(he G (by omega)).tail v l q.next e b d n _ q1 [exO,exB (.mk xk xn xt xs xm)] (next_s hr) hl (by omega) hx1
   have h3:=rsignT v l q1 e b d n [93] [exO,exB (.mk 11 0 [] [.mk xk xn xt xs xm,.mk yk yn yt ys ym] [])] hr1 hl
   refine pB [.k (.bool false),.b true,.k (.bool true),.b true] rfl ?_
   refine S_heap (rdB v l q.next e b d n :: [exO,exB (.mk xk xn xt xs xm)]) ?_ ?_
   ·show rdI v l (IntKind.i64.wrap (((l.length - q.r.length : Nat) : Int) + 1)) q.f e b d n :: _ = _
    rw [hwr]; rfl
   refine pa [.d 2 5 [] (fun σ => rdB v l q1 e b d n :: σ.tail) [exA (.mk yk yn yt ys ym)],.s] rfl ?_ ?_
   ·(repeat' with_reducible apply AllP_cons) <;> try exact aC
    exact ⟨_,h2,rfl⟩
   refine S_wkF 25 (exC (.mk 11 0 [] [.mk xk xn xt xs xm,.mk yk yn yt ys ym] [])) rfl (.cons .refl (.cons .refl (.cons .refl (.cons (.sl (fun _ => rfl) nofun) (.cons .nils .nil))))) ⟨.skip,_,.inr ⟨_,_,_,rfl⟩⟩ ?_
   refine pB [.f (.tup []) (fun σ => rdB v l (signR e [93] q1) e b d n :: σ.tail)] rfl ?_
   exact S_round ⟨G,.mk 11 0 [] [.mk xk xn xt xs xm,.mk yk yn yt ys ym] [],signR e [93] q1⟩ (Nat.lt_succ_self _) ⟨by show G ≤ F; omega,sign_s hr1,hx⟩ (.cons rfl (.cons rfl (.cons rfl (.nil _)))) rfl
  rw [if_neg c] at hx
  rw [(Bool.not_eq_true _).mp c] at hi
  have hi2:=risT v l q e b d n [[40]] true true [exO,exB (.mk xk xn xt xs xm)] (by decide) hr hl
  by_cases c2 : isR [[40]] q = true
  ·rw [if_pos c2] at hx
   rw [c2] at hi2
   have hwr:=rd_next (isR_ne c2) hr hl
   cases hx1 : callR e G n [.mk xk xn xt xs xm] [] q.next with
   | none => rw [hx1] at hx; cases hx
   | some y1 =>
   rw [hx1] at hx
   have hr1:=(allR e l G).call _ _ _ _ (next_s hr) _ hx1
   obtain ⟨⟨yk,yn,yt,ys,ym⟩,q1⟩:=y1
   have hx : postR e G n (.mk yk yn yt ys ym) q1 = some y:=hx
   have h2:=(hc G (by omega)).tail v l q.next e b d n (.mk xk xn xt xs xm) _ q1 [exO,exB (.mk xk xn xt xs xm)] (next_s hr) hl (by omega) hx1
   refine pB [.k (.bool false),.b true,.k (.bool false),.b false,.k (.bool true),.b true] rfl ?_
   refine S_heap (rdB v l q.next e b d n :: [exO,exB (.mk xk xn xt xs xm)]) ?_ ?_
   ·show rdI v l (IntKind.i64.wrap (((l.length - q.r.length : Nat) : Int) + 1)) q.f e b d n :: _ = _
    rw [hwr]; rfl
   refine pB [.f (exA (.mk yk yn yt ys ym)) (fun σ => rdB v l q1 e b d n :: σ.tail)] rfl ?_
   exact S_round ⟨G,.mk yk yn yt ys ym,q1⟩ (Nat.lt_succ_self _) ⟨by show G ≤ F; omega,hr1,hx⟩ (.cons rfl (.cons rfl (.cons rfl (.nil _)))) rfl
  rw [if_neg c2] at hx
  rw [(Bool.not_eq_true _).mp c2] at hi2
  cases hx
  refine pB [.k (.bool false),.b true,.k (.bool false),.b false,.k (.bool false),.b false] rfl ?_
  refine S_ret ⟨_,_,rfl,⟨rfl,trivial⟩,?_⟩
  exact rfin (.low (Low.free (exA_free (st:=true) (.mk xk xn xt xs xm))))
theorem callR_go {e F n : Nat} {ks : List Ex} {ns : List (List UInt8)} {q : Rd} {y : Ex × Rd} (h : ¬ q.bad = true) (hx : callR e F n ks ns q = some y) : ∃ G,F = G + 1 ∧ (if isR [[41]] q then some (.mk 10 0 [] ks ns,q.next) else callG e G n ks ns (if ks.length > 1 then signR e [44] q else q)) = some y:=by
 cases F with
 | zero => unfold callR at hx; rw [if_neg h] at hx; cases hx
 | succ G => rw [callR,if_neg h] at hx; exact ⟨G,rfl,hx⟩
structure RcSt where
 F : Nat
 ks : List Ex
 ns : List (List UInt8)
 q : Rd
 w : Nat
 u : Nat
theorem rcall_ok (F : Nat) (he : ∀ F',F' ≤ F → Rx 64 exprR F') (v : Nat) (l : List Tok) (q : Rd) (e b d n : Nat) (x : Ex) (y : Ex × Rd) (hr : q.r <:+ l) (hl : l.length ≤ 100000) (hn : n + F < 3000000) (hx : callR e (F + 1) n [x] [] q = some y) :
  CallOk cx 129 [.ptr 0 v 0,exA x] [rdB v l q e b d n] (fun o s => o = .ret (exA y.1) ∧ s = [rdB v l y.2 e b d n]) :=
 callOk_introT (fun a w => Tryz.call129 a w) Tryz.func129 rfl Tryz.ntmps129 rfl fun B => by
  obtain ⟨xk,xn,xt,xs,xm⟩:=x
  refine go (M:=[11]) 9 rfl ⟨rfl,trivial⟩ ?_
  refine S_unfull (t:=11) rfl ⟨.skip,_,.inr ⟨_,_,_,rfl⟩⟩ ?_
  refine pB [] rfl ?_
  refine S_ghost (id:=1) (j:=4) 1 ⟨false,none⟩ rfl rfl rfl (Nat.ne_of_lt (lble rfl)) ⟨_,_,.inl rfl⟩ ?_
  refine S_while (α:=RcSt) (fun p => [(0,.ptr 0 v 0),(3,.ptr 1 0 0),(4,.ptr 2 0 0),(5,.int .i64 ((p.ks.length - 1 : Nat) : Int))]) (fun p => [rdB v l p.q e b d n,callX p.w p.ks p.u p.ns,exO,kidB p.w p.ks,namB p.u p.ns])
   (fun p => p.F ≤ F + 1 ∧ p.q.r <:+ l ∧ callR e p.F n p.ks p.ns p.q = some y ∧ p.ks.length + p.F ≤ F + 2 ∧ p.ns.length + p.F ≤ F + 2 ∧ 1 ≤ p.ks.length) (fun p => p.F) ⟨F + 1,[.mk xk xn xt xs xm],[],q,0,0⟩
   ⟨Nat.le_refl _,hr,hx,by show 1 + (F + 1) ≤ F + 2; omega,by show 0 + (F + 1) ≤ F + 2; omega,Nat.le_refl _⟩ (.cons rfl (.cons rfl (.cons rfl (.cons rfl (.nil _))))) rfl ?_
  clear hx hr
  rintro ⟨F1,ks,ns,q,w,u⟩ ⟨hF1,hr,hx,hks,hns,hk1⟩
  have hF1 : F1 ≤ F + 1:=hF1
  have hr : q.r <:+ l:=hr
  have hx : callR e F1 n ks ns q = some y:=hx
  have hks : ks.length + F1 ≤ F + 2:=hks
  have hns : ns.length + F1 ≤ F + 2:=hns
  have hk1 : 1 ≤ ks.length:=hk1
  show S cx _ B _ _ [(0,.ptr 0 v 0),(3,.ptr 1 0 0),(4,.ptr 2 0 0),(5,.int .i64 ((ks.length - 1 : Nat) : Int))] [rdB v l q e b d n,callX w ks u ns,exO,kidB w ks,namB u ns]
  have hb:=rbadT v l q e b d n [callX w ks u ns,exO,kidB w ks,namB u ns]
  by_cases hbad : q.bad = true
  ·rw [hbad] at hb
   rw [callR_bad hbad] at hx
   cases hx
   refine pB [.k (.bool true),.b false] rfl ?_
   refine S_ret ⟨_,_,rfl,⟨rfl,trivial⟩,?_⟩
   exact rfin (exFz (kidFz (by decide) rfl) (namFz (by decide) rfl))
  obtain ⟨G,rfl,hx'⟩:=callR_go hbad hx
  clear hx
  have hx:=hx'
  clear hx'
  rw [(Bool.not_eq_true _).mp hbad] at hb
  have hi:=risT v l q e b d n [[41]] true true [callX w ks u ns,exO,kidB w ks,namB u ns] (by decide) hr hl
  by_cases c : isR [[41]] q = true
  ·rw [if_pos c] at hx
   rw [c] at hi
   cases hx
   have hwr:=rd_next (isR_ne c) hr hl
   refine pB [.k (.bool false),.b true,.k (.bool true),.b true] rfl ?_
   refine S_ret ⟨_,_,rfl,⟨rfl,trivial⟩,?_⟩
   show TR 1 _ (.ret _) (rdI v l (IntKind.i64.wrap (((l.length - q.r.length : Nat) : Int) + 1)) q.f e b d n :: _)
   rw [hwr]
   exact rfin (q:=q.next) (exFz (kidFz (by decide) rfl) (namFz (by decide) rfl))
  rw [if_neg c] at hx
  rw [(Bool.not_eq_true _).mp c] at hi
  obtain ⟨q2,hq2⟩ : ∃ q2,q2 = if ks.length > 1 then signR e [44] q else q:=⟨_,rfl⟩
  rw [← hq2] at hx
  have hr2 : q2.r <:+ l:=by rw [hq2]; exact ite_s (sign_s hr) hr
  refine' S_shareU [(0,.ptr 0 v 0),(3,.ptr 1 0 0),(4,.ptr 2 0 0),(5,.int .i64 ((ks.length - 1 : Nat) : Int)),(34,.ptr 0 v 0)] (fun _ : Unit => [rdB v l q2 e b d n,callX w ks u ns,exO,kidB w ks,namB u ns]) (fun _ => True) (fun cont => ?main) ?rest
  case main =>
   by_cases h : ks.length > 1
   ·rw [if_pos h] at hq2
    have hM:=rsignT v l q e b d n [44] [callX w ks u ns,exO,kidB w ks,namB u ns] hr hl
    rw [← hq2] at hM
    refine pB [.k (.bool false),.b true,.k (.bool false),.b false,.b true,.f (.tup []) (fun σ => rdB v l q2 e b d n :: σ.tail)] rfl ?_
    exact cont () _ trivial (.cons rfl (.cons rfl (.cons rfl (.cons rfl (.cons rfl (.nil _))))))
   ·rw [if_neg h] at hq2
    subst hq2
    refine pB [.k (.bool false),.b true,.k (.bool false),.b false,.b false] rfl ?_
    exact cont () _ trivial (.cons rfl (.cons rfl (.cons rfl (.cons rfl (.cons rfl (.nil _))))))
  case rest =>
  rintro _ _
  show S cx _ B _ _ [(0,.ptr 0 v 0),(3,.ptr 1 0 0),(4,.ptr 2 0 0),(5,.int .i64 ((ks.length - 1 : Nat) : Int)),(34,.ptr 0 v 0)] [rdB v l q2 e b d n,callX w ks u ns,exO,kidB w ks,namB u ns]
  clear hq2 hb hi hr c hbad
  cases G with
  | zero => cases hx
  | succ G =>
  rw [callG] at hx
  have hlk:=rlookT v l q2 e b d n [callX w ks u ns,exO,kidB w ks,namB u ns] hr2 hl
  have hlk1:=rlook1T v l q2 e b d n [callX w ks u ns,exO,kidB w ks,namB u ns] hr2 hl
  obtain ⟨t,ht⟩ : ∃ t,t = lkT q2:=⟨_,rfl⟩
  obtain ⟨k0,hk0⟩ : ∃ k,k = lkK q2:=⟨_,rfl⟩
  obtain ⟨k2,hk2⟩ : ∃ k,k = lkK1 q2:=⟨_,rfl⟩
  obtain ⟨t2,ht2⟩ : ∃ t,t = lkT1 q2:=⟨_,rfl⟩
  have hnm : nameR q2 = (k0 == 1 && k2 == 4 && t2 == [61]):=by unfold nameR; rw [hk0,hk2,ht2]
  rw [hnm,← ht] at hx
  rw [← ht,← hk0] at hlk
  rw [← ht2,← hk2] at hlk1
  clear hnm
  have hHT:=HasText_ok (st:=false) (fl:=false) ns t (by omega)
  have hFz : Frzs [rdB v l q2 e b d n,callX w ks u ns,exO,kidB w ks,namB u ns] [.ms 4 u 0 ns.length 1 false,.str t] [.sl false false 1 (texts ns),.str t]:=.cons (.ms1 rfl (fun x hx => by obtain ⟨y,_,rfl⟩:=List.mem_map.1 hx; rfl) (texts_len ns) (textsF ns)) (.cons (.refl .str) (.nil _))
  refine' S_shareG (ι:=RcSt) [(0,.ptr 0 v 0),(3,.ptr 1 0 0),(4,.ptr 2 0 0),(5,.int .i64 ((ks.length - 1 : Nat) : Int))] (fun p => [rdB v l p.q e b d n,callX w ks p.u p.ns,exO,kidB w ks,namB p.u p.ns])
   (fun p => p.q.r <:+ l ∧ p.ns.length + G ≤ F + 2 ∧ (exprR e G n p.q).bind (fun y => callR e G n (ks ++ [y.1]) p.ns y.2) = some y) (fun cont => ?main) ?rest
  case main =>
   by_cases c2 : (k0 == 1 && k2 == 4 && t2 == [61]) = true
   ·rw [if_pos c2] at hx
    have hc2:=c2
    simp only [Bool.and_eq_true,beq_iff_eq] at hc2
    obtain ⟨⟨z1,z4⟩,e5⟩:=hc2
    have hne3 : q2.next.r ≠ []:=by
     intro h'
     rw [z4] at hk2
     unfold lkK1 at hk2
     have h' : q2.r.tail = []:=h'
     rw [h'] at hk2
     revert hk2
     split <;> simp [hdK]
    rw [z1] at hlk
    rw [z4,e5] at hlk1
    have hbx : 0 + ns.length * 1 = (texts ns).length:=by rw [texts_len]; omega
    obtain ⟨q3,hq3⟩ : ∃ q3,q3 = if ns.contains t then failR e 6 q2 else q2:=⟨_,rfl⟩
    rw [← hq3] at hx
    have hr3 : q3.r <:+ l:=by rw [hq3]; exact ite_s (fail_s hr2) hr2
    have hq3r : q3.r = q2.r:=by rw [hq3]; split; exact fail_r; rfl
    have hw2 : IntKind.i64.wrap (((l.length - q3.r.length : Nat) : Int) + 2) = ((l.length - q3.next.next.r.length : Nat) : Int):=by
     have h1:=hr3.length_le
     have e1 : q3.next.next.r = q3.r.tail.tail:=rfl
     rw [e1,hq3r] at *
     have h2 : q2.next.r.length ≠ 0:=fun h => hne3 (List.eq_nil_of_length_eq_zero h)
     have h2 : q2.r.tail.length ≠ 0:=h2
     rw [List.length_tail,List.length_tail] at *
     rw [IntWalk.i64_in _ ⟨by omega,by omega⟩]; omega
    refine' S_shareU [(0,.ptr 0 v 0),(3,.ptr 1 0 0),(4,.ptr 2 0 0),(5,.int .i64 ((ks.length - 1 : Nat) : Int)),(7,.str t)] (fun _ : Unit => [rdB v l q3 e b d n,callX w ks u ns,exO,kidB w ks,namB u ns]) (fun _ => True) (fun cont3 => ?main3) ?rest3
    case main3 =>
     by_cases c3 : ns.contains t = true
     ·rw [c3] at hHT
      rw [if_pos c3] at hq3
      have hf:=rfailT v l q2 e b d n 6 [callX w ks u ns,exO,kidB w ks,namB u ns] hr2 hl
      rw [← hq3] at hf
      refine pa [.k (lookA 1 t),.k (lookA 4 [61]),.b true,.b true,.b true,.v (.bool true),.b true,.f (.tup []) (fun σ => rdB v l q3 e b d n :: σ.tail),.s] rfl ?_ ?_
      ·(repeat' with_reducible apply AllP_cons) <;> try exact aC
       exact ⟨_,hHT,hFz⟩
      exact cont3 () _ trivial (.cons rfl (.cons rfl (.cons rfl (.cons rfl (.cons rfl (.nil _))))))
     ·rw [(Bool.not_eq_true _).mp c3] at hHT
      rw [if_neg c3] at hq3
      subst hq3
      refine pa [.k (lookA 1 t),.k (lookA 4 [61]),.b true,.b true,.b true,.v (.bool false),.b false,.s] rfl ?_ ?_
      ·(repeat' with_reducible apply AllP_cons) <;> try exact aC
       exact ⟨_,hHT,hFz⟩
      exact cont3 () _ trivial (.cons rfl (.cons rfl (.cons rfl (.cons rfl (.cons rfl (.nil _))))))
    case rest3 =>
     rintro _ _
     refine pa [] rfl ?_ ?_
     ·(repeat' with_reducible apply AllP_cons) <;> try exact aC
      show (ns.length + 1) * 16 ≤ 140737488355328
      omega
     refine S_heap [rdB v l q3.next.next e b d n,callX w ks (u + 1) (ns ++ [t]),exO,kidB w ks,namB (u + 1) (ns ++ [t])] ?_ ?_
     ·show [rdI v l (IntKind.i64.wrap (((l.length - q3.r.length : Nat) : Int) + 2)) q3.f e b d n,(0,some (.cells [.int .i64 10,.int .i64 0,.str [],.ms 3 w 0 ks.length 5 false,.ms 4 (u + 1) 0 (ns.length + 1) 1 false] ⟨false,some 54⟩)),exO,kidB w ks,(u + 1,some (.cells (texts ns ++ [.str t]) ⟨false,none⟩))] = _
      rw [hw2]
      unfold callX namB
      rw [List.length_append,nam_snoc]; rfl
     exact cont ⟨0,[],ns ++ [t],q3.next.next,0,u + 1⟩ _ ⟨next_s (next_s hr3),by show (ns ++ [_]).length + G ≤ F + 2; rw [List.length_append,List.length_singleton]; omega,hx⟩ (.cons rfl (.cons rfl (.cons rfl (.cons rfl (.nil _)))))
   rw [if_neg c2] at hx
   refine' S_shareR [(0,.ptr 0 v 0),(3,.ptr 1 0 0),(4,.ptr 2 0 0),(5,.int .i64 ((ks.length - 1 : Nat) : Int))] [rdB v l q2 e b d n,callX w ks u ns,exO,kidB w ks,namB u ns] (fun cont3 => ?main3) ?rest3
   case main3 =>
    by_cases z1 : k0 = 1
    ·rw [z1] at hlk
     by_cases z4 : k2 = 4
     ·rw [z4] at hlk1
      have e5 : (t2 == [61]) = false:=by
       cases hh : (t2 == [61]) with
       | false => rfl
       | true => exact absurd (by rw [z1,z4,hh]; rfl) c2
      refine pB [.k (lookA 1 t),.k (lookA 4 t2),.b true,.b true,.b false,.s] rfl ?_
      exact cont3 _ (.cons rfl (.cons rfl (.cons rfl (.cons rfl (.nil _)))))
     ·have e4 : ((k2 : Int) == 4) = false:=beq_false_of_ne (by omega)
      refine pB [.k (lookA 1 t),.k (lookA k2 t2),.b true,.b false,.b false,.s] rfl ?_
      exact cont3 _ (.cons rfl (.cons rfl (.cons rfl (.cons rfl (.nil _)))))
    ·have e4 : ((k0 : Int) == 1) = false:=beq_false_of_ne (by omega)
     refine pB [.k (lookA k0 t),.k (lookA k2 t2),.b false,.b false,.b false,.s] rfl ?_
     exact cont3 _ (.cons rfl (.cons rfl (.cons rfl (.cons rfl (.nil _)))))
   case rest3 =>
    by_cases h0 : ns.length > 0
    ·rw [if_pos h0] at hx
     have hf:=rfailT v l q2 e b d n 1 [callX w ks u ns,exO,kidB w ks,namB u ns] hr2 hl
     refine pB [.b true,.f (.tup []) (fun σ => rdB v l (failR e 1 q2) e b d n :: σ.tail)] rfl ?_
     exact cont ⟨0,[],ns,failR e 1 q2,0,u⟩ _ ⟨fail_s hr2,by show ns.length + G ≤ F + 2; omega,hx⟩ (.cons rfl (.cons rfl (.cons rfl (.cons rfl (.nil _)))))
    ·rw [if_neg h0] at hx
     refine pB [.b false] rfl ?_
     exact cont ⟨0,[],ns,q2,0,u⟩ _ ⟨hr2,by show ns.length + G ≤ F + 2; omega,hx⟩ (.cons rfl (.cons rfl (.cons rfl (.cons rfl (.nil _)))))
  case rest =>
   rintro ⟨_,_,ns2,q4,_,u2⟩ ⟨hr4,hns2,hx⟩
   have hr4 : q4.r <:+ l:=hr4
   have hns2 : ns2.length + G ≤ F + 2:=hns2
   have hx : (exprR e G n q4).bind (fun y => callR e G n (ks ++ [y.1]) ns2 y.2) = some y:=hx
   show S cx _ B _ _ [(0,.ptr 0 v 0),(3,.ptr 1 0 0),(4,.ptr 2 0 0),(5,.int .i64 ((ks.length - 1 : Nat) : Int))] [rdB v l q4 e b d n,callX w ks u2 ns2,exO,kidB w ks,namB u2 ns2]
   cases hx1 : exprR e G n q4 with
   | none => rw [hx1] at hx; cases hx
   | some y1 =>
   rw [hx1] at hx
   have hr5:=(allR e l G).expr _ _ hr4 _ hx1
   obtain ⟨⟨yk,yn,yt,ys,ym⟩,q5⟩:=y1
   have hx : callR e G n (ks ++ [.mk yk yn yt ys ym]) ns2 q5 = some y:=hx
   have h2:=(he G (by omega)).tail v l q4 e b d n _ q5 [callX w ks u2 ns2,exO,kidB w ks,namB u2 ns2] hr4 hl (by omega) hx1
   have hbx : 0 + ks.length * 5 = (exF ks).length:=by rw [exF_len]; omega
   have hwk : IntKind.i64.wrap (((ks.length - 1 : Nat) : Int) + 1) = (((ks ++ [Ex.mk yk yn yt ys ym]).length - 1 : Nat) : Int):=by
    rw [List.length_append,List.length_singleton,IntWalk.i64_in _ ⟨by omega,by omega⟩]; omega
   refine pa [.d 3 5 [] (fun σ => rdB v l q5 e b d n :: σ.tail) [exA (.mk yk yn yt ys ym)]] rfl ?_ ?_
   ·(repeat' with_reducible apply AllP_cons) <;> try exact aC
    ·exact ⟨_,h2,rfl⟩
    ·show (ks.length + 1) * 80 ≤ 140737488355328
     omega
   refine S_round ⟨G,ks ++ [.mk yk yn yt ys ym],ns2,q5,w + 1,u2⟩ (by show G < G + 1 + 1; omega) ⟨by show G ≤ F + 1; omega,hr5,hx,by show (ks ++ [_]).length + G ≤ F + 2; rw [List.length_append,List.length_singleton]; omega,hns2,by show 1 ≤ (ks ++ [_]).length; simp⟩ (.cons rfl (.cons rfl (.cons rfl (.cons (by show AV.int .i64 (IntKind.i64.wrap (((ks.length - 1 : Nat) : Int) + 1)) = _; rw [hwk]) (.nil _))))) ?_
   show _ = [rdB v l q5 e b d n,callX (w + 1) (ks ++ [.mk yk yn yt ys ym]) u2 ns2,exO,kidB (w + 1) (ks ++ [.mk yk yn yt ys ym]),namB u2 ns2]
   unfold callX kidB
   rw [exF_snoc,List.length_append]; rfl
def Rli (F : Nat) : Prop:=∀ (v : Nat) (l : List Tok) (q : Rd) (e b d n : Nat) (y : Ex × Rd),q.r <:+ l → l.length ≤ 100000 → n + F < 3000000 → listR e F n 7 [] [] q = some y →
 CallOk cx 136 [.ptr 0 v 0] [rdB v l q e b d n] (fun o s => o = .ret (exA y.1) ∧ s = [rdB v l y.2 e b d n])
theorem Rli.tail {F : Nat} (h : Rli F) (v : Nat) (l : List Tok) (q : Rd) (e b d n : Nat) (y : Ex) (q' : Rd) (τ : Heap) (hr : q.r <:+ l) (hl : l.length ≤ 100000) (hn : n + F < 3000000) (hx : listR e F n 7 [] [] q = some (y,q')) :
  CallOk cx 136 [.ptr 0 v 0] (rdB v l q e b d n :: τ) (fun o s => o = .ret (exA y) ∧ s = rdB v l q' e b d n :: τ) :=
 rT (h v l q e b d n (y,q') hr hl hn hx) (exA_free _) (by simp) τ
theorem listR_go {e F n kd : Nat} {tx : List UInt8} {ks : List Ex} {q : Rd} {y : Ex × Rd} (h : ¬ q.bad = true) (hx : listR e F n kd tx ks q = some y) : ∃ G,F = G + 1 ∧ (if isR [[93]] q then some (.mk kd 0 tx ks [],signR e [93] q)
  else if ks.length = 1 ∧ isR [wFor] q = true then eachR e G n ks (kindR e 1 q.next).1 (signR e wIn (kindR e 1 q.next).2)
  else (exprR e G n (if ks.length > 0 then signR e [44] q else q)).bind fun y => listR e G n kd tx (ks ++ [y.1]) y.2) = some y:=by
 cases F with
 | zero => unfold listR at hx; rw [if_neg h] at hx; cases hx
 | succ G => rw [listR,if_neg h] at hx; exact ⟨G,rfl,hx⟩
structure RlSt where
 F : Nat
 ks : List Ex
 q : Rd
 w : Nat
structure RlEnd where
 kd : Nat
 tx : List UInt8
 ks : List Ex
 q : Rd
 w : Nat
theorem rlist_ok (F : Nat) (he : ∀ F',F' ≤ F → Rx 64 exprR F') (v : Nat) (l : List Tok) (q : Rd) (e b d n : Nat) (y : Ex × Rd) (hr : q.r <:+ l) (hl : l.length ≤ 100000) (hn : n + F < 3000000) (hx : listR e (F + 1) n 7 [] [] q = some y) :
  CallOk cx 136 [.ptr 0 v 0] [rdB v l q e b d n] (fun o s => o = .ret (exA y.1) ∧ s = [rdB v l y.2 e b d n]) :=
 callOk_introT (fun a w => Tryz.call136 a w) Tryz.func136 rfl Tryz.ntmps136 rfl fun B => by
  have hx : listR e (F + 1) n 7 [] [] q = some y:=hx
  refine' S_shareU (ι:=RlEnd) [(0,.ptr 0 v 0),(2,.ptr 1 0 0),(3,.ptr 2 0 0),(69,.ptr 0 v 0)] (fun p => [rdB v l p.q e b d n,exO,kidX p.kd p.tx p.w p.ks,kidB p.w p.ks])
   (fun p => p.q.r <:+ l ∧ y = (.mk p.kd 0 p.tx p.ks [],signR e [93] p.q)) (fun cont => ?main) ?rest
  case main =>
   refine pB [] rfl ?_
   refine S_ghost (id:=2) (j:=3) 5 ⟨false,none⟩ rfl rfl rfl (Nat.ne_of_lt (lble rfl)) ⟨_,_,.inl rfl⟩ ?_
   refine S_while (α:=RlSt) (fun p => [(0,.ptr 0 v 0),(2,.ptr 1 0 0),(3,.ptr 2 0 0),(4,.int .i64 (p.ks.length : Nat))]) (fun p => [rdB v l p.q e b d n,exO,kidX 7 [] p.w p.ks,kidB p.w p.ks])
    (fun p => p.F ≤ F + 1 ∧ p.q.r <:+ l ∧ listR e p.F n 7 [] p.ks p.q = some y ∧ p.ks.length + p.F ≤ F + 1) (fun p => p.F) ⟨F + 1,[],q,0⟩ ⟨Nat.le_refl _,hr,hx,by show 0 + (F + 1) ≤ F + 1; omega⟩ (.cons rfl (.cons rfl (.cons rfl (.cons rfl (.nil _))))) rfl ?_
   rintro ⟨F1,ks,q,w⟩ ⟨hF1,hr,hx,hks⟩
   have hF1 : F1 ≤ F + 1:=hF1
   have hr : q.r <:+ l:=hr
   have hx : listR e F1 n 7 [] ks q = some y:=hx
   have hks : ks.length + F1 ≤ F + 1:=hks
   show S cx _ B _ _ [(0,.ptr 0 v 0),(2,.ptr 1 0 0),(3,.ptr 2 0 0),(4,.int .i64 (ks.length : Nat))] [rdB v l q e b d n,exO,kidX 7 [] w ks,kidB w ks]
   have hb:=rbadT v l q e b d n [exO,kidX 7 [] w ks,kidB w ks]
   by_cases hbad : q.bad = true
   ·rw [hbad] at hb
    rw [listR_bad hbad] at hx
    refine pB [.k (.bool true),.b false] rfl ?_
    exact cont ⟨7,[],ks,q,w⟩ _ ⟨hr,by rw [signR_bad hbad]; exact (Option.some.inj hx).symm⟩ (.cons rfl (.cons rfl (.cons rfl (.cons rfl (.nil _)))))
   obtain ⟨G,rfl,hx'⟩:=listR_go hbad hx
   clear hx
   have hx:=hx'
   clear hx'
   rw [(Bool.not_eq_true _).mp hbad] at hb
   have hi:=risT v l q e b d n [[93]] true true [exO,kidX 7 [] w ks,kidB w ks] (by decide) hr hl
   by_cases c : isR [[93]] q = true
   ·rw [if_pos c] at hx
    rw [c] at hi
    refine pB [.k (.bool false),.b true,.k (.bool true),.b true] rfl ?_
    exact cont ⟨7,[],ks,q,w⟩ _ ⟨hr,(Option.some.inj hx).symm⟩ (.cons rfl (.cons rfl (.cons rfl (.cons rfl (.nil _)))))
   rw [if_neg c] at hx
   rw [(Bool.not_eq_true _).mp c] at hi
   have hi2:=risT v l q e b d n [wFor] true true [exO,kidX 7 [] w ks,kidB w ks] (by decide) hr hl
   by_cases c2 : ks.length = 1 ∧ isR [wFor] q = true
   ·rw [if_pos c2] at hx
    obtain ⟨z1,c2⟩:=c2
    obtain ⟨x0,rfl⟩ : ∃ x0,ks = [x0]:=by
     match ks,z1 with
     | [x0],_ => exact ⟨x0,rfl⟩
    rw [c2] at hi2
    have hwr:=rd_next (isR_ne c2) hr hl
    cases G with
    | zero => cases hx
    | succ G =>
    rw [eachR] at hx
    refine pB [.k (.bool false),.b true,.k (.bool false),.b false,.b true,.k (.bool true),.b true] rfl ?_
    refine S_heap (rdB v l q.next e b d n :: [exO,kidX 7 [] w [x0],kidB w [x0]]) ?_ ?_
    ·show rdI v l (IntKind.i64.wrap (((l.length - q.r.length : Nat) : Int) + 1)) q.f e b d n :: _ = _
     rw [hwr]; rfl
    have hK:=rkindT v l q.next e b d n 1 [exO,kidX 7 [] w [x0],kidB w [x0]] (by decide) (next_s hr) hl
    have hrk : (kindR e 1 q.next).2.r <:+ l:=kind_s (next_s hr)
    obtain ⟨qk,hqk⟩ : ∃ qk,qk = (kindR e 1 q.next).2:=⟨_,rfl⟩
    obtain ⟨t,ht⟩ : ∃ t,t = (kindR e 1 q.next).1:=⟨_,rfl⟩
    rw [← hqk,← ht] at hK
    rw [← hqk] at hrk
    rw [← hqk,← ht] at hx
    have hS:=rsignT v l qk e b d n wIn [exO,kidX 9 t w [x0],kidB w [x0]] hrk hl
    have hrs : (signR e wIn qk).r <:+ l:=sign_s hrk
    obtain ⟨q2,hq2⟩ : ∃ q2,q2 = signR e wIn qk:=⟨_,rfl⟩
    rw [← hq2] at hS hx hrs
    cases hx1 : exprR e G n q2 with
    | none => rw [hx1] at hx; cases hx
    | some y1 =>
    rw [hx1] at hx
    have hr5:=(allR e l G).expr _ _ hrs _ hx1
    obtain ⟨⟨yk,yn,yt,ys,ym⟩,q5⟩:=y1
    have h2:=(he G (by omega)).tail v l q2 e b d n _ q5 [exO,kidX 9 t w [x0],kidB w [x0]] hrs hl (by omega) hx1
    have hbx : 0 + [x0].length * 5 = (exF [x0]).length:=by rw [exF_len]; omega
    refine pa [.f (.str t) (fun σ => rdB v l qk e b d n :: σ.tail),.f (.tup []) (fun σ => rdB v l q2 e b d n :: σ.tail),.d 3 5 [] (fun σ => rdB v l q5 e b d n :: σ.tail) [exA (.mk yk yn yt ys ym)]] rfl ?_ ?_
    ·(repeat' with_reducible apply AllP_cons) <;> try exact aC
     exact ⟨_,h2,rfl⟩
    refine S_heap [rdB v l q5 e b d n,exO,kidX 9 t (w + 1) [x0,.mk yk yn yt ys ym],kidB (w + 1) [x0,.mk yk yn yt ys ym]] (kid_snoc _ 9 t (w + 1) [x0] (.mk yk yn yt ys ym)) ?_
    obtain ⟨z,hz⟩ : ∃ z,z = Ex.mk yk yn yt ys ym:=⟨_,rfl⟩
    rw [← hz] at hx ⊢
    have hx : (if isR [wIf] q5 then (exprR e G n q5.next).bind fun z2 => some (.mk 9 0 t [x0,z,z2.1] [],signR e [93] z2.2)
     else some (.mk 9 0 t [x0,z] [],signR e [93] q5)) = some y:=hx
    clear h2 hx1
    have hi3:=risT v l q5 e b d n [wIf] true true [exO,kidX 9 t (w + 1) [x0,z],kidB (w + 1) [x0,z]] (by decide) hr5 hl
    by_cases c3 : isR [wIf] q5 = true
    ·rw [if_pos c3] at hx
     rw [c3] at hi3
     have hwr:=rd_next (isR_ne c3) hr5 hl
     cases hx1 : exprR e G n q5.next with
     | none => rw [hx1] at hx; cases hx
     | some y1 =>
     rw [hx1] at hx
     have hr6:=(allR e l G).expr _ _ (next_s hr5) _ hx1
     obtain ⟨⟨yk,yn,yt,ys,ym⟩,q6⟩:=y1
     have h2:=(he G (by omega)).tail v l q5.next e b d n _ q6 [exO,kidX 9 t (w + 1) [x0,z],kidB (w + 1) [x0,z]] (next_s hr5) hl (by omega) hx1
     have hbx : 0 + [x0,z].length * 5 = (exF [x0,z]).length:=by rw [exF_len]; omega
     refine pB [.k (.bool true),.b true] rfl ?_
     refine S_heap (rdB v l q5.next e b d n :: [exO,kidX 9 t (w + 1) [x0,z],kidB (w + 1) [x0,z]]) ?_ ?_
     ·show rdI v l (IntKind.i64.wrap (((l.length - q5.r.length : Nat) : Int) + 1)) q5.f e b d n :: _ = _
      rw [hwr]; rfl
     refine pa [.d 3 5 [] (fun σ => rdB v l q6 e b d n :: σ.tail) [exA (.mk yk yn yt ys ym)]] rfl ?_ ?_
     ·(repeat' with_reducible apply AllP_cons) <;> try exact aC
      exact ⟨_,h2,rfl⟩
     refine S_heap [rdB v l q6 e b d n,exO,kidX 9 t (w + 2) [x0,z,.mk yk yn yt ys ym],kidB (w + 2) [x0,z,.mk yk yn yt ys ym]] (kid_snoc _ 9 t (w + 2) [x0,z] (.mk yk yn yt ys ym)) ?_
     exact cont ⟨9,t,[x0,z,.mk yk yn yt ys ym],q6,w + 2⟩ _ ⟨hr6,(Option.some.inj hx).symm⟩ (.cons rfl (.cons rfl (.cons rfl (.cons rfl (.nil _)))))
    ·rw [if_neg c3] at hx
     rw [(Bool.not_eq_true _).mp c3] at hi3
     refine pB [.k (.bool false),.b false] rfl ?_
     exact cont ⟨9,t,[x0,z],q5,w + 1⟩ _ ⟨hr5,(Option.some.inj hx).symm⟩ (.cons rfl (.cons rfl (.cons rfl (.cons rfl (.nil _)))))
   rw [if_neg c2] at hx
   obtain ⟨q2,hq2⟩ : ∃ q2,q2 = if ks.length > 0 then signR e [44] q else q:=⟨_,rfl⟩
   rw [← hq2] at hx
   have hr2 : q2.r <:+ l:=by rw [hq2]; exact ite_s (sign_s hr) hr
   refine' S_share [(0,.ptr 0 v 0),(2,.ptr 1 0 0),(3,.ptr 2 0 0),(4,.int .i64 (ks.length : Nat))] [rdB v l q2 e b d n,exO,kidX 7 [] w ks,kidB w ks] (fun cont2 => ?main2) ?rest2
   case main2 =>
    by_cases z0 : ks.length = 0
    ·obtain rfl:=List.eq_nil_of_length_eq_zero z0
     have hq2 : q2 = q:=hq2
     subst hq2
     refine pB [.k (.bool false),.b true,.k (.bool false),.b false,.b false,.b false,.b false] rfl ?_
     exact cont2 _ (.cons rfl (.cons rfl (.cons rfl (.cons rfl (.nil _)))))
    have hM:=rsignT v l q e b d n [44] [exO,kidX 7 [] w ks,kidB w ks] hr hl
    rw [if_pos (by omega)] at hq2
    rw [← hq2] at hM
    have e0 : decide ((ks.length : Int) > 0) = true:=decide_eq_true (by omega)
    by_cases z1 : ks.length = 1
    ·have e1 : ((ks.length : Int) == 1) = true:=by rw [z1]; rfl
     have c3 : isR [wFor] q = false:=(Bool.not_eq_true _).mp fun h => c2 ⟨z1,h⟩
     rw [c3] at hi2
     refine pB [.k (.bool false),.b true,.k (.bool false),.b false,.b true,.k (.bool false),.b false,.b true,.f (.tup []) (fun σ => rdB v l q2 e b d n :: σ.tail)] rfl ?_
     exact cont2 _ (.cons rfl (.cons rfl (.cons rfl (.cons rfl (.nil _)))))
    ·have e1 : ((ks.length : Int) == 1) = false:=beq_false_of_ne (by omega)
     refine pB [.k (.bool false),.b true,.k (.bool false),.b false,.b false,.b false,.b true,.f (.tup []) (fun σ => rdB v l q2 e b d n :: σ.tail)] rfl ?_
     exact cont2 _ (.cons rfl (.cons rfl (.cons rfl (.cons rfl (.nil _)))))
   case rest2 =>
    cases hx1 : exprR e G n q2 with
    | none => rw [hx1] at hx; cases hx
    | some y1 =>
    rw [hx1] at hx
    have hr5:=(allR e l G).expr _ _ hr2 _ hx1
    obtain ⟨⟨yk,yn,yt,ys,ym⟩,q5⟩:=y1
    have hx : listR e G n 7 [] (ks ++ [.mk yk yn yt ys ym]) q5 = some y:=hx
    have h2:=(he G (by omega)).tail v l q2 e b d n _ q5 [exO,kidX 7 [] w ks,kidB w ks] hr2 hl (by omega) hx1
    have hbx : 0 + ks.length * 5 = (exF ks).length:=by rw [exF_len]; omega
    have hwk : IntKind.i64.wrap ((ks.length : Int) + 1) = (((ks ++ [Ex.mk yk yn yt ys ym]).length : Nat) : Int):=by
     rw [List.length_append,List.length_singleton,IntWalk.i64_in _ ⟨by omega,by omega⟩]; omega
    refine pa [.d 3 5 [] (fun σ => rdB v l q5 e b d n :: σ.tail) [exA (.mk yk yn yt ys ym)]] rfl ?_ ?_
    ·(repeat' with_reducible apply AllP_cons) <;> try exact aC
     ·exact ⟨_,h2,rfl⟩
     ·show (ks.length + 1) * 80 ≤ 140737488355328
      omega
    refine S_round ⟨G,ks ++ [.mk yk yn yt ys ym],q5,w + 1⟩ (Nat.lt_succ_self _) ⟨by show G ≤ F + 1; omega,hr5,hx,by show (ks ++ [_]).length + G ≤ F + 1; rw [List.length_append,List.length_singleton]; omega⟩ (.cons rfl (.cons rfl (.cons rfl (.cons (by show AV.int .i64 (IntKind.i64.wrap ((ks.length : Int) + 1)) = _; rw [hwk]) (.nil _))))) ?_
    exact kid_snoc _ 7 [] (w + 1) ks (.mk yk yn yt ys ym)
  case rest =>
   rintro ⟨kd,tx,ks,q,w⟩ ⟨hr,hy⟩
   have hr : q.r <:+ l:=hr
   have hy : y = (.mk kd 0 tx ks [],signR e [93] q):=hy
   subst hy
   show S cx _ B _ _ [(0,.ptr 0 v 0),(2,.ptr 1 0 0),(3,.ptr 2 0 0),(69,.ptr 0 v 0)] [rdB v l q e b d n,exO,kidX kd tx w ks,kidB w ks]
   have hM:=rsignT v l q e b d n [93] [exO,kidX kd tx w ks,kidB w ks] hr hl
   refine pB [.f (.tup []) (fun σ => rdB v l (signR e [93] q) e b d n :: σ.tail)] rfl ?_
   refine S_ret ⟨_,_,rfl,⟨rfl,trivial⟩,?_⟩
   exact rfin (exFz (kidFz (by decide) rfl) .nils)
theorem dictR_go {e F n : Nat} {ks : List Ex} {q : Rd} {y : Ex × Rd} (h : ¬ q.bad = true) (hx : dictR e F n ks q = some y) : ∃ G,F = G + 1 ∧ (if isR [[125]] q then some (.mk 8 0 [] ks [],signR e [125] q)
  else (exprR e G n (if ks.length > 0 then signR e [44] q else q)).bind fun y => (exprR e G n (signR e [58] y.2)).bind fun z => dictR e G n (ks ++ [y.1] ++ [z.1]) z.2) = some y:=by
 cases F with
 | zero => unfold dictR at hx; rw [if_neg h] at hx; cases hx
 | succ G => rw [dictR,if_neg h] at hx; exact ⟨G,rfl,hx⟩
structure RdSt where
 F : Nat
 m : Nat
 ks : List Ex
 q : Rd
 w : Nat
def kidX0 (kd : Nat) : Nat × Option Box:=(0,some (.cells [.int .i64 (kd : Nat),.int .i64 0,.str [],.nils,.nils] ⟨false,some 54⟩))
theorem ratom_ok (F : Nat) (he : ∀ F',F' ≤ F → Rx 64 exprR F') (hli : Rli F) : Rx 128 atomR (F + 1):=fun v l q e b d n y hr hl hn hx =>
 callOk_introT (fun a w => Tryz.call128 a w) Tryz.func128 rfl Tryz.ntmps128 rfl fun B => by
  rw [atomR] at hx
  have hlk:=rlookT v l q e b d n [exO] hr hl
  by_cases k1 : lkK q = 1
  ·rw [if_pos k1] at hx
   have hwr:=rd_next (lkK_ne k1 (by decide)) hr hl
   rw [k1] at hlk
   obtain ⟨t,ht⟩ : ∃ t,t = lkT q:=⟨_,rfl⟩
   rw [← ht] at hx hlk
   cases hx
   refine pB [.k (lookA 1 t),.b true] rfl ?_
   refine S_ret ⟨_,_,rfl,⟨rfl,trivial⟩,?_⟩
   show TR 1 _ (.ret _) (rdI v l (IntKind.i64.wrap (((l.length - q.r.length : Nat) : Int) + 1)) q.f e b d n :: _)
   rw [hwr]
   exact rfin (q:=q.next) (exFz (kd:=6) (nm:=0) (ks:=[]) (ns:=[]) .nils .nils)
  rw [if_neg k1] at hx
  have e1 : (((lkK q : Nat) : Int) == 1) = false:=beq_false_of_ne (by omega)
  by_cases k2 : lkK q = 2
  ·rw [if_pos k2] at hx
   have hne:=lkK_ne k2 (by decide)
   have hwr:=rd_next hne hr hl
   obtain ⟨t,u,hq⟩ : ∃ t u,q.r = t :: u:=by
    cases h : q.r with
    | nil => exact absurd h hne
    | cons t u => exact ⟨t,u,rfl⟩
   have hx : some (Ex.mk 4 ((q.r.head?.map Tok.num).getD 0) [] [] [],q.next) = some y:=hx
   rw [hq] at hx
   have hx : some (Ex.mk 4 t.num [] [] [],q.next) = some y:=hx
   cases hx
   obtain ⟨tt,htt⟩ : ∃ tt,tt = lkT q:=⟨_,rfl⟩
   rw [k2,← htt] at hlk
   have hg : (l.map tokA)[(((l.length - q.r.length : Nat) : Nat) : Int).toNat]? = some (tokA t):=by
    rw [hq]; exact suf_get (by rw [← hq]; exact hr)
   have hlt : l.length - q.r.length < l.length:=by rw [hq]; exact suf_lt (by rw [← hq]; exact hr)
   have hml : (l.map tokA).length = l.length:=by simp
   have hw1 : IntKind.i64.wrap (IntKind.i64.wrap (((l.length - q.r.length : Nat) : Int) + 1) - 1) = ((l.length - q.r.length : Nat) : Int):=by
    rw [IntWalk.i64_in (((l.length - q.r.length : Nat) : Int) + 1) ⟨by omega,by omega⟩,IntWalk.i64_in _ ⟨by omega,by omega⟩]; omega
   have h0 : (0 : Int) ≤ IntKind.i64.wrap (IntKind.i64.wrap (((l.length - q.r.length : Nat) : Int) + 1) - 1):=by rw [hw1]; omega
   have hg1 : (l.map tokA)[(IntKind.i64.wrap (IntKind.i64.wrap (((l.length - q.r.length : Nat) : Int) + 1) - 1)).toNat]? = some (tokA t):=by rw [hw1]; exact hg
   refine pB [.k (lookA 2 tt),.b false,.b true,.v (tokA t)] rfl ?_
   refine S_ret ⟨_,_,rfl,⟨rfl,trivial⟩,?_⟩
   show TR 1 _ (.ret _) (rdI v l (IntKind.i64.wrap (((l.length - q.r.length : Nat) : Int) + 1)) q.f e b d n :: _)
   rw [hwr]
   exact rfin (q:=q.next) (exFz (kd:=4) (nm:=t.num) (ks:=[]) (ns:=[]) .nils .nils)
  rw [if_neg k2] at hx
  have e2 : (((lkK q : Nat) : Int) == 2) = false:=beq_false_of_ne (by omega)
  by_cases k3 : lkK q = 3
  ·rw [if_pos k3] at hx
   have hwr:=rd_next (lkK_ne k3 (by decide)) hr hl
   rw [k3] at hlk
   obtain ⟨t,ht⟩ : ∃ t,t = lkT q:=⟨_,rfl⟩
   rw [← ht] at hx hlk
   cases hx
   refine pB [.k (lookA 3 t),.b false,.b false,.b true] rfl ?_
   refine S_ret ⟨_,_,rfl,⟨rfl,trivial⟩,?_⟩
   show TR 1 _ (.ret _) (rdI v l (IntKind.i64.wrap (((l.length - q.r.length : Nat) : Int) + 1)) q.f e b d n :: _)
   rw [hwr]
   exact rfin (q:=q.next) (exFz (kd:=5) (nm:=0) (ks:=[]) (ns:=[]) .nils .nils)
  rw [if_neg k3] at hx
  have e3 : (((lkK q : Nat) : Int) == 3) = false:=beq_false_of_ne (by omega)
  obtain ⟨t,ht⟩ : ∃ t,t = lkT q:=⟨_,rfl⟩
  obtain ⟨k0,hk0⟩ : ∃ k,k = lkK q:=⟨_,rfl⟩
  rw [← ht] at hx
  rw [← ht,← hk0] at hlk
  rw [← hk0] at e1 e2 e3
  have hi1:=risT v l q e b d n [wNone,wTrue,wFalse] true true [exO] (by decide) hr hl
  by_cases c1 : isR [wNone,wTrue,wFalse] q = true
  ·rw [if_pos c1] at hx
   rw [c1] at hi1
   have hwr:=rd_next (isR_ne c1) hr hl
   cases hx
   have fin : ∀ k,TR 1 (fun o s => o = .ret (exA (.mk k 0 [] [] [])) ∧ s = [rdB v l q.next e b d n]) (.ret (.agg [.int .i64 (k : Nat),.int .i64 0,.str [],.nils,.nils])) (rdI v l (IntKind.i64.wrap (((l.length - q.r.length : Nat) : Int) + 1)) q.f e b d n :: [(0,some (.cells [.int .i64 (k : Nat),.int .i64 0,.str [],.nils,.nils] ⟨false,some 54⟩))]):=fun k => by
    rw [hwr]
    exact rfin (q:=q.next) (exFz (kd:=k) (nm:=0) (ks:=[]) (ns:=[]) .nils .nils)
   unfold atomW
   by_cases w2 : t = wTrue
   ·subst w2
    rw [if_neg (by decide),if_pos (by decide)]
    refine pB [.k (lookA k0 wTrue),.b false,.b false,.b false,.k (.bool true),.b true,.b true,.b false] rfl ?_
    exact S_ret ⟨_,_,rfl,⟨rfl,trivial⟩,fin 2⟩
   ·have w2' : (t == wTrue) = false:=beq_false_of_ne w2
    by_cases w3 : t = wFalse
    ·subst w3
     rw [if_pos (by decide)]
     refine pB [.k (lookA k0 wFalse),.b false,.b false,.b false,.k (.bool true),.b true,.b false,.b true] rfl ?_
     exact S_ret ⟨_,_,rfl,⟨rfl,trivial⟩,fin 3⟩
    ·have w3' : (t == wFalse) = false:=beq_false_of_ne w3
     rw [w2',w3',if_neg (by decide),if_neg (by decide)]
     refine pB [.k (lookA k0 t),.b false,.b false,.b false,.k (.bool true),.b true,.b false,.b false] rfl ?_
     exact S_ret ⟨_,_,rfl,⟨rfl,trivial⟩,fin 1⟩
  rw [if_neg c1] at hx
  rw [(Bool.not_eq_true _).mp c1] at hi1
  have hi2:=risT v l q e b d n [[40]] true true [exO] (by decide) hr hl
  by_cases c2 : isR [[40]] q = true
  ·rw [if_pos c2] at hx
   rw [c2] at hi2
   have hwr:=rd_next (isR_ne c2) hr hl
   cases hx1 : exprR e F n q.next with
   | none => rw [hx1] at hx; cases hx
   | some y1 =>
   rw [hx1] at hx
   have hr1:=(allR e l F).expr _ _ (next_s hr) _ hx1
   obtain ⟨⟨yk,yn,yt,ys,ym⟩,q1⟩:=y1
   cases hx
   have h2:=(he F (Nat.le_refl _)).tail v l q.next e b d n _ q1 [exO] (next_s hr) hl (by omega) hx1
   have h3:=rsignT v l q1 e b d n [41] [exO,exB (.mk yk yn yt ys ym)] hr1 hl
   refine pB [.k (lookA k0 t),.b false,.b false,.b false,.k (.bool false),.b false,.k (.bool true),.b true] rfl ?_
   refine S_heap (rdB v l q.next e b d n :: [exO]) ?_ ?_
   ·show rdI v l (IntKind.i64.wrap (((l.length - q.r.length : Nat) : Int) + 1)) q.f e b d n :: _ = _
    rw [hwr]; rfl
   refine pB [.f (exA (.mk yk yn yt ys ym)) (fun σ => rdB v l q1 e b d n :: σ.tail),.f (.tup []) (fun σ => rdB v l (signR e [41] q1) e b d n :: σ.tail)] rfl ?_
   refine S_ret ⟨_,_,rfl,⟨rfl,trivial⟩,?_⟩
   exact rfin (.low (Low.free (exA_free (st:=true) (.mk yk yn yt ys ym))))
  rw [if_neg c2] at hx
  rw [(Bool.not_eq_true _).mp c2] at hi2
  have hi3:=risT v l q e b d n [[91]] true true [exO] (by decide) hr hl
  by_cases c3 : isR [[91]] q = true
  ·rw [if_pos c3] at hx
   rw [c3] at hi3
   have hwr:=rd_next (isR_ne c3) hr hl
   obtain ⟨⟨yk,yn,yt,ys,ym⟩,q1⟩:=y
   have h2:=hli.tail v l q.next e b d n _ q1 [exO] (next_s hr) hl (by omega) hx
   refine pB [.k (lookA k0 t),.b false,.b false,.b false,.k (.bool false),.b false,.k (.bool false),.b false,.k (.bool true),.b true] rfl ?_
   refine S_heap (rdB v l q.next e b d n :: [exO]) ?_ ?_
   ·show rdI v l (IntKind.i64.wrap (((l.length - q.r.length : Nat) : Int) + 1)) q.f e b d n :: _ = _
    rw [hwr]; rfl
   refine pB [.f (exA (.mk yk yn yt ys ym)) (fun σ => rdB v l q1 e b d n :: σ.tail)] rfl ?_
   refine S_ret ⟨_,_,rfl,⟨rfl,trivial⟩,?_⟩
   exact rfin (.low (Low.free (exA_free (st:=true) (.mk yk yn yt ys ym))))
  rw [if_neg c3] at hx
  rw [(Bool.not_eq_true _).mp c3] at hi3
  have hi4:=risT v l q e b d n [[123]] true true [exO] (by decide) hr hl
  by_cases c4 : isR [[123]] q = true
  ·rw [if_pos c4] at hx
   rw [c4] at hi4
   have hwr:=rd_next (isR_ne c4) hr hl
   refine pB [.k (lookA k0 t),.b false,.b false,.b false,.k (.bool false),.b false,.k (.bool false),.b false,.k (.bool false),.b false,.k (.bool true),.b true] rfl ?_
   refine S_heap (rdB v l q.next e b d n :: [exO,kidX0 8]) ?_ ?_
   ·show rdI v l (IntKind.i64.wrap (((l.length - q.r.length : Nat) : Int) + 1)) q.f e b d n :: _ = _
    rw [hwr]; rfl
   refine S_ghost (id:=2) (j:=3) 5 ⟨false,none⟩ rfl rfl rfl (Nat.ne_of_lt (lble rfl)) ⟨_,_,.inl rfl⟩ ?_
   refine' S_shareU (ι:=RlEnd) [(0,.ptr 0 v 0),(2,.ptr 1 0 0),(7,.ptr 2 0 0),(147,.ptr 0 v 0)] (fun p => [rdB v l p.q e b d n,exO,kidX 8 [] p.w p.ks,kidB p.w p.ks])
    (fun p => p.q.r <:+ l ∧ y = (.mk 8 0 [] p.ks [],signR e [125] p.q)) (fun cont => ?main) ?rest
   case main =>
    refine S_while (α:=RdSt) (fun p => [(0,.ptr 0 v 0),(2,.ptr 1 0 0),(7,.ptr 2 0 0),(8,.int .i64 (p.m : Nat))]) (fun p => [rdB v l p.q e b d n,exO,kidX 8 [] p.w p.ks,kidB p.w p.ks])
     (fun p => p.F ≤ F ∧ p.q.r <:+ l ∧ dictR e p.F n p.ks p.q = some y ∧ p.m + p.F ≤ F ∧ p.ks.length = 2 * p.m) (fun p => p.F) ⟨F,0,[],q.next,0⟩ ⟨Nat.le_refl _,next_s hr,hx,by show 0 + F ≤ F; omega,rfl⟩ (.cons rfl (.cons rfl (.cons rfl (.cons rfl (.nil _))))) rfl ?_
    rintro ⟨F1,m,ks,q,w⟩ ⟨hF1,hr,hx,hm,hks⟩
    have hF1 : F1 ≤ F:=hF1
    have hr : q.r <:+ l:=hr
    have hx : dictR e F1 n ks q = some y:=hx
    have hm : m + F1 ≤ F:=hm
    have hks : ks.length = 2 * m:=hks
    show S cx _ B _ _ [(0,.ptr 0 v 0),(2,.ptr 1 0 0),(7,.ptr 2 0 0),(8,.int .i64 (m : Nat))] [rdB v l q e b d n,exO,kidX 8 [] w ks,kidB w ks]
    have hb:=rbadT v l q e b d n [exO,kidX 8 [] w ks,kidB w ks]
    by_cases hbad : q.bad = true
    ·rw [hbad] at hb
     rw [dictR_bad hbad] at hx
     refine pB [.k (.bool true),.b false] rfl ?_
     exact cont ⟨8,[],ks,q,w⟩ _ ⟨hr,by rw [signR_bad hbad]; exact (Option.some.inj hx).symm⟩ (.cons rfl (.cons rfl (.cons rfl (.cons rfl (.nil _)))))
    obtain ⟨G,rfl,hx'⟩:=dictR_go hbad hx
    clear hx
    have hx:=hx'
    clear hx'
    rw [(Bool.not_eq_true _).mp hbad] at hb
    have hi:=risT v l q e b d n [[125]] true true [exO,kidX 8 [] w ks,kidB w ks] (by decide) hr hl
    by_cases c : isR [[125]] q = true
    ·rw [if_pos c] at hx
     rw [c] at hi
     refine pB [.k (.bool false),.b true,.k (.bool true),.b true] rfl ?_
     exact cont ⟨8,[],ks,q,w⟩ _ ⟨hr,(Option.some.inj hx).symm⟩ (.cons rfl (.cons rfl (.cons rfl (.cons rfl (.nil _)))))
    rw [if_neg c] at hx
    rw [(Bool.not_eq_true _).mp c] at hi
    obtain ⟨q2,hq2⟩ : ∃ q2,q2 = if ks.length > 0 then signR e [44] q else q:=⟨_,rfl⟩
    rw [← hq2] at hx
    have hr2 : q2.r <:+ l:=by rw [hq2]; exact ite_s (sign_s hr) hr
    refine' S_share [(0,.ptr 0 v 0),(2,.ptr 1 0 0),(7,.ptr 2 0 0),(8,.int .i64 (m : Nat))] [rdB v l q2 e b d n,exO,kidX 8 [] w ks,kidB w ks] (fun cont2 => ?main2) ?rest2
    case main2 =>
     by_cases z0 : m = 0
     ·rw [if_neg (by omega)] at hq2
      have e0 : decide ((m : Int) > 0) = false:=decide_eq_false (by omega)
      refine pB [.k (.bool false),.b true,.k (.bool false),.b false,.b false] rfl ?_
      rw [← hq2]
      exact cont2 _ (.cons rfl (.cons rfl (.cons rfl (.cons rfl (.nil _)))))
     have hM:=rsignT v l q e b d n [44] [exO,kidX 8 [] w ks,kidB w ks] hr hl
     rw [if_pos (by omega)] at hq2
     rw [← hq2] at hM
     have e0 : decide ((m : Int) > 0) = true:=decide_eq_true (by omega)
     refine pB [.k (.bool false),.b true,.k (.bool false),.b false,.b true,.f (.tup []) (fun σ => rdB v l q2 e b d n :: σ.tail)] rfl ?_
     exact cont2 _ (.cons rfl (.cons rfl (.cons rfl (.cons rfl (.nil _)))))
    case rest2 =>
     cases hx1 : exprR e G n q2 with
     | none => rw [hx1] at hx; cases hx
     | some y1 =>
     rw [hx1] at hx
     have hr5:=(allR e l G).expr _ _ hr2 _ hx1
     obtain ⟨⟨yk,yn,yt,ys,ym⟩,q5⟩:=y1
     have hx : (exprR e G n (signR e [58] q5)).bind (fun z => dictR e G n (ks ++ [.mk yk yn yt ys ym] ++ [z.1]) z.2) = some y:=hx
     have h2:=(he G (by omega)).tail v l q2 e b d n _ q5 [exO,kidX 8 [] w ks,kidB w ks] hr2 hl (by omega) hx1
     have hbx : 0 + ks.length * 5 = (exF ks).length:=by rw [exF_len]; omega
     refine pa [.d 3 5 [] (fun σ => rdB v l q5 e b d n :: σ.tail) [exA (.mk yk yn yt ys ym)]] rfl ?_ ?_
     ·(repeat' with_reducible apply AllP_cons) <;> try exact aC
      ·exact ⟨_,h2,rfl⟩
      ·show (ks.length + 1) * 80 ≤ 140737488355328
       omega
     obtain ⟨ks2,hk2⟩ : ∃ ks2,ks2 = ks ++ [Ex.mk yk yn yt ys ym]:=⟨_,rfl⟩
     have hkl : ks2.length = 2 * m + 1:=by rw [hk2,List.length_append,List.length_singleton]; omega
     refine S_heap [rdB v l q5 e b d n,exO,kidX 8 [] (w + 1) ks2,kidB (w + 1) ks2] (by rw [hk2]; exact kid_snoc _ 8 [] (w + 1) ks (.mk yk yn yt ys ym)) ?_
     rw [← hk2] at hx
     have hS:=rsignT v l q5 e b d n [58] [exO,kidX 8 [] (w + 1) ks2,kidB (w + 1) ks2] hr5 hl
     have hrs : (signR e [58] q5).r <:+ l:=sign_s hr5
     obtain ⟨q6,hq6⟩ : ∃ q6,q6 = signR e [58] q5:=⟨_,rfl⟩
     rw [← hq6] at hS hx hrs
     cases hx2 : exprR e G n q6 with
     | none => rw [hx2] at hx; cases hx
     | some y2 =>
     rw [hx2] at hx
     have hr7:=(allR e l G).expr _ _ hrs _ hx2
     obtain ⟨⟨zk,zn,zt,zs,zm⟩,q7⟩:=y2
     have hx : dictR e G n (ks2 ++ [.mk zk zn zt zs zm]) q7 = some y:=hx
     have h3:=(he G (by omega)).tail v l q6 e b d n _ q7 [exO,kidX 8 [] (w + 1) ks2,kidB (w + 1) ks2] hrs hl (by omega) hx2
     have hbx2 : 0 + ks2.length * 5 = (exF ks2).length:=by rw [exF_len]; omega
     have hwk : IntKind.i64.wrap ((m : Int) + 1) = ((m + 1 : Nat) : Int):=by
      rw [IntWalk.i64_in _ ⟨by omega,by omega⟩]; omega
     refine pa [.f (.tup []) (fun σ => rdB v l q6 e b d n :: σ.tail),.d 3 5 [] (fun σ => rdB v l q7 e b d n :: σ.tail) [exA (.mk zk zn zt zs zm)]] rfl ?_ ?_
     ·(repeat' with_reducible apply AllP_cons) <;> try exact aC
      ·exact ⟨_,h3,rfl⟩
      ·show (ks2.length + 1) * 80 ≤ 140737488355328
       omega
     refine S_round ⟨G,m + 1,ks2 ++ [.mk zk zn zt zs zm],q7,w + 2⟩ (Nat.lt_succ_self _) ⟨by show G ≤ F; omega,hr7,hx,by show m + 1 + G ≤ F; omega,by show (ks2 ++ [_]).length = 2 * (m + 1); rw [List.length_append,List.length_singleton]; omega⟩ (.cons rfl (.cons rfl (.cons rfl (.cons (by show AV.int .i64 (IntKind.i64.wrap ((m : Int) + 1)) = _; rw [hwk]) (.nil _))))) ?_
     exact kid_snoc _ 8 [] (w + 2) ks2 (.mk zk zn zt zs zm)
   case rest =>
    rintro ⟨_,_,ks,q,w⟩ ⟨hr,hy⟩
    have hr : q.r <:+ l:=hr
    have hy : y = (.mk 8 0 [] ks [],signR e [125] q):=hy
    subst hy
    show S cx _ B _ _ [(0,.ptr 0 v 0),(2,.ptr 1 0 0),(7,.ptr 2 0 0),(147,.ptr 0 v 0)] [rdB v l q e b d n,exO,kidX 8 [] w ks,kidB w ks]
    have hM:=rsignT v l q e b d n [125] [exO,kidX 8 [] w ks,kidB w ks] hr hl
    refine pB [.f (.tup []) (fun σ => rdB v l (signR e [125] q) e b d n :: σ.tail)] rfl ?_
    refine S_ret ⟨_,_,rfl,⟨rfl,trivial⟩,?_⟩
    exact rfin (exFz (kidFz (by decide) rfl) .nils)
  rw [if_neg c4] at hx
  rw [(Bool.not_eq_true _).mp c4] at hi4
  cases hx
  have hf:=rfailT v l q e b d n 1 [exO] hr hl
  refine pB [.k (lookA k0 t),.b false,.b false,.b false,.k (.bool false),.b false,.k (.bool false),.b false,.k (.bool false),.b false,.k (.bool false),.b false,.f (.tup []) (fun σ => rdB v l (failR e 1 q) e b d n :: σ.tail)] rfl ?_
  refine S_ret ⟨_,_,rfl,⟨rfl,trivial⟩,?_⟩
  exact rfin (exFz (kd:=0) (nm:=0) (ks:=[]) (ns:=[]) .nils .nils)
structure AllE (F : Nat) : Prop where
 expr : Rx 64 exprR F
 lev : ∀ k,k ≤ 5 → RdLv k F
 post : Rx 119 postA F
 call : Rcl F
 atom : Rx 128 atomR F
 list : Rli F
theorem rexpr_0 : Rx 64 exprR 0:=fun v l q e b d n y hr hl hn hx =>
 callOk_introT (fun a w => Tryz.call64 a w) Tryz.func64 rfl Tryz.ntmps64 rfl fun B => by
  have hx : (if q.bad then some (Ex.zero,q) else none) = some y:=hx
  by_cases hbad : q.bad = true
  ·rw [if_pos hbad] at hx
   cases hx
   have h1 : CallOk cx 98 [.ptr 0 v 0,.int .i64 (0 : Nat)] (rdB v l q e b d (n + 1) :: [exO]) (fun o s => o = .ret (exA .zero) ∧ s = rdB v l q e b d (n + 1) :: [exO]):=rT (rlev_bad 0 0 v l q e b d (n + 1) hbad) (exA_free _) (by intro y hy; simp at hy; subst hy; exact .int) _
   have h2:=rinT v l q e b d n [exO] (by omega) hr hl
   rw [inR_bad hbad] at h2
   have hw : IntKind.i64.wrap (((n + 1 : Nat) : Int) - 1) = (n : Int):=by rw [IntWalk.i64_in _ ⟨by omega,by omega⟩]; omega
   refine pB [.f (.tup []) (fun σ => rdB v l q e b d (n + 1) :: σ.tail),.f (exA .zero) (fun σ => rdB v l q e b d (n + 1) :: σ.tail)] rfl ?_
   refine S_ret ⟨_,_,rfl,⟨rfl,trivial⟩,?_⟩
   show TR 1 _ (.ret (exA .zero)) (rdI v l ((l.length - q.r.length : Nat) : Int) q.f e b d (IntKind.i64.wrap (((n + 1 : Nat) : Int) - 1)) :: _)
   rw [hw]
   exact rfin (q:=q) (.low (Low.free (exA_free (st:=true) _)))
  ·rw [if_neg hbad] at hx; cases hx
theorem rlev_0 (k : Nat) : RdLv k 0:=fun v l q e b d n y hr hl hn hx => by
 have hx : (if q.bad then some (Ex.zero,q) else none) = some y:=hx
 by_cases hbad : q.bad = true
 ·rw [if_pos hbad] at hx
  cases hx
  exact rlev_bad k 0 v l q e b d n hbad
 ·rw [if_neg hbad] at hx; cases hx
theorem rcall_0 : Rcl 0:=fun v l q e b d n x y hr hl hn hx => by
 have hx : (if q.bad then some (Ex.mk 10 0 [] [x] [],q) else none) = some y:=hx
 by_cases hbad : q.bad = true
 ·rw [if_pos hbad,← callR_bad (e:=e) (F:=1) (n:=n) hbad] at hx
  exact rcall_ok 0 (fun F' h => by obtain rfl : F' = 0:=(by omega); exact rexpr_0) v l q e b d n x y hr hl (by omega) hx
 ·rw [if_neg hbad] at hx; cases hx
theorem rlist_0 : Rli 0:=fun v l q e b d n y hr hl hn hx => by
 have hx : (if q.bad then some (Ex.mk 7 0 [] [] [],q) else none) = some y:=hx
 by_cases hbad : q.bad = true
 ·rw [if_pos hbad,← listR_bad (e:=e) (F:=1) (n:=n) hbad] at hx
  exact rlist_ok 0 (fun F' h => by obtain rfl : F' = 0:=(by omega); exact rexpr_0) v l q e b d n y hr hl (by omega) hx
 ·rw [if_neg hbad] at hx; cases hx
theorem allE (F : Nat) : ∀ F',F' ≤ F → AllE F':=by
 induction F with
 | zero =>
  intro F' h
  obtain rfl : F' = 0:=by omega
  exact ⟨rexpr_0,fun k _ => rlev_0 k,fun _ _ _ _ _ _ _ _ _ _ _ h => (by cases h),rcall_0,fun _ _ _ _ _ _ _ _ _ _ _ h => (by cases h),rlist_0⟩
 | succ F ih =>
  intro F' h
  rcases Nat.lt_or_ge F' (F + 1) with h' | h'
  ·exact ih F' (by omega)
  obtain rfl : F' = F + 1:=by omega
  have ihF:=ih F (Nat.le_refl _)
  refine ⟨rexpr_ok F (ihF.lev 0 (by omega)),fun k hk => ?_,rpost_ok F ihF.atom (fun F' h => (ih F' h).expr) (fun F' h => (ih F' h).call),(fun v l q e b d n x y hr hl hn hx => rcall_ok F (fun F' h => (ih F' h).expr) v l q e b d n x y hr hl (by omega) hx),ratom_ok F (fun F' h => (ih F' h).expr) ihF.list,fun v l q e b d n y hr hl hn hx => rlist_ok F (fun F' h => (ih F' h).expr) v l q e b d n y hr hl (by omega) hx⟩
  match k,hk with
  | 0,_ => exact rlev_b 0 F (by decide) (fun F' h => (ih F' h).lev 1 (by omega))
  | 1,_ => exact rlev_b 1 F (by decide) (fun F' h => (ih F' h).lev 2 (by omega))
  | 2,_ => exact rlev_2 F (ihF.lev 2 (by omega)) (ihF.lev 3 (by omega))
  | 3,_ => exact rlev_b 3 F (by decide) (fun F' h => (ih F' h).lev 4 (by omega))
  | 4,_ => exact rlev_b 4 F (by decide) (fun F' h => (ih F' h).lev 5 (by omega))
  | 5,_ => exact rlev_5 F (ihF.lev 5 (by omega)) ihF.post
theorem rexprT (F : Nat) (v : Nat) (l : List Tok) (q : Rd) (e b d n : Nat) (y : Ex) (q' : Rd) (τ : Heap) (hr : q.r <:+ l) (hl : l.length ≤ 100000) (hn : n + F ≤ 3000000) (hx : exprR e F n q = some (y,q')) :
  CallOk cx 64 [.ptr 0 v 0] (rdB v l q e b d n :: τ) (fun o s => o = .ret (exA y) ∧ s = rdB v l q' e b d n :: τ) :=
 (allE F F (Nat.le_refl _)).expr.tail v l q e b d n y q' τ hr hl hn hx
theorem RsEnd.ret0 {s : List UInt8} {x : Flt ⊕ (Nat × Nat × List Nat × List Tok)} {v : Nat} {r : AV} {σ : Heap} (h : RsEnd s x v (.ret r) σ) : ∃ n : Nat,r = .int .i64 n:=by
 cases x with
 | inl e => exact ⟨e.1,Out.ret.inj h.1⟩
 | inr q => obtain ⟨_,_,h,_⟩:=h; exact ⟨0,Out.ret.inj h⟩
def rsA (v u w : Nat) (s : List UInt8) (i o : Int) (ins : List Nat) (out : List Tok) : Heap:=[(v,some (.cells [.str s,.int .i64 i,.int .i64 o,insV u ins,outV w out] ⟨false,some 79⟩)),insB u ins,outB w out]
theorem S_shareO {n : Nat} {B : Bs} {Q : Post} {k k' : List AI} {fr : Fr} {σ : Heap} {all : Array Oper} {l : List Oper} {K : List Nat} (F : Fr) (σ' : Heap) (hm : (∀ fr,Weak fr F → S cx n B (.ops all l K :: k') Q fr σ') → S cx n B k Q fr σ) (hk : S cx n B (.ops all l K :: k') Q F σ') : S cx n B k Q fr σ :=
 hm fun _ hw => S_ops_weak hw hk
theorem opens_iff (t : List UInt8) : t ∈ opens ↔ t = [40] ∨ t = [91] ∨ t = [123]:=by simp [opens]
theorem closes_iff (t : List UInt8) : t ∈ closes ↔ t = [41] ∨ t = [93] ∨ t = [125]:=by simp [closes]
def NatR (t : List UInt8) (n : Nat) : Prop:=(natOf t ≤ 9007199254740991 → n = natOf t) ∧ (9007199254740991 < natOf t → 9007199254740991 < n) ∧ n ≤ 90071992547409920
theorem oneLet_ok (v u w : Nat) (s : List UInt8) (i o : Nat) (ins : List Nat) (out : List Tok) (hi : i < s.length) (hs : s.length ≤ 1048576) (ho : o ≤ 30) (hl : out.length ≤ 900000) (c0 : isLet s[i] = true) :
  CallOk cx 61 [.ptr 0 v 0] (rsH v u w s i o ins out) (RsEnd s (endS (oneS s i o) ins out) v) :=
 callOk_intro (fun a w => Tryz.call61 a w) Tryz.func61 rfl Tryz.ntmps61 rfl fun B => by
  have hgc : (((s.getD (i : Int).toNat 0).toNat : Nat) : Int) = ((s[i].toNat : Nat) : Int):=by rw [Int.toNat_natCast,getD_byte hi]
  have hi2 : (0 : Int) ≤ (i : Int) ∧ (i : Int) < (s.length : Int):=by omega
  have hgd : s.getD i 0 = s[i]:=getD_byte hi
  have letA : ∀ (c : UInt8) (x : Int) σ,x = (c.toNat : Int) → ∃ args',Calc cx 91 args' (.bool (isLet c)) ∧ Frzs σ [.int .u8 x] args':=fun c x σ h => by
   rw [h]; exact ⟨_,IsLetterByte_ok c,.cons (.refl .int) (.nil _)⟩
  have digA : ∀ (c : UInt8) (x : Int) σ,x = (c.toNat : Int) → ∃ args',Calc cx 92 args' (.bool (isDg c)) ∧ Frzs σ [.int .u8 x] args':=fun c x σ h => by
   rw [h]; exact ⟨_,IsDigitByte_ok c,.cons (.refl .int) (.nil _)⟩
  have hLet:=fun σ => letA s[i] _ σ hgc
  have hDig:=fun σ => digA s[i] _ σ hgc
  unfold oneS
  rw [hgd]
  by_cases c1 : isLet s[i] = true
  ·rw [if_pos c1]
   rw [c1] at hLet
   obtain ⟨J,hJ⟩ : ∃ J,J = stopAt (fun c => isLet c || isDg c) s i:=⟨_,rfl⟩
   obtain ⟨t,ht⟩ : ∃ t,t = cutT s i J:=⟨_,rfl⟩
   have hJl:=stopAt_le (p:=fun c => isLet c || isDg c) (s:=s) (i:=i) (by omega)
   rw [← hJ,← ht]
   rw [← hJ] at hJl
   refine pa [.v (.bool true),.b true] rfl ?_ ?_
   ·(repeat' with_reducible apply AllP_cons) <;> try exact aC
    exact hLet _
   refine S_while (α:=Nat) (fun j => [(0,.ptr 0 v 0),(3,.int .i64 i)]) (fun j => rsH v u w s j o ins out) (fun j => i ≤ j ∧ j ≤ s.length ∧ stopAt (fun c => isLet c || isDg c) s j = J) (fun j => s.length - j) i
    ⟨Nat.le_refl _,by show i ≤ s.length; omega,hJ.symm⟩ (.cons rfl (.cons rfl (.nil _))) rfl ?_
   rintro j ⟨h1,h2,h3⟩
   have h1 : i ≤ j:=h1
   have h2 : j ≤ s.length:=h2
   have hwj : IntKind.i64.wrap ((j : Nat) + 1) = ((j + 1 : Nat) : Int):=by rw [IntWalk.i64_in _ ⟨by omega,by omega⟩]; omega
   have hcut : cutL (some (i : Int)) (some (J : Int)) s = t:=by
    rw [ht]; show (s.take (J : Int).toNat).drop (i : Int).toNat = _
    rw [Int.toNat_natCast,Int.toNat_natCast]; rfl
   have hJ2 : (i : Int) ≤ (J : Int) ∧ (J : Int) ≤ (s.length : Int):=by omega
   by_cases hlt : j < s.length
   ·have hgj : (((s.getD (j : Int).toNat 0).toNat : Nat) : Int) = ((s[j].toNat : Nat) : Int):=by rw [Int.toNat_natCast,getD_byte hlt]
    have hj2 : (0 : Int) ≤ (j : Int) ∧ (j : Int) < (s.length : Int):=by omega
    have hL:=fun σ => letA s[j] _ σ hgj
    have hD:=fun σ => digA s[j] _ σ hgj
    by_cases l1 : isLet s[j] = true
    ·rw [l1] at hL
     refine pa [.b true,.v (.bool true),.b true,.b true] rfl ?_ ?_
     ·(repeat' with_reducible apply AllP_cons) <;> try exact aC
      exact hL _
     refine S_round (j + 1) (by show s.length - (j + 1) < s.length - j; omega) ⟨by show i ≤ j + 1; omega,hlt,by rw [← h3]; exact (stopAt_yes hlt (by rw [l1]; rfl)).symm⟩ (.cons rfl (.cons rfl (.nil _))) ?_
     show rsA v u w s (IntKind.i64.wrap ((j : Nat) + 1)) (o : Nat) ins out = _
     rw [hwj]; rfl
    ·rw [Bool.not_eq_true] at l1
     rw [l1] at hL
     by_cases l2 : isDg s[j] = true
     ·rw [l2] at hD
      refine pa [.b true,.v (.bool false),.b false,.v (.bool true),.b true] rfl ?_ ?_
      ·(repeat' with_reducible apply AllP_cons) <;> try exact aC
       ·exact hL _
       ·exact hD _
      refine S_round (j + 1) (by show s.length - (j + 1) < s.length - j; omega) ⟨by show i ≤ j + 1; omega,hlt,by rw [← h3]; exact (stopAt_yes hlt (by rw [l2,l1]; rfl)).symm⟩ (.cons rfl (.cons rfl (.nil _))) ?_
      show rsA v u w s (IntKind.i64.wrap ((j : Nat) + 1)) (o : Nat) ins out = _
      rw [hwj]; rfl
     ·rw [Bool.not_eq_true] at l2
      rw [l2] at hD
      have hjJ : j = J:=by rw [← h3]; exact (stopAt_no hlt (by rw [l1,l2]; rfl)).symm
      subst hjJ
      have hW : ∀ σ,∃ args',Calc cx 93 args' (.bool (decide (t ∈ words14))) ∧ Frzs σ [.str (cutL (some (i : Int)) (some (j : Int)) s)] args':=fun σ => by
       rw [hcut]; exact ⟨_,IsSourceWord_ok t,.cons (.refl .str) (.nil _)⟩
      have hp : ∀ k : Nat,CallOk cx 62 [.ptr 0 v 0,.int .i64 k,.str (cutL (some (i : Int)) (some (j : Int)) s),.int .i64 i] (rsH v u w s j o ins out) (fun e σ => e = .ret (.tup []) ∧ σ = rsH v u (w + 1) s j o ins (out ++ [⟨k,t,0,i⟩])):=fun k => by
       rw [hcut]; exact rputH v u w s j o ins out k t i (by omega)
      by_cases hm : t ∈ words14
      ·rw [if_pos hm]
       rw [decide_eq_true hm] at hW
       refine pa [.b true,.v (.bool false),.b false,.v (.bool false),.b false,.v (.bool true),.b true,.c (.tup []) (rsH v u (w + 1) s j o ins (out ++ [⟨5,t,0,i⟩]))] rfl ?_ ?_
       ·(repeat' with_reducible apply AllP_cons) <;> try exact aC
        all_goals first | exact hL _ | exact hD _ | exact hW _ | exact hp 5
       exact S_ret ⟨_,_,rfl,trivial,u,w + 1,rfl,rfl⟩
      ·rw [if_neg hm]
       rw [decide_eq_false hm] at hW
       refine pa [.b true,.v (.bool false),.b false,.v (.bool false),.b false,.v (.bool false),.b false,.c (.tup []) (rsH v u (w + 1) s j o ins (out ++ [⟨1,t,0,i⟩]))] rfl ?_ ?_
       ·(repeat' with_reducible apply AllP_cons) <;> try exact aC
        all_goals first | exact hL _ | exact hD _ | exact hW _ | exact hp 1
       exact S_ret ⟨_,_,rfl,trivial,u,w + 1,rfl,rfl⟩
   ·have hjJ : j = J:=by rw [← h3]; exact (stopAt_end (by omega)).symm
    subst hjJ
    have hL:=hLet
    have hD:=hDig
    have hW : ∀ σ,∃ args',Calc cx 93 args' (.bool (decide (t ∈ words14))) ∧ Frzs σ [.str (cutL (some (i : Int)) (some (j : Int)) s)] args':=fun σ => by
     rw [hcut]; exact ⟨_,IsSourceWord_ok t,.cons (.refl .str) (.nil _)⟩
    have hp : ∀ k : Nat,CallOk cx 62 [.ptr 0 v 0,.int .i64 k,.str (cutL (some (i : Int)) (some (j : Int)) s),.int .i64 i] (rsH v u w s j o ins out) (fun e σ => e = .ret (.tup []) ∧ σ = rsH v u (w + 1) s j o ins (out ++ [⟨k,t,0,i⟩])):=fun k => by
     rw [hcut]; exact rputH v u w s j o ins out k t i (by omega)
    by_cases hm : t ∈ words14
    ·rw [if_pos hm]
     rw [decide_eq_true hm] at hW
     refine pa [.b false,.b false,.v (.bool true),.b true,.c (.tup []) (rsH v u (w + 1) s j o ins (out ++ [⟨5,t,0,i⟩]))] rfl ?_ ?_
     ·(repeat' with_reducible apply AllP_cons) <;> try exact aC
      all_goals first | exact hL _ | exact hD _ | exact hW _ | exact hp 5
     exact S_ret ⟨_,_,rfl,trivial,u,w + 1,rfl,rfl⟩
    ·rw [if_neg hm]
     rw [decide_eq_false hm] at hW
     refine pa [.b false,.b false,.v (.bool false),.b false,.c (.tup []) (rsH v u (w + 1) s j o ins (out ++ [⟨1,t,0,i⟩]))] rfl ?_ ?_
     ·(repeat' with_reducible apply AllP_cons) <;> try exact aC
      all_goals first | exact hL _ | exact hD _ | exact hW _ | exact hp 1
     exact S_ret ⟨_,_,rfl,trivial,u,w + 1,rfl,rfl⟩
  ·exact absurd c0 c1
theorem oneDig_ok (v u w : Nat) (s : List UInt8) (i o : Nat) (ins : List Nat) (out : List Tok) (hi : i < s.length) (hs : s.length ≤ 1048576) (ho : o ≤ 30) (hl : out.length ≤ 900000) (c1 : ¬ isLet s[i] = true) (c2 : isDg s[i] = true) :
  CallOk cx 61 [.ptr 0 v 0] (rsH v u w s i o ins out) (RsEnd s (endS (oneS s i o) ins out) v) :=
 callOk_intro (fun a w => Tryz.call61 a w) Tryz.func61 rfl Tryz.ntmps61 rfl fun B => by
  have hgc : (((s.getD (i : Int).toNat 0).toNat : Nat) : Int) = ((s[i].toNat : Nat) : Int):=by rw [Int.toNat_natCast,getD_byte hi]
  have hi2 : (0 : Int) ≤ (i : Int) ∧ (i : Int) < (s.length : Int):=by omega
  have hgd : s.getD i 0 = s[i]:=getD_byte hi
  have letA : ∀ (c : UInt8) (x : Int) σ,x = (c.toNat : Int) → ∃ args',Calc cx 91 args' (.bool (isLet c)) ∧ Frzs σ [.int .u8 x] args':=fun c x σ h => by
   rw [h]; exact ⟨_,IsLetterByte_ok c,.cons (.refl .int) (.nil _)⟩
  have digA : ∀ (c : UInt8) (x : Int) σ,x = (c.toNat : Int) → ∃ args',Calc cx 92 args' (.bool (isDg c)) ∧ Frzs σ [.int .u8 x] args':=fun c x σ h => by
   rw [h]; exact ⟨_,IsDigitByte_ok c,.cons (.refl .int) (.nil _)⟩
  have hLet:=fun σ => letA s[i] _ σ hgc
  have hDig:=fun σ => digA s[i] _ σ hgc
  unfold oneS
  rw [hgd]
  ·rw [if_neg c1]
   rw [Bool.not_eq_true] at c1
   rw [c1] at hLet
   ·rw [if_pos c2]
    rw [c2] at hDig
    obtain ⟨J,hJ⟩ : ∃ J,J = stopAt isDg s i:=⟨_,rfl⟩
    obtain ⟨t,ht⟩ : ∃ t,t = cutT s i J:=⟨_,rfl⟩
    have hJl:=stopAt_lt (p:=isDg) hi (by rw [hgd]; exact c2)
    rw [← hJ,← ht]
    rw [← hJ] at hJl
    refine pa [.v (.bool false),.b false,.v (.bool true),.b true] rfl ?_ ?_
    ·(repeat' with_reducible apply AllP_cons) <;> try exact aC
     ·exact hLet _
     ·exact hDig _
    refine S_while (α:=Nat × Nat) (fun (j,n) => [(0,.ptr 0 v 0),(3,.int .i64 i),(4,.int .u8 (((s.getD (i : Int).toNat 0).toNat : Nat) : Int)),(6,.int .i64 n)]) (fun (j,n) => rsH v u w s j o ins out) (fun (j,n) => i ≤ j ∧ j ≤ s.length ∧ stopAt isDg s j = J ∧ NatR (cutT s i j) n) (fun (j,n) => s.length - j) (i,0)
     ⟨Nat.le_refl _,by omega,hJ.symm,by have : cutT s i i = []:=(by simp [cutT]); rw [this]; exact ⟨fun _ => rfl,fun h => absurd h (by decide),by decide⟩⟩ (.cons rfl (.cons rfl (.cons rfl (.cons rfl (.nil _))))) rfl ?_
    rintro ⟨j,n⟩ ⟨h1,h2,h3,hn⟩
    have h1 : i ≤ j:=h1
    have h2 : j ≤ s.length:=h2
    show S cx _ B _ _ [(0,.ptr 0 v 0),(3,.int .i64 i),(4,.int .u8 (((s.getD (i : Int).toNat 0).toNat : Nat) : Int)),(6,.int .i64 n)] (rsH v u w s j o ins out)
    have hwj : IntKind.i64.wrap ((j : Nat) + 1) = ((j + 1 : Nat) : Int):=by rw [IntWalk.i64_in _ ⟨by omega,by omega⟩]; omega
    have hcut : cutL (some (i : Int)) (some (J : Int)) s = t:=by
     rw [ht]; show (s.take (J : Int).toNat).drop (i : Int).toNat = _
     rw [Int.toNat_natCast,Int.toNat_natCast]; rfl
    have hJ2 : (i : Int) ≤ (J : Int) ∧ (J : Int) ≤ (s.length : Int):=by omega
    by_cases hgo : ∃ h : j < s.length,isDg s[j] = true
    ·obtain ⟨hlt,l2⟩:=hgo
     have hgj : (((s.getD (j : Int).toNat 0).toNat : Nat) : Int) = ((s[j].toNat : Nat) : Int):=by rw [Int.toNat_natCast,getD_byte hlt]
     have hj2 : (0 : Int) ≤ (j : Int) ∧ (j : Int) < (s.length : Int):=by omega
     have hD:=fun σ => digA s[j] _ σ hgj
     rw [l2] at hD
     have hd : 48 ≤ s[j].toNat ∧ s[j].toNat ≤ 57:=by simpa [isDg] using l2
     have hsn : cutT s i (j + 1) = cutT s i j ++ [s[j]]:=by
      rw [cutT,List.take_succ_eq_append_getElem hlt,List.drop_append_of_le_length (by simp; omega)]; rfl
     have hst : stopAt isDg s (j + 1) = J:=by rw [← h3]; exact (stopAt_yes hlt l2).symm
     by_cases hsm : n ≤ 9007199254740991
     ·refine pa [.b true,.v (.bool true),.b true,.b true] rfl ?_ ?_
      ·(repeat' with_reducible apply AllP_cons) <;> try exact aC
       exact hD _
      refine S_round (j + 1,10 * n + s[j].toNat - 48) (by show s.length - (j + 1) < s.length - j; omega) ⟨by show i ≤ j + 1; omega,hlt,hst,?_⟩ (.cons rfl (.cons rfl (.cons rfl (.cons ?_ (.nil _))))) ?_
      ·show NatR (cutT s i (j + 1)) (10 * n + s[j].toNat - 48)
       obtain ⟨q1,q2,q3⟩:=hn
       rw [hsn]
       refine ⟨fun h => ?_,fun h => ?_,by omega⟩
       ·rw [natOf_snoc] at h ⊢
        have:=q1 (by omega)
        omega
       ·rw [natOf_snoc] at h
        by_cases hq : natOf (cutT s i j) ≤ 9007199254740991
        ·have:=q1 hq; omega
        ·have:=q2 (by omega); omega
      ·show AV.int .i64 (IntKind.i64.wrap (IntKind.i64.wrap (IntKind.i64.wrap (10 * (n : Int)) + IntKind.i64.wrap (((s.getD (j : Int).toNat 0).toNat : Nat) : Int)) - 48)) = .int .i64 ((10 * n + s[j].toNat - 48 : Nat) : Int)
       rw [hgj,IntWalk.i64_in (10 * (n : Int)) ⟨by omega,by omega⟩,IntWalk.i64_in ((s[j].toNat : Nat) : Int) ⟨by omega,by omega⟩,IntWalk.i64_in (10 * (n : Int) + _) ⟨by omega,by omega⟩,IntWalk.i64_in _ ⟨by omega,by omega⟩]
       congr 1; omega
      ·show rsA v u w s (IntKind.i64.wrap ((j : Nat) + 1)) (o : Nat) ins out = _
       rw [hwj]; rfl
     ·refine pa [.b true,.v (.bool true),.b true,.b false] rfl ?_ ?_
      ·(repeat' with_reducible apply AllP_cons) <;> try exact aC
       exact hD _
      refine S_round (j + 1,n) (by show s.length - (j + 1) < s.length - j; omega) ⟨by show i ≤ j + 1; omega,hlt,hst,?_⟩ (.cons rfl (.cons rfl (.cons rfl (.cons rfl (.nil _))))) ?_
      ·show NatR (cutT s i (j + 1)) n
       obtain ⟨q1,q2,q3⟩:=hn
       rw [hsn]
       refine ⟨fun h => ?_,fun h => by omega,q3⟩
       rw [natOf_snoc] at h
       have:=q1 (by omega)
       omega
      ·show rsA v u w s (IntKind.i64.wrap ((j : Nat) + 1)) (o : Nat) ins out = _
       rw [hwj]; rfl
    ·have hjJ : j = J:=by
      by_cases hlt : j < s.length
      ·have l2 : isDg s[j] = false:=by
        cases e : isDg s[j] with
        | false => rfl
        | true => exact absurd ⟨hlt,e⟩ hgo
       rw [← h3]; exact (stopAt_no hlt l2).symm
      ·rw [← h3]; exact (stopAt_end (by omega)).symm
     subst hjJ
     rw [← ht] at hn
     refine' S_shareO [(0,.ptr 0 v 0),(3,.int .i64 i),(4,.int .u8 (((s.getD (i : Int).toNat 0).toNat : Nat) : Int)),(6,.int .i64 n),(186,.bool (decide ((n : Int) > 9007199254740991)))] (rsH v u w s j o ins out) (fun cont => ?main) ?rest
     case main =>
      by_cases hlt : j < s.length
      ·have hgj : (((s.getD (j : Int).toNat 0).toNat : Nat) : Int) = ((s[j].toNat : Nat) : Int):=by rw [Int.toNat_natCast,getD_byte hlt]
       have hj2 : (0 : Int) ≤ (j : Int) ∧ (j : Int) < (s.length : Int):=by omega
       have hD:=fun σ => digA s[j] _ σ hgj
       have l2 : isDg s[j] = false:=by
        cases e : isDg s[j] with
        | false => rfl
        | true => exact absurd ⟨hlt,e⟩ hgo
       rw [l2] at hD
       refine pa [.b true,.v (.bool false),.b false] rfl ?_ ?_
       ·(repeat' with_reducible apply AllP_cons) <;> try exact aC
        exact hD _
       exact cont _ (.cons rfl (.cons rfl (.cons rfl (.cons rfl (.cons rfl (.nil _))))))
      ·refine pB [.b false,.b false] rfl ?_
       exact cont _ (.cons rfl (.cons rfl (.cons rfl (.cons rfl (.cons rfl (.nil _))))))
     case rest =>
      have hnr:=hn
      by_cases hb : 9007199254740991 < natOf t
      ·rw [if_pos (.inl hb)]
       have hbig:=hnr.2.1 hb
       refine pB [.b true,.b true] rfl ?_
       exact S_ret ⟨_,_,rfl,trivial,rfl,u,w,o,ins,out,rfl⟩
      ·have hnn : n = natOf t:=hnr.1 (by omega)
       have hsm : n ≤ 9007199254740991:=by omega
       by_cases z : s[i] = 48
       ·have ez : ((((s.getD (i : Int).toNat 0).toNat : Nat) : Int) == 48) = true:=by rw [hgc,z]; rfl
        by_cases z2 : i + 1 < j
        ·rw [if_pos (.inr ⟨z,z2⟩)]
         have ew : decide ((j : Int) > IntKind.i64.wrap ((i : Int) + 1)) = true:=by rw [IntWalk.i64_in _ ⟨by omega,by omega⟩]; exact decide_eq_true (by omega)
         refine pB [.b false,.b true,.b true] rfl ?_
         exact S_ret ⟨_,_,rfl,trivial,rfl,u,w,o,ins,out,rfl⟩
        ·rw [if_neg (by rintro (h | ⟨_,h⟩); exact hb h; exact z2 h)]
         have ew : decide ((j : Int) > IntKind.i64.wrap ((i : Int) + 1)) = false:=by rw [IntWalk.i64_in _ ⟨by omega,by omega⟩]; exact decide_eq_false (by omega)
         refine pB [.b false,.b true,.b false] rfl ?_
         refine S_drawCN [rsB v s j o (insV u ins) (outV w out),insB u ins,(w + 1,some (Box.cells (out.flatMap tokC ++ [.int .i64 2,.str (cutL (some (i : Int)) (some (j : Int)) s),.int .i64 (n : Nat),.int .i64 i]) ⟨false,none⟩))] 19 22 [] [.ms 2 (w + 1) 0 (out.length + 1) 4 false] rfl rfl rfl rfl rfl ?_ ?_
         ·(repeat' with_reducible apply AllP_cons) <;> try exact aC
          ·show 0 + out.length * 4 = _; rw [tokC_len]; omega
          ·show (out.length + 1) * 40 ≤ 140737488355328; omega
         refine pB [] rfl ?_
         refine S_ret ⟨_,_,rfl,trivial,u,w + 1,rfl,?_⟩
         show [rsB v s j o (insV u ins) (.ms 2 (w + 1) 0 (out.length + 1) 4 false),insB u ins,(w + 1,some (Box.cells (out.flatMap tokC ++ [.int .i64 2,.str (cutL (some (i : Int)) (some (j : Int)) s),.int .i64 (n : Nat),.int .i64 i]) ⟨false,none⟩))] = _
         rw [hcut,hnn]
         unfold rsH outV outB
         rw [List.length_append,List.flatMap_append]; rfl
       ·rw [if_neg (by rintro (h | ⟨h,_⟩); exact hb h; exact z h)]
        have ez : ((((s.getD (i : Int).toNat 0).toNat : Nat) : Int) == 48) = false:=by rw [hgc]; exact beq_false_of_ne (fun h => z (UInt8.toNat_inj.1 (by show s[i].toNat = 48; omega)))
        refine pB [.b false,.b false,.b false] rfl ?_
        refine S_drawCN [rsB v s j o (insV u ins) (outV w out),insB u ins,(w + 1,some (Box.cells (out.flatMap tokC ++ [.int .i64 2,.str (cutL (some (i : Int)) (some (j : Int)) s),.int .i64 (n : Nat),.int .i64 i]) ⟨false,none⟩))] 19 22 [] [.ms 2 (w + 1) 0 (out.length + 1) 4 false] rfl rfl rfl rfl rfl ?_ ?_
        ·(repeat' with_reducible apply AllP_cons) <;> try exact aC
         ·show 0 + out.length * 4 = _; rw [tokC_len]; omega
         ·show (out.length + 1) * 40 ≤ 140737488355328; omega
        refine pB [] rfl ?_
        refine S_ret ⟨_,_,rfl,trivial,u,w + 1,rfl,?_⟩
        show [rsB v s j o (insV u ins) (.ms 2 (w + 1) 0 (out.length + 1) 4 false),insB u ins,(w + 1,some (Box.cells (out.flatMap tokC ++ [.int .i64 2,.str (cutL (some (i : Int)) (some (j : Int)) s),.int .i64 (n : Nat),.int .i64 i]) ⟨false,none⟩))] = _
        rw [hcut,hnn]
        unfold rsH outV outB
        rw [List.length_append,List.flatMap_append]; rfl
theorem oneSig_ok (v u w : Nat) (s : List UInt8) (i o : Nat) (ins : List Nat) (out : List Tok) (hi : i < s.length) (hs : s.length ≤ 1048576) (ho : o ≤ 30) (hl : out.length ≤ 900000) (c1 : ¬ isLet s[i] = true) (c2 : ¬ isDg s[i] = true) :
  CallOk cx 61 [.ptr 0 v 0] (rsH v u w s i o ins out) (RsEnd s (endS (oneS s i o) ins out) v) :=
 callOk_intro (fun a w => Tryz.call61 a w) Tryz.func61 rfl Tryz.ntmps61 rfl fun B => by
  have hgc : (((s.getD (i : Int).toNat 0).toNat : Nat) : Int) = ((s[i].toNat : Nat) : Int):=by rw [Int.toNat_natCast,getD_byte hi]
  have hi2 : (0 : Int) ≤ (i : Int) ∧ (i : Int) < (s.length : Int):=by omega
  have hgd : s.getD i 0 = s[i]:=getD_byte hi
  have letA : ∀ (c : UInt8) (x : Int) σ,x = (c.toNat : Int) → ∃ args',Calc cx 91 args' (.bool (isLet c)) ∧ Frzs σ [.int .u8 x] args':=fun c x σ h => by
   rw [h]; exact ⟨_,IsLetterByte_ok c,.cons (.refl .int) (.nil _)⟩
  have digA : ∀ (c : UInt8) (x : Int) σ,x = (c.toNat : Int) → ∃ args',Calc cx 92 args' (.bool (isDg c)) ∧ Frzs σ [.int .u8 x] args':=fun c x σ h => by
   rw [h]; exact ⟨_,IsDigitByte_ok c,.cons (.refl .int) (.nil _)⟩
  have hLet:=fun σ => letA s[i] _ σ hgc
  have hDig:=fun σ => digA s[i] _ σ hgc
  unfold oneS
  rw [hgd]
  ·rw [if_neg c1]
   rw [Bool.not_eq_true] at c1
   rw [c1] at hLet
   ·rw [if_neg c2]
    rw [Bool.not_eq_true] at c2
    rw [c2] at hDig
    by_cases c3 : s[i] = 34
    ·rw [if_pos c3]
     have e3 : ((((s.getD (i : Int).toNat 0).toNat : Nat) : Int) == 34) = true:=by rw [hgc,c3]; rfl
     refine pa [.v (.bool false),.b false,.v (.bool false),.b false,.b true] rfl ?_ ?_
     ·(repeat' with_reducible apply AllP_cons) <;> try exact aC
      ·exact hLet _
      ·exact hDig _
     refine S_call rfl rfl rfl (quoted_ok v u w s i o ins out hi hs hl) (fun r σ' h => ?_) (fun r σ' h => ?_)
     ·obtain ⟨m,rfl⟩:=h.ret0
      refine pa [] rfl trivial ?_
      exact S_ret ⟨_,_,rfl,trivial,h⟩
     ·unfold RsEnd at h
      split at h
      ·cases h.1
      ·obtain ⟨_,_,h,_⟩:=h; cases h
    ·rw [if_neg c3]
     have e3 : ((((s.getD (i : Int).toNat 0).toNat : Nat) : Int) == 34) = false:=by rw [hgc]; exact beq_false_of_ne (fun h => c3 (UInt8.toNat_inj.1 (by show s[i].toNat = 34; omega)))
     have hSg : ∀ σ,∃ args',Calc cx 95 args' (.str ((signAt s i).getD [])) ∧ Frzs σ [.str s,.int .i64 i] args':=fun σ => ⟨_,SignAt_ok s i hi hs,.cons (.refl .str) (.cons (.refl .int) (.nil _))⟩
     have hw1 : IntKind.i64.wrap ((o : Nat) + 1) = ((o + 1 : Nat) : Int):=by rw [IntWalk.i64_in _ ⟨by omega,by omega⟩]; omega
     cases hsg : signAt s i with
     | none =>
      rw [hsg] at hSg
      refine pa [.v (.bool false),.b false,.v (.bool false),.b false,.b false,.v (.str []),.b true] rfl ?_ ?_
      ·(repeat' with_reducible apply AllP_cons) <;> try exact aC
       ·exact hLet _
       ·exact hDig _
       ·exact hSg _
      exact S_ret ⟨_,_,rfl,trivial,rfl,u,w,o,ins,out,rfl⟩
     | some t =>
      rw [hsg] at hSg
      simp only [Option.getD_some] at hSg
      have htl:=signAt_le hsg
      have hwt : IntKind.i64.wrap ((i : Nat) + (t.length : Int)) = ((i + t.length : Nat) : Int):=by rw [IntWalk.i64_in _ ⟨by omega,by omega⟩]; omega
      have ht0 : (t == []) = false:=beq_false_of_ne (fun h => by rw [h] at htl; simp at htl; omega)
      refine pa [.v (.bool false),.b false,.v (.bool false),.b false,.b false,.v (.str t)] rfl ?_ ?_
      ·(repeat' with_reducible apply AllP_cons) <;> try exact aC
       ·exact hLet _
       ·exact hDig _
       ·exact hSg _
      simp only
      by_cases q0 : t = [40]
      ·subst q0
       rw [if_pos (by decide)]
       by_cases o1 : 30 ≤ o
       ·rw [if_pos o1]
        refine pB [.b false,.b true,.b true,.b true] rfl ?_
        exact S_ret ⟨_,_,rfl,trivial,rfl,u,w,o,ins,out,rfl⟩
       ·rw [if_neg o1]
        refine pB [.b false,.b true,.b true,.b false] rfl ?_
        refine S_heap (rsH v u w s i (o + 1) ins out) ?_ ?_
        ·show rsA v u w s i (IntKind.i64.wrap ((o : Nat) + 1)) ins out = _
         rw [hw1]; rfl
        refine pa [.c (.tup []) (rsH v u (w + 1) s i (o + 1) ins (out ++ [⟨4,([40] : List UInt8),0,i⟩]))] rfl ?_ ?_
        ·(repeat' with_reducible apply AllP_cons) <;> try exact aC
         exact rputH v u w s i (o + 1) ins out 4 ([40] : List UInt8) i (by omega)
        refine S_heap (rsH v u (w + 1) s (i + ([40] : List UInt8).length) (o + 1) ins (out ++ [⟨4,([40] : List UInt8),0,i⟩])) ?_ ?_
        ·show rsA v u (w + 1) s (IntKind.i64.wrap ((i : Nat) + ((([40] : List UInt8).length : Nat) : Int))) (((o + 1) : Nat) : Int) ins (out ++ [⟨4,([40] : List UInt8),0,i⟩]) = _
         rw [hwt]; rfl
        exact S_ret ⟨_,_,rfl,trivial,u,w + 1,rfl,rfl⟩
      have n0 : (t == [40]) = false:=beq_false_of_ne q0
      by_cases q1 : t = [91]
      ·subst q1
       rw [if_pos (by decide)]
       by_cases o1 : 30 ≤ o
       ·rw [if_pos o1]
        refine pB [.b false,.b false,.b true,.b true,.b true] rfl ?_
        exact S_ret ⟨_,_,rfl,trivial,rfl,u,w,o,ins,out,rfl⟩
       ·rw [if_neg o1]
        refine pB [.b false,.b false,.b true,.b true,.b false] rfl ?_
        refine S_heap (rsH v u w s i (o + 1) ins out) ?_ ?_
        ·show rsA v u w s i (IntKind.i64.wrap ((o : Nat) + 1)) ins out = _
         rw [hw1]; rfl
        refine pa [.c (.tup []) (rsH v u (w + 1) s i (o + 1) ins (out ++ [⟨4,([91] : List UInt8),0,i⟩]))] rfl ?_ ?_
        ·(repeat' with_reducible apply AllP_cons) <;> try exact aC
         exact rputH v u w s i (o + 1) ins out 4 ([91] : List UInt8) i (by omega)
        refine S_heap (rsH v u (w + 1) s (i + ([91] : List UInt8).length) (o + 1) ins (out ++ [⟨4,([91] : List UInt8),0,i⟩])) ?_ ?_
        ·show rsA v u (w + 1) s (IntKind.i64.wrap ((i : Nat) + ((([91] : List UInt8).length : Nat) : Int))) (((o + 1) : Nat) : Int) ins (out ++ [⟨4,([91] : List UInt8),0,i⟩]) = _
         rw [hwt]; rfl
        exact S_ret ⟨_,_,rfl,trivial,u,w + 1,rfl,rfl⟩
      have n1 : (t == [91]) = false:=beq_false_of_ne q1
      by_cases q2 : t = [123]
      ·subst q2
       rw [if_pos (by decide)]
       by_cases o1 : 30 ≤ o
       ·rw [if_pos o1]
        refine pB [.b false,.b false,.b false,.b true,.b true] rfl ?_
        exact S_ret ⟨_,_,rfl,trivial,rfl,u,w,o,ins,out,rfl⟩
       ·rw [if_neg o1]
        refine pB [.b false,.b false,.b false,.b true,.b false] rfl ?_
        refine S_heap (rsH v u w s i (o + 1) ins out) ?_ ?_
        ·show rsA v u w s i (IntKind.i64.wrap ((o : Nat) + 1)) ins out = _
         rw [hw1]; rfl
        refine pa [.c (.tup []) (rsH v u (w + 1) s i (o + 1) ins (out ++ [⟨4,([123] : List UInt8),0,i⟩]))] rfl ?_ ?_
        ·(repeat' with_reducible apply AllP_cons) <;> try exact aC
         exact rputH v u w s i (o + 1) ins out 4 ([123] : List UInt8) i (by omega)
        refine S_heap (rsH v u (w + 1) s (i + ([123] : List UInt8).length) (o + 1) ins (out ++ [⟨4,([123] : List UInt8),0,i⟩])) ?_ ?_
        ·show rsA v u (w + 1) s (IntKind.i64.wrap ((i : Nat) + ((([123] : List UInt8).length : Nat) : Int))) (((o + 1) : Nat) : Int) ins (out ++ [⟨4,([123] : List UInt8),0,i⟩]) = _
         rw [hwt]; rfl
        exact S_ret ⟨_,_,rfl,trivial,u,w + 1,rfl,rfl⟩
      have n2 : (t == [123]) = false:=beq_false_of_ne q2
      rw [if_neg (by rw [opens_iff]; rintro (h | h | h); exact q0 h; exact q1 h; exact q2 h)]
      by_cases q3 : t = [41]
      ·subst q3
       rw [if_pos (by decide)]
       by_cases o1 : o = 0
       ·rw [if_pos o1]
        refine pB [.b false,.b false,.b false,.b false,.b true,.b true,.b true] rfl ?_
        exact S_ret ⟨_,_,rfl,trivial,rfl,u,w,o,ins,out,rfl⟩
       ·rw [if_neg o1]
        have hwm : IntKind.i64.wrap ((o : Nat) - 1) = ((o - 1 : Nat) : Int):=by rw [IntWalk.i64_in _ ⟨by omega,by omega⟩]; omega
        refine pB [.b false,.b false,.b false,.b false,.b true,.b true,.b false] rfl ?_
        refine S_heap (rsH v u w s i (o - 1) ins out) ?_ ?_
        ·show rsA v u w s i (IntKind.i64.wrap ((o : Nat) - 1)) ins out = _
         rw [hwm]; rfl
        refine pa [.c (.tup []) (rsH v u (w + 1) s i (o - 1) ins (out ++ [⟨4,([41] : List UInt8),0,i⟩]))] rfl ?_ ?_
        ·(repeat' with_reducible apply AllP_cons) <;> try exact aC
         exact rputH v u w s i (o - 1) ins out 4 ([41] : List UInt8) i (by omega)
        refine S_heap (rsH v u (w + 1) s (i + ([41] : List UInt8).length) (o - 1) ins (out ++ [⟨4,([41] : List UInt8),0,i⟩])) ?_ ?_
        ·show rsA v u (w + 1) s (IntKind.i64.wrap ((i : Nat) + ((([41] : List UInt8).length : Nat) : Int))) (((o - 1) : Nat) : Int) ins (out ++ [⟨4,([41] : List UInt8),0,i⟩]) = _
         rw [hwt]; rfl
        exact S_ret ⟨_,_,rfl,trivial,u,w + 1,rfl,rfl⟩
      have n3 : (t == [41]) = false:=beq_false_of_ne q3
      by_cases q4 : t = [93]
      ·subst q4
       rw [if_pos (by decide)]
       by_cases o1 : o = 0
       ·rw [if_pos o1]
        refine pB [.b false,.b false,.b false,.b false,.b false,.b true,.b true,.b true] rfl ?_
        exact S_ret ⟨_,_,rfl,trivial,rfl,u,w,o,ins,out,rfl⟩
       ·rw [if_neg o1]
        have hwm : IntKind.i64.wrap ((o : Nat) - 1) = ((o - 1 : Nat) : Int):=by rw [IntWalk.i64_in _ ⟨by omega,by omega⟩]; omega
        refine pB [.b false,.b false,.b false,.b false,.b false,.b true,.b true,.b false] rfl ?_
        refine S_heap (rsH v u w s i (o - 1) ins out) ?_ ?_
        ·show rsA v u w s i (IntKind.i64.wrap ((o : Nat) - 1)) ins out = _
         rw [hwm]; rfl
        refine pa [.c (.tup []) (rsH v u (w + 1) s i (o - 1) ins (out ++ [⟨4,([93] : List UInt8),0,i⟩]))] rfl ?_ ?_
        ·(repeat' with_reducible apply AllP_cons) <;> try exact aC
         exact rputH v u w s i (o - 1) ins out 4 ([93] : List UInt8) i (by omega)
        refine S_heap (rsH v u (w + 1) s (i + ([93] : List UInt8).length) (o - 1) ins (out ++ [⟨4,([93] : List UInt8),0,i⟩])) ?_ ?_
        ·show rsA v u (w + 1) s (IntKind.i64.wrap ((i : Nat) + ((([93] : List UInt8).length : Nat) : Int))) (((o - 1) : Nat) : Int) ins (out ++ [⟨4,([93] : List UInt8),0,i⟩]) = _
         rw [hwt]; rfl
        exact S_ret ⟨_,_,rfl,trivial,u,w + 1,rfl,rfl⟩
      have n4 : (t == [93]) = false:=beq_false_of_ne q4
      by_cases q5 : t = [125]
      ·subst q5
       rw [if_pos (by decide)]
       by_cases o1 : o = 0
       ·rw [if_pos o1]
        refine pB [.b false,.b false,.b false,.b false,.b false,.b false,.b true,.b true] rfl ?_
        exact S_ret ⟨_,_,rfl,trivial,rfl,u,w,o,ins,out,rfl⟩
       ·rw [if_neg o1]
        have hwm : IntKind.i64.wrap ((o : Nat) - 1) = ((o - 1 : Nat) : Int):=by rw [IntWalk.i64_in _ ⟨by omega,by omega⟩]; omega
        refine pB [.b false,.b false,.b false,.b false,.b false,.b false,.b true,.b false] rfl ?_
        refine S_heap (rsH v u w s i (o - 1) ins out) ?_ ?_
        ·show rsA v u w s i (IntKind.i64.wrap ((o : Nat) - 1)) ins out = _
         rw [hwm]; rfl
        refine pa [.c (.tup []) (rsH v u (w + 1) s i (o - 1) ins (out ++ [⟨4,([125] : List UInt8),0,i⟩]))] rfl ?_ ?_
        ·(repeat' with_reducible apply AllP_cons) <;> try exact aC
         exact rputH v u w s i (o - 1) ins out 4 ([125] : List UInt8) i (by omega)
        refine S_heap (rsH v u (w + 1) s (i + ([125] : List UInt8).length) (o - 1) ins (out ++ [⟨4,([125] : List UInt8),0,i⟩])) ?_ ?_
        ·show rsA v u (w + 1) s (IntKind.i64.wrap ((i : Nat) + ((([125] : List UInt8).length : Nat) : Int))) (((o - 1) : Nat) : Int) ins (out ++ [⟨4,([125] : List UInt8),0,i⟩]) = _
         rw [hwt]; rfl
        exact S_ret ⟨_,_,rfl,trivial,u,w + 1,rfl,rfl⟩
      have n5 : (t == [125]) = false:=beq_false_of_ne q5
      rw [if_neg (by rw [closes_iff]; rintro (h | h | h); exact q3 h; exact q4 h; exact q5 h)]
      refine pB [.b false,.b false,.b false,.b false,.b false,.b false,.b false] rfl ?_
      refine pa [.c (.tup []) (rsH v u (w + 1) s i o ins (out ++ [⟨4,t,0,i⟩]))] rfl ?_ ?_
      ·(repeat' with_reducible apply AllP_cons) <;> try exact aC
       exact rputH v u w s i o ins out 4 t i (by omega)
      refine S_heap (rsH v u (w + 1) s (i + t.length) o ins (out ++ [⟨4,t,0,i⟩])) ?_ ?_
      ·show rsA v u (w + 1) s (IntKind.i64.wrap ((i : Nat) + (t.length : Int))) (o : Int) ins (out ++ [⟨4,t,0,i⟩]) = _
       rw [hwt]; rfl
      exact S_ret ⟨_,_,rfl,trivial,u,w + 1,rfl,rfl⟩
theorem one_ok (v u w : Nat) (s : List UInt8) (i o : Nat) (ins : List Nat) (out : List Tok) (hi : i < s.length) (hs : s.length ≤ 1048576) (ho : o ≤ 30) (hl : out.length ≤ 900000) :
  CallOk cx 61 [.ptr 0 v 0] (rsH v u w s i o ins out) (RsEnd s (endS (oneS s i o) ins out) v):=by
 by_cases c1 : isLet s[i] = true
 ·exact oneLet_ok v u w s i o ins out hi hs ho hl c1
 ·by_cases c2 : isDg s[i] = true
  ·exact oneDig_ok v u w s i o ins out hi hs ho hl c1 c2
  ·exact oneSig_ok v u w s i o ins out hi hs ho hl c1 c2
end Go.Proofs.YtonjhfeabphaaaaGreatDoor
end
