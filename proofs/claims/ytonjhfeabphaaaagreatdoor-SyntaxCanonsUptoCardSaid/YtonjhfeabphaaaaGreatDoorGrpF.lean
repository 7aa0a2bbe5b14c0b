/-
  Texts of our own, in one file.
-/
import Derived.Test.YtonjhfeabphaaaaGreatDoorGrpE
set_option linter.unusedVariables false
set_option linter.unusedSimpArgs false
set_option maxRecDepth 20000
set_option maxHeartbeats 8000000
section
namespace Go.Proofs.YtonjhfeabphaaaaGreatDoor
open Go Go.Ab
theorem hasH (v u w : Nat) (s : List UInt8) (i o : Nat) (ins : List Nat) (out : List Tok) (c : UInt8) (hs : s.length ≤ 1048576) (t : Bool) (h : (s[i]? == some c) = t) :
  CallOk cx 60 [.ptr 0 v 0,.int .u8 (c.toNat : Nat)] (rsH v u w s i o ins out) (fun r σ => r = .ret (.bool t) ∧ σ = rsH v u w s i o ins out):=by
 rw [← h]; exact has_ok v u w _ _ s i o _ _ c hs
theorem gapH (v u w : Nat) (s : List UInt8) (i o : Nat) (ins : List Nat) (out : List Tok) (hi : i ≤ s.length) (hs : s.length ≤ 1048576) :
  CallOk cx 58 [.ptr 0 v 0] (rsH v u w s i o ins out) (fun r σ => r = .ret (.int .i64 (gapE s i - i : Nat)) ∧ σ = rsH v u w s (gapC s i) o ins out) :=
 gap_ok v u w _ _ s i o _ _ hi hs
def AlR (s : List UInt8) (x : Flt ⊕ List Tok) (v : Nat) : Out → Heap → Prop:=fun e σ => match x with
 | .inl x => e = .ret (.int .i64 (x.1 : Nat)) ∧ ∃ u w o ins out,σ = rsH v u w s x.2 o ins out
 | .inr l => ∃ u w i o ins,e = .ret (.int .i64 0) ∧ σ = rsH v u w s i o ins l
theorem furS_err {n i : Nat} {ins : List Nat} {e : Flt} (h : furS n i ins = .inl e) : 0 < e.1 ∧ e.1 ≤ 4:=by
 unfold furS at h
 split at h
 ·split at h
  ·cases h; simp
  ·cases h
 ·split at h
  ·cases h
  ·cases h; simp
theorem oneS_err {s : List UInt8} {i o : Nat} {e : Flt} (h : oneS s i o = .inl e) : 0 < e.1 ∧ e.1 ≤ 4:=by
 unfold oneS at h
 split at h
 ·cases h
 ·split at h
  ·split at h
   ·cases h; simp
   ·cases h
  ·split at h
   ·split at h
    ·cases h; simp
    ·cases h
   ·split at h
    ·cases h; simp
    ·split at h
     ·split at h
      ·cases h; simp
      ·cases h
     ·split at h
      ·split at h
       ·cases h; simp
       ·cases h
      ·cases h
theorem oneS_at {s : List UInt8} {i o : Nat} {e : Flt} (hi : i < s.length) (h : oneS s i o = .inl e) : i ≤ e.2 ∧ e.2 ≤ s.length:=by
 unfold oneS at h
 split at h
 ·cases h
 ·split at h
  ·split at h
   ·cases h; simp; omega
   ·cases h
  ·split at h
   ·split at h
    ·rename_i p hq
     cases h
     have:=quoteS_ge _ _ (Nat.le_refl _) hq
     rw [List.length_drop] at this
     simp only; omega
    ·cases h
   ·split at h
    ·cases h; simp; omega
    ·split at h
     ·split at h
      ·cases h; simp; omega
      ·cases h
     ·split at h
      ·split at h
       ·cases h; simp; omega
       ·cases h
      ·cases h
structure MSt where
 ins : List Nat
 f : Nat
 j : Nat
 o : Nat
 u : Nat
 w : Nat
 out : List Tok
 er : Nat
theorem rall_ok (v u w : Nat) (s : List UInt8) (hs : s.length ≤ 6000) :
  CallOk cx 37 [.ptr 0 v 0] (rsH v u w s 0 0 [0] []) (AlR s (allF (s.length + 1) s 0 [0] []) v) :=
 callOk_intro (fun a w => Tryz.call37 a w) Tryz.func37 rfl Tryz.ntmps37 rfl fun B => by
  refine pa [] rfl trivial ?_
  refine S_while (α:=ASt) (fun q => [(0,.ptr 0 v 0)]) (fun q => rsH v q.u q.w s q.i 0 q.ins q.out)
   (fun q => q.i ≤ s.length ∧ Insok q.ins ∧ q.ins.length ≤ 31 ∧ q.out.length + q.ins.length ≤ 4 * q.i + 1 ∧ s.length - q.i < q.f ∧ allF q.f s q.i q.ins q.out = allF (s.length + 1) s 0 [0] []) (fun q => q.f) ⟨s.length + 1,0,u,w,[0],[]⟩
   ⟨Nat.zero_le _,⟨List.pairwise_singleton _ _,rfl⟩,lble rfl,lble rfl,by show s.length - 0 < s.length + 1; omega,rfl⟩ (.cons rfl (.nil _)) rfl ?_
  rintro ⟨f,i,u',w',ins,out⟩ ⟨h1,h2,h3,h4,h5,h6⟩
  simp only at h1 h2 h3 h4 h5 h6
  show S cx _ B _ _ [(0,.ptr 0 v 0)] (rsH v u' w' s i 0 ins out)
  obtain ⟨f,rfl⟩ : ∃ g,f = g + 1:=⟨f - 1,by omega⟩
  rw [allF] at h6
  obtain ⟨J,hJ⟩ : ∃ J,J = gapC s i:=⟨_,rfl⟩
  have hg:=gapC_le (s:=s) (i:=i) h1
  have hgp:=gapH v u' w' s i 0 ins out h1 (by omega)
  rw [← hJ] at h6 hg hgp
  by_cases hge : s.length ≤ J
  ·rw [if_pos hge,furS_zero h2] at h6
   refine pB [.c (.int .i64 (gapE s i - i : Nat)) (rsH v u' w' s J 0 ins out),.b true] rfl ?_
   refine S_call rfl rfl rfl (further_ok v u' w' s J 0 ins out 0 h2 h3 (by omega)) (fun r σ' h => ?_) (fun r σ' h => ?_)
   ·unfold begS at h
    rw [furS_zero h2] at h
    obtain ⟨u2,w2,hr,rfl⟩:=h
    cases hr
    refine pa [] rfl trivial ?_
    refine S_ret ⟨_,_,rfl,trivial,?_⟩
    rw [← h6]
    exact ⟨u2,w2,_,_,_,rfl,rfl⟩
   ·unfold begS at h
    rw [furS_zero h2] at h
    obtain ⟨_,_,hr,_⟩:=h; cases hr
  ·have hJl : J < s.length:=by omega
   have hs0 : s[J]? = some s[J]:=List.getElem?_eq_getElem hJl
   rw [if_neg hge,hs0] at h6
   by_cases hc : s[J] = 10
   ·rw [if_pos (by rw [hc])] at h6
    have hwj : IntKind.i64.wrap ((J : Nat) + 1) = ((J + 1 : Nat) : Int):=by rw [IntWalk.i64_in _ ⟨by omega,by omega⟩]; omega
    refine pa [.c (.int .i64 (gapE s i - i : Nat)) (rsH v u' w' s J 0 ins out),.b false,.k (.bool true),.b true] rfl ?_ ?_
    ·(repeat' with_reducible apply AllP_cons) <;> try exact aC
     exact hasH v u' w' s J 0 ins out 10 (by omega) true (by rw [hs0,hc]; rfl)
    refine S_round ⟨f,J + 1,u',w',ins,out⟩ (by show f < f + 1; omega) ⟨hJl,h2,h3,by show out.length + ins.length ≤ 4 * (J + 1) + 1; omega,by show s.length - (J + 1) < f; omega,h6⟩ (.cons rfl (.nil _)) ?_
    show rsA v u' w' s (IntKind.i64.wrap ((J : Nat) + 1)) ((0 : Nat) : Int) ins out = _
    rw [hwj]; rfl
   ·rw [if_neg (by simpa using hc)] at h6
    have hgE : J = gapE s i:=by
     rcases gapC_or (s:=s) (i:=i) (by rw [← hJ]; exact hJl) with h | h
     ·exact absurd (by simpa [← hJ] using h) hc
     ·rw [hJ]; exact h
    refine pa [.c (.int .i64 (gapE s i - i : Nat)) (rsH v u' w' s J 0 ins out),.b false,.k (.bool false),.b false] rfl ?_ ?_
    ·(repeat' with_reducible apply AllP_cons) <;> try exact aC
     exact hasH v u' w' s J 0 ins out 10 (by omega) false (by rw [hs0]; exact beq_false_of_ne (by simpa using hc))
    refine S_call rfl rfl rfl (further_ok v u' w' s J 0 ins out (gapE s i - i) h2 h3 (by omega)) (fun r σ' h => ?_) (fun r σ' h => ?_)
    rotate_left
    ·unfold begS at h
     cases hx : furS (gapE s i - i) J ins with
     | inl e => rw [hx] at h; cases h.1
     | inr q => rw [hx] at h; obtain ⟨_,_,h,_⟩:=h; cases h
    unfold begS at h
    cases hx : furS (gapE s i - i) J ins with
    | inl e =>
     rw [hx] at h h6
     obtain ⟨hr,u2,w2,o2,ins2,out2,rfl⟩:=h
     cases hr
     have hee:=furS_err hx
     refine pa [] rfl trivial ?_
     refine S_while (α:=Unit) (fun _ => [(0,.ptr 0 v 0),(4,.int .i64 (e.1 : Nat))]) (fun _ => rsH v u2 w2 s e.2 o2 ins2 out2) (fun _ => True) (fun _ => 0) () trivial (.cons rfl (.cons rfl (.nil _))) rfl ?_
     rintro _ _
     refine pa [.b false,.b false,.b false,.b false,.b false,.b true] rfl ?_ ?_
     ·(repeat' with_reducible apply AllP_cons) <;> try exact aC
      exact bne_iff_ne.2 (by omega)
     refine S_ret ⟨_,_,rfl,trivial,?_⟩
     rw [← h6]
     exact ⟨rfl,u2,w2,o2,ins2,out2,rfl⟩
    | inr q =>
     obtain ⟨ins',l⟩:=q
     rw [hx] at h h6
     obtain ⟨u2,w2,hr,rfl⟩:=h
     cases hr
     obtain ⟨k1,k2,k3,k4⟩:=furS_ok h2 h3 hx
     simp only at h6
     refine pa [] rfl trivial ?_
     refine S_while (α:=MSt) (fun q => [(0,.ptr 0 v 0),(4,.int .i64 (q.er : Nat))]) (fun q => rsH v q.u q.w s q.j q.o q.ins q.out)
      (fun q => q.j ≤ s.length ∧ q.er ≤ 4 ∧ (q.er = 0 → q.o ≤ 30 ∧ q.out.length + (s.length - q.j) ≤ 800000 ∧ s.length - q.j < q.f ∧ lineF q.f s q.j q.o q.out = lineF (s.length + 1) s J 0 (out ++ l) ∧ q.ins = ins') ∧ (q.er ≠ 0 → lineF (s.length + 1) s J 0 (out ++ l) = .inl (q.er,q.j))) (fun q => if q.er = 0 then s.length - q.j + 1 else 0) ⟨ins',s.length + 1,J,0,u2,w2,out ++ l,0⟩
      ⟨by show J ≤ s.length; omega,Nat.zero_le _,fun _ => ⟨Nat.zero_le _,by simp; omega,by show s.length - J < s.length + 1; omega,rfl,rfl⟩,fun h => absurd rfl h⟩ (.cons rfl (.cons rfl (.nil _))) rfl ?_
     rintro ⟨ins3,g,j,o',u3,w3,out',er⟩ ⟨q1,q2,q3,q4⟩
     simp only at q1 q2 q3 q4
     show S cx _ B _ _ [(0,.ptr 0 v 0),(4,.int .i64 (er : Nat))] (rsH v u3 w3 s j o' ins3 out')
     by_cases her : er = 0
     ·subst her
      obtain ⟨qo,q5,q6,q7,rfl⟩:=q3 rfl
      obtain ⟨g,rfl⟩ : ∃ g',g = g' + 1:=⟨g - 1,by omega⟩
      rw [lineF] at q7
      have hwj : IntKind.i64.wrap ((j : Nat) + 1) = ((j + 1 : Nat) : Int):=by rw [IntWalk.i64_in _ ⟨by omega,by omega⟩]; omega
      by_cases hlt : j < s.length
      ·have hs1 : s[j]? = some s[j]:=List.getElem?_eq_getElem hlt
       rw [hs1] at q7
       by_cases hc1 : s[j] = 10
       ·have hh:=hasH v u3 w3 s j o' ins3 out' 10 (by omega) true (by rw [hs1,hc1]; rfl)
        by_cases hop : 0 < o'
        ·rw [if_pos ⟨hlt,.inr hop⟩,if_pos (by rw [hc1])] at q7
         have hg1:=gapC_le (s:=s) (i:=j + 1) (by omega)
         refine pB [.b true,.b true,.k (.bool true),.b false,.b true,.k (.bool true),.b true,.b true] rfl ?_
         refine S_heap (rsH v u3 w3 s (j + 1) o' ins3 out') ?_ ?_
         ·show rsA v u3 w3 s (IntKind.i64.wrap ((j : Nat) + 1)) (o' : Int) ins3 out' = _
          rw [hwj]; rfl
         refine pa [.c (.int .i64 (gapE s (j + 1) - (j + 1) : Nat)) (rsH v u3 w3 s (gapC s (j + 1)) o' ins3 out')] rfl ?_ ?_
         ·(repeat' with_reducible apply AllP_cons) <;> try exact aC
          exact gapH v u3 w3 s (j + 1) o' ins3 out' (by omega) (by omega)
         exact S_round ⟨ins3,g,gapC s (j + 1),o',u3,w3,out',0⟩ (by show s.length - gapC s (j + 1) + 1 < s.length - j + 1; omega) ⟨hg1.2,Nat.zero_le _,fun _ => ⟨qo,by show out'.length + (s.length - gapC s (j + 1)) ≤ 800000; omega,by show s.length - gapC s (j + 1) < g; omega,q7,rfl⟩,fun h => absurd rfl h⟩ (.cons rfl (.cons rfl (.nil _))) rfl
        ·rw [if_neg (by rintro ⟨_,h | h⟩; exact h (by rw [hc1]); exact hop h),if_neg hop,if_pos hlt] at q7
         rw [← q7] at h6
         refine pa [.b true,.b true,.k (.bool true),.b false,.b false,.b true,.b false,.b false,.c (.tup []) (rsH v u3 (w3 + 1) s j o' ins3 (out' ++ [tokLine j])),.b true] rfl ?_ ?_
         ·(repeat' with_reducible apply AllP_cons) <;> try exact aC
          exact rputH v u3 w3 s j o' ins3 out' 6 [] j (by omega)
         refine S_heap (rsH v u3 (w3 + 1) s (j + 1) 0 ins3 (out' ++ [tokLine j])) ?_ ?_
         ·show rsA v u3 (w3 + 1) s (IntKind.i64.wrap ((j : Nat) + 1)) (o' : Int) ins3 (out' ++ [tokLine j]) = _
          rw [hwj,show o' = 0 by omega]; rfl
         have hb:=lineF_le (s.length + 1) (by omega) q7.symm
         have hb4:=hb.2.2.2 hJl
         have hb5:=hb.2.2.1
         simp only [List.length_append] at hb5
         exact S_round ⟨f,(j + 1),u3,w3 + 1,ins3,out' ++ [tokLine j]⟩ (by show f < f + 1; omega) ⟨hb.2.1,k1,k2,by show (out' ++ [tokLine j]).length + ins3.length ≤ 4 * (j + 1) + 1; simp only [List.length_append]; omega,by show s.length - (j + 1) < f; omega,h6⟩ (.cons rfl (.nil _)) rfl
       ·have hh:=hasH v u3 w3 s j o' ins3 out' 10 (by omega) false (by rw [hs1]; exact beq_false_of_ne (by simpa using hc1))
        rw [if_pos ⟨hlt,.inl (by simpa using hc1)⟩,if_neg (by simpa using hc1)] at q7
        refine pB [.b true,.b true,.k (.bool false),.b true,.b true,.k (.bool false),.b false] rfl ?_
        refine S_call rfl rfl rfl (one_ok v u3 w3 s j o' ins3 out' hlt (by omega) qo (by omega)) (fun r σ' h => ?_) (fun r σ' h => ?_)
        rotate_left
        ·cases hx : oneS s j o' with
         | inl e => rw [hx] at h; cases h.1
         | inr q => rw [hx] at h; obtain ⟨_,_,h,_⟩:=h; cases h
        cases hx : oneS s j o' with
        | inl e =>
         rw [hx] at h q7
         obtain ⟨hr,u4,w4,o4,ins4,out4,rfl⟩:=h
         cases hr
         have hee:=oneS_err hx
         refine pB [.b false] rfl ?_
         exact S_round ⟨ins4,g,e.2,o4,u4,w4,out4,e.1⟩ (by show (if e.1 = 0 then s.length - e.2 + 1 else 0) < s.length - j + 1; rw [if_neg (by omega)]; omega) ⟨(oneS_at hlt hx).2,hee.2,fun h => absurd h (by show e.1 ≠ 0; omega),fun _ => q7.symm⟩ (.cons rfl (.cons rfl (.nil _))) rfl
        | inr q =>
         obtain ⟨t,j2,o2⟩:=q
         rw [hx] at h q7
         obtain ⟨u4,w4,hr,rfl⟩:=h
         cases hr
         have hb:=oneS_le hlt hx
         have hb2:=oneS_o hx qo
         have hg1:=gapC_le (s:=s) (i:=j2) (by omega)
         refine pa [.b true,.c (.int .i64 (gapE s j2 - j2 : Nat)) (rsH v u4 w4 s (gapC s j2) o2 ins3 (out' ++ [t]))] rfl ?_ ?_
         ·(repeat' with_reducible apply AllP_cons) <;> try exact aC
          exact gapH v u4 w4 s j2 o2 ins3 (out' ++ [t]) (by omega) (by omega)
         exact S_round ⟨ins3,g,gapC s j2,o2,u4,w4,out' ++ [t],0⟩ (by show s.length - gapC s j2 + 1 < s.length - j + 1; omega) ⟨hg1.2,Nat.zero_le _,fun _ => ⟨hb2,by show (out' ++ [t]).length + (s.length - gapC s j2) ≤ 800000; simp; omega,by show s.length - gapC s j2 < g; omega,q7,rfl⟩,fun h => absurd rfl h⟩ (.cons rfl (.cons rfl (.nil _))) rfl
      ·rw [if_neg (fun h => hlt h.1),if_neg hlt] at q7
       by_cases hop : 0 < o'
       ·rw [if_pos hop] at q7
        rw [← q7] at h6
        refine pB [.b true,.b false,.b false,.b true,.b true,.b true] rfl ?_
        refine S_ret ⟨_,_,rfl,trivial,?_⟩
        rw [← h6]
        exact ⟨rfl,u3,w3,o',ins3,out',rfl⟩
       ·rw [if_neg hop] at q7
        rw [← q7] at h6
        refine pa [.b true,.b false,.b false,.b true,.b false,.b false,.c (.tup []) (rsH v u3 (w3 + 1) s j o' ins3 (out' ++ [tokLine j])),.b false] rfl ?_ ?_
        ·(repeat' with_reducible apply AllP_cons) <;> try exact aC
         exact rputH v u3 w3 s j o' ins3 out' 6 [] j (by omega)
        refine S_heap (rsH v u3 (w3 + 1) s j 0 ins3 (out' ++ [tokLine j])) ?_ ?_
        ·rw [show o' = 0 by omega]
        have hb:=lineF_le (s.length + 1) (by omega) q7.symm
        have hb4:=hb.2.2.2 hJl
        have hb5:=hb.2.2.1
        simp only [List.length_append] at hb5
        exact S_round ⟨f,j,u3,w3 + 1,ins3,out' ++ [tokLine j]⟩ (by show f < f + 1; omega) ⟨hb.2.1,k1,k2,by show (out' ++ [tokLine j]).length + ins3.length ≤ 4 * j + 1; simp only [List.length_append]; omega,by show s.length - j < f; omega,h6⟩ (.cons rfl (.nil _)) rfl
     ·have q4:=q4 her
      rw [q4] at h6
      refine pa [.b false,.b false,.b false,.b false,.b false,.b true] rfl ?_ ?_
      ·(repeat' with_reducible apply AllP_cons) <;> try exact aC
       exact bne_iff_ne.2 (by omega)
      refine S_ret ⟨_,_,rfl,trivial,?_⟩
      rw [← h6]
      exact ⟨rfl,u3,w3,o',ins3,out',rfl⟩
theorem lineF_err : ∀ (f : Nat) {s : List UInt8} {i o : Nat} {out : List Tok} {e : Flt},s.length - i < f → i ≤ s.length → lineF f s i o out = .inl e → 0 < e.1
 | 0,s,i,o,out,e,hf,hi,h => by omega
 | f + 1,s,i,o,out,e,hf,hi,h => by
  rw [lineF] at h
  split at h
  ·rename_i hc
   split at h
   ·have hg:=gapC_le (s:=s) (i:=i + 1) (by omega)
    exact lineF_err f (by omega) hg.2 h
   ·split at h
    ·rename_i hx
     cases h; exact (oneS_err hx).1
    ·rename_i t j o' hx
     have hb:=oneS_le hc.1 hx
     have hg:=gapC_le (s:=s) (i:=j) (by omega)
     exact lineF_err f (by omega) hg.2 h
  ·split at h
   ·cases h; simp
   ·cases h
theorem allF_err : ∀ (f : Nat) {s : List UInt8} {i : Nat} {ins : List Nat} {out : List Tok} {e : Flt},s.length - i < f → i ≤ s.length → allF f s i ins out = .inl e → 0 < e.1
 | 0,s,i,ins,out,e,hf,hi,h => by omega
 | f + 1,s,i,ins,out,e,hf,hi,h => by
  rw [allF] at h
  have hg:=gapC_le hi
  split at h
  ·split at h
   ·rename_i hx; cases h; exact (furS_err hx).1
   ·cases h
  ·rename_i hlt
   split at h
   ·exact allF_err f (by omega) (by omega) h
   ·rename_i hc
    split at h
    ·rename_i hx; cases h; exact (furS_err hx).1
    ·split at h
     ·rename_i hy
      cases h; exact lineF_err _ (by omega) hg.2 hy
     ·rename_i hy
      have hb:=lineF_le _ hg.2 hy
      have:=hb.2.2.2 (by omega)
      exact allF_err f (by omega) hb.2.1 h
theorem SourceTokens_ok (s : List UInt8) : Calc cx 23 [.str s] (splitAV (splitS s)) :=
 pure_intro (fun a w => Tryz.call23 a w) Tryz.func23 rfl Tryz.ntmps23 rfl (splitAV_free _) fun B => by
  unfold splitS
  by_cases hb : 6000 < s.length
  ·rw [if_pos hb]
   refine pB [.b true] rfl ?_
   refine S_ret ⟨_,_,rfl,⟨rfl,trivial⟩,_,rfl,?_⟩
   exact Fzs.tup (.cons .nils (.cons (.refl (flt_free (2,0))) .nil))
  ·rw [if_neg hb]
   refine ab 1000 rfl trivial ?_
   refine S_cond rfl (fun h => absurd (of_decide_eq_true h) (by omega)) (fun _ => ?_)
   refine go (M:=[11]) 5 rfl trivial ?_
   refine S_unfull (t:=11) rfl ⟨.skip,_,.inr ⟨_,_,_,rfl⟩⟩ ?_
   refine pB [] rfl ?_
   refine S_heap [xf (0,0),insB 0 [0],(0,some (.cells [.str s,.int .i64 0,.int .i64 0,.ms 1 0 0 1 1 false,.nils] ⟨false,some 79⟩))] rfl ?_
   refine S_ghost (id:=2) (j:=4) 4 ⟨false,none⟩ rfl rfl rfl (Nat.ne_of_lt (lble rfl)) ⟨.skip,_,.inr ⟨_,_,_,rfl⟩⟩ ?_
   refine S_callf [2,1,3] (rall_ok 0 0 0 s (by omega)) rfl (.cons (.ptr rfl) (.nil _)) (Part.mk' (es:=[(0,some (.cells [.str s,.int .i64 0,.int .i64 0,.ms 1 0 0 1 1 false,.ms 3 0 0 0 4 false] ⟨false,some 79⟩)),insB 0 [0],outB 0 []]) rfl rfl
    (.cons (.live (.cells (.cons (.free .str) (.cons (.free .int) (.cons (.free .int) (.cons (.ms rfl) (.cons (.ms rfl) (.nil _)))))))) (.cons (.live (.cells (.free (ints_free [0])))) (.cons (.live (.cells (.nil _))) (.nil _))))) rfl rfl ?_ ?_
   rotate_left
   ·intro y σ1 h
    cases hx : allF (s.length + 1) s 0 [0] [] with
    | inl e => rw [hx] at h; cases h.1
    | inr l => rw [hx] at h; obtain ⟨_,_,_,_,_,h1,_⟩:=h; cases h1
   intro y σ1 h
   cases hx : allF (s.length + 1) s 0 [0] [] with
   | inl e =>
    rw [hx] at h
    obtain ⟨h1,u,w,o,ins,out,rfl⟩:=h
    cases h1
    refine ⟨.int .i64 (e.1 : Nat),[(0,some (.cells [.str s,.int .i64 e.2,.int .i64 o,.ms 1 u 0 ins.length 1 false,.ms 3 w 0 out.length 4 false] ⟨false,some 79⟩)),insB u ins,outB w out],
     .cons (.live (.cells (.cons (.free .str) (.cons (.free .int) (.cons (.free .int) (.cons (.ms rfl) (.cons (.ms rfl) (.nil _)))))))) (.cons (.live (.cells (.free (ints_free ins)))) (.cons (.live (.cells (.free (tok_cells_free out)))) (.nil _))),.free .int,?_⟩
    refine pa [.b true] rfl ?_ ?_
    ·(repeat' with_reducible apply AllP_cons) <;> try exact aC
     exact bne_iff_ne.2 (by have:=allF_err _ (by omega) (Nat.zero_le _) hx; omega)
    refine S_ret ⟨_,_,rfl,⟨rfl,trivial⟩,_,rfl,?_⟩
    exact Fzs.tup (.cons .nils (.cons (.refl (flt_free e)) .nil))
   | inr l =>
    rw [hx] at h
    obtain ⟨u,w,i,o,ins,h1,rfl⟩:=h
    cases h1
    refine ⟨.int .i64 0,[(0,some (.cells [.str s,.int .i64 i,.int .i64 o,.ms 1 u 0 ins.length 1 false,.ms 3 w 0 l.length 4 false] ⟨false,some 79⟩)),insB u ins,outB w l],
     .cons (.live (.cells (.cons (.free .str) (.cons (.free .int) (.cons (.free .int) (.cons (.ms rfl) (.cons (.ms rfl) (.nil _)))))))) (.cons (.live (.cells (.free (ints_free ins)))) (.cons (.live (.cells (.free (tok_cells_free l)))) (.nil _))),.free .int,?_⟩
    refine pB [.b false] rfl ?_
    refine S_ret ⟨_,_,rfl,⟨rfl,trivial⟩,_,rfl,?_⟩
    refine Fzs.tup (.cons ?_ (.cons (.refl (flt_free (0,0))) .nil))
    refine .ms rfl (by rw [tokC_len]; omega) ?_ ?_ (by simp) (toks_free l)
    ·rw [toks_cells,List.drop_zero,List.take_of_length_le (by rw [tokC_len]; omega)]
    ·intro x hx; obtain ⟨t,_,rfl⟩:=List.mem_map.1 hx; rfl
theorem IsSourceName_ok (s : List UInt8) (hs : s.length ≤ 1048576) : Calc cx 99 [.str s] (.bool (isNm s)) :=
 pure_intro (fun a w => Tryz.call99 a w) Tryz.func99 rfl Tryz.ntmps99 rfl .bool fun B => by
  refine pB [] rfl ?_
  refine S_while (α:=Nat) (fun i => [(0,.str s),(3,.int .i64 (i : Nat))]) (fun _ => []) (fun i => i ≤ s.length ∧ ∀ j (h : j < s.length),j < i → (isLet s[j] || (isDg s[j] && j != 0)) = true) (fun i => s.length - i) 0
   ⟨Nat.zero_le _,fun j _ h => absurd h (by omega)⟩ (.cons rfl (.cons rfl (.nil _))) rfl ?_
  rintro i ⟨hi,hN⟩
  have hi : i ≤ s.length:=hi
  by_cases hlt : i < s.length
  ·have hgc : (((s.getD (i : Int).toNat 0).toNat : Nat) : Int) = ((s[i].toNat : Nat) : Int):=by rw [Int.toNat_natCast,getD_byte hlt]
   have hL:=IsLetterByte_ok s[i]
   have hD:=IsDigitByte_ok s[i]
   have fz : ∀ σ,Frzs σ [.int .u8 (((s.getD (i : Int).toNat 0).toNat : Nat) : Int)] [.int .u8 ((s[i].toNat : Nat) : Int)]:=fun σ => by rw [hgc]; exact .cons (.refl .int) (.nil _)
   by_cases c1 : isLet s[i] = true
   ·rw [c1] at hL
    refine pa [.b true,.v (.bool true),.b false,.b false] rfl ?_ ?_
    ·(repeat' with_reducible apply AllP_cons) <;> try exact aC
     exact ⟨_,hL,fz _⟩
    refine S_round (i + 1) (by show s.length - (i + 1) < s.length - i; omega) ⟨hlt,fun j hj h => ?_⟩ (.cons rfl (.cons (ai64 rfl (by omega)) (.nil _))) rfl
    rcases Nat.lt_or_ge j i with h' | h'
    ·exact hN j hj h'
    ·obtain rfl : j = i:=by omega
     rw [c1]; rfl
   have c1:=(Bool.not_eq_true _).mp c1
   rw [c1] at hL
   have bad : ∀ h0 : (isDg s[i] && i != 0) = false,isNm s = false:=fun h0 => by
    rw [← Bool.not_eq_true,isNm_iff]
    rintro ⟨_,k1,k2,_⟩
    have:=k2 s[i] (List.getElem_mem hlt)
    rw [c1,Bool.false_or] at this
    rw [this,Bool.true_and] at h0
    have hi0 : i = 0:=by simpa using h0
    subst hi0
    rw [getD_byte hlt,c1] at k1; cases k1
   by_cases i0 : i = 0
   ·have e0 : ((i : Int) == 0) = true:=by rw [i0]; rfl
    refine pa [.b true,.v (.bool false),.b true,.b true,.b true] rfl ?_ ?_
    ·(repeat' with_reducible apply AllP_cons) <;> try exact aC
     exact ⟨_,hL,fz _⟩
    refine S_retc .bool rfl trivial ?_
    rw [bad (by subst i0; simp)]; rfl
   have e0 : ((i : Int) == 0) = false:=beq_false_of_ne (by omega)
   by_cases c2 : isDg s[i] = true
   ·rw [c2] at hD
    refine pa [.b true,.v (.bool false),.b true,.b false,.v (.bool true),.b false] rfl ?_ ?_
    ·(repeat' with_reducible apply AllP_cons) <;> try exact aC
     ·exact ⟨_,hL,fz _⟩
     ·exact ⟨_,hD,fz _⟩
    refine S_round (i + 1) (by show s.length - (i + 1) < s.length - i; omega) ⟨hlt,fun j hj h => ?_⟩ (.cons rfl (.cons (ai64 rfl (by omega)) (.nil _))) rfl
    rcases Nat.lt_or_ge j i with h' | h'
    ·exact hN j hj h'
    ·obtain rfl : j = i:=by omega
     rw [c2,c1]; simpa using i0
   ·rw [(Bool.not_eq_true _).mp c2] at hD
    refine pa [.b true,.v (.bool false),.b true,.b false,.v (.bool false),.b true] rfl ?_ ?_
    ·(repeat' with_reducible apply AllP_cons) <;> try exact aC
     ·exact ⟨_,hL,fz _⟩
     ·exact ⟨_,hD,fz _⟩
    refine S_retc .bool rfl trivial ?_
    rw [bad (by rw [(Bool.not_eq_true _).mp c2]; rfl)]; rfl
  ·obtain rfl : i = s.length:=by omega
   by_cases s0 : s = []
   ·subst s0
    refine pB [.b false,.b false] rfl ?_
    exact S_retc .bool rfl trivial rfl
   have hpos : 0 < s.length:=List.length_pos_iff.2 s0
   have hW:=IsSourceWord_ok s
   have e0 : decide ((s.length : Int) > 0) = true:=decide_eq_true (by omega)
   have hv : isNm s = !decide (s ∈ words14):=by
    rw [Bool.eq_iff_iff,isNm_iff,Bool.not_eq_true',decide_eq_false_iff_not]
    refine ⟨fun h => h.2.2.2,fun h => ⟨s0,?_,fun c hc => ?_,h⟩⟩
    ·rw [getD_byte hpos]
     have:=hN 0 hpos hpos
     simpa using this
    ·obtain ⟨j,hj,rfl⟩:=List.getElem_of_mem hc
     have:=hN j hj hj
     simp only [Bool.or_eq_true,Bool.and_eq_true] at this ⊢
     exact this.imp id And.left
   refine pa [.b false,.b true,.v (.bool (decide (s ∈ words14)))] rfl ?_ ?_
   ·(repeat' with_reducible apply AllP_cons) <;> try exact aC
    exact ⟨_,hW,.cons (.refl .str) (.nil _)⟩
   refine S_retc .bool rfl trivial ?_
   rw [hv]; rfl
theorem namesR_go {e F : Nat} {ns : List (List UInt8)} {q : Rd} {y : List (List UInt8) × Rd} (h : ¬ q.bad = true) (hx : namesR e F ns q = some y) : ∃ G,F = G + 1 ∧ (let x:=kindR e 3 (if lkK q = 3 ∧ isNm (lkT q) = false then failR e 1 q else q)
   if isR [[44]] x.2 then namesR e G (ns ++ [x.1]) x.2.next else some (ns ++ [x.1],x.2)) = some y:=by
 cases F with
 | zero => unfold namesR at hx; rw [if_neg h] at hx; cases hx
 | succ G => rw [namesR,if_neg h] at hx; exact ⟨G,rfl,hx⟩
theorem paramR_go {e F : Nat} {ns : List (List UInt8)} {q : Rd} {y : List (List UInt8) × Rd} (h : ¬ q.bad = true) (hx : paramR e F ns q = some y) : ∃ G,F = G + 1 ∧ (if ns.length = 0 ∧ lkK q ≠ 1 then some (ns,q)
  else let x:=kindR e 1 (if lkK q = 1 ∧ ns.contains (lkT q) = true then failR e 6 q else q)
   if isR [[44]] x.2 then paramR e G (ns ++ [x.1]) x.2.next else some (ns ++ [x.1],x.2)) = some y:=by
 cases F with
 | zero => unfold paramR at hx; rw [if_neg h] at hx; cases hx
 | succ G => rw [paramR,if_neg h] at hx; exact ⟨G,rfl,hx⟩
theorem namesR_bad {e : Nat} : ∀ {F : Nat} {ns : List (List UInt8)} {q : Rd},q.bad = true → namesR e F ns q = some (ns,q)
 | 0,_,_,h => if_pos h
 | F + 1,_,_,h => by unfold namesR; rw [if_pos h]
theorem paramR_bad {e : Nat} : ∀ {F : Nat} {ns : List (List UInt8)} {q : Rd},q.bad = true → paramR e F ns q = some (ns,q)
 | 0,_,_,h => if_pos h
 | F + 1,_,_,h => by unfold paramR; rw [if_pos h]
theorem lkT_len {l : List Tok} {q : Rd} (hT : ∀ t ∈ l,t.text.length ≤ 6000) (hr : q.r <:+ l) : (lkT q).length ≤ 6000:=by
 unfold lkT
 split
 ·exact Nat.zero_le _
 ·cases h : q.r with
  | nil => exact Nat.zero_le _
  | cons t u => exact hT t (hr.subset (by rw [h]; exact List.mem_cons_self ..))
structure RnSt where
 F : Nat
 ns : List (List UInt8)
 q : Rd
 w : Nat
theorem rload_ok (F : Nat) (v : Nat) (l : List Tok) (q : Rd) (e b d n : Nat) (y : St × Rd) (hF : F ≤ 3000000) (hr : q.r <:+ l) (hl : l.length ≤ 100000) (hT : ∀ t ∈ l,t.text.length ≤ 6000) (hx : loadR e F b q = some y) :
  CallOk cx 69 [.ptr 0 v 0] [rdB v l q e b d n] (fun o s => o = .ret (stA y.1) ∧ s = [rdB v l y.2 e b d n]) :=
 callOk_introT (fun a w => Tryz.call69 a w) Tryz.func69 rfl Tryz.ntmps69 rfl fun B => by
  unfold loadR at hx
  obtain ⟨q1,hq1⟩ : ∃ q1,q1 = if b > 0 then failR e 4 q else q:=⟨_,rfl⟩
  have hr1 : q1.r <:+ l:=by rw [hq1]; exact ite_s (fail_s hr) hr
  rw [← hq1] at hx
  refine' S_shareU [(0,.ptr 0 v 0),(2,.ptr 1 0 0)] (fun _ : Unit => [rdB v l q1 e b d n,stO2]) (fun _ => True) (fun cont => ?main) ?rest
  case main =>
   by_cases h : b > 0
   ·rw [if_pos h] at hq1
    have e0 : decide ((b : Int) > 0) = true:=decide_eq_true (by omega)
    have hf:=rfailT v l q e b d n 4 [stO2] hr hl
    rw [← hq1] at hf
    refine pB [.b true,.f (.tup []) (fun σ => rdB v l q1 e b d n :: σ.tail),.s] rfl ?_
    exact cont () _ trivial (.cons rfl (.cons rfl (.nil _)))
   ·rw [if_neg h] at hq1
    have e0 : decide ((b : Int) > 0) = false:=decide_eq_false (by omega)
    subst hq1
    refine pB [.b false,.s] rfl ?_
    exact cont () _ trivial (.cons rfl (.cons rfl (.nil _)))
  case rest =>
  rintro _ _
  have h2:=rsignT v l q1 e b d n wLoad [stO2] hr1 hl
  have hr2 : (signR e wLoad q1).r <:+ l:=sign_s hr1
  generalize signR e wLoad q1 = q2 at h2 hx hr2
  have h3:=rsignT v l q2 e b d n [40] [stO2] hr2 hl
  have hr3 : (signR e [40] q2).r <:+ l:=sign_s hr2
  generalize signR e [40] q2 = q3 at h3 hx hr3
  have h4:=rkindT v l q3 e b d n 3 [stO2] (by decide) hr3 hl
  have hr4 : (kindR e 3 q3).2.r <:+ l:=kind_s hr3
  generalize (kindR e 3 q3) = x at h4 hx hr4
  obtain ⟨tx,q4⟩:=x
  have hr4 : q4.r <:+ l:=hr4
  have hx : (namesR e F [] (signR e [44] q4)).bind (fun y => some (.mk 4 tx y.1 .zero [] [],signR e [41] y.2)) = some y:=hx
  refine pB [.f (.tup []) (fun σ => rdB v l q2 e b d n :: σ.tail),.f (.tup []) (fun σ => rdB v l q3 e b d n :: σ.tail),.f (.str tx) (fun σ => rdB v l q4 e b d n :: σ.tail)] rfl ?_
  refine S_ghost (id:=2) (j:=2) 1 ⟨false,none⟩ rfl rfl rfl (Nat.ne_of_lt (lble rfl)) ⟨.skip,_,.inr ⟨_,_,_,rfl⟩⟩ ?_
  refine S_heap [rdB v l q4 e b d n,stO2,stX 4 tx 0 [] .nils,namB 0 []] rfl ?_
  have h5:=rsignT v l q4 e b d n [44] [stO2,stX 4 tx 0 [] .nils,namB 0 []] hr4 hl
  have hr5 : (signR e [44] q4).r <:+ l:=sign_s hr4
  generalize signR e [44] q4 = q5 at h5 hx hr5
  cases hx1 : namesR e F [] q5 with
  | none => rw [hx1] at hx; cases hx
  | some z =>
  rw [hx1] at hx
  obtain ⟨nz,qz⟩:=z
  cases hx
  refine pB [.f (.tup []) (fun σ => rdB v l q5 e b d n :: σ.tail)] rfl ?_
  refine' S_shareU [(0,.ptr 0 v 0),(2,.ptr 1 0 0),(3,.ptr 2 0 0),(57,.ptr 0 v 0)] (fun w : Nat => [rdB v l qz e b d n,stO2,stX 4 tx w nz .nils,namB w nz]) (fun _ => qz.r <:+ l) (fun cont => ?main) ?rest
  case main =>
   refine S_while (α:=RnSt) (fun p => [(0,.ptr 0 v 0),(2,.ptr 1 0 0),(3,.ptr 2 0 0)]) (fun p => [rdB v l p.q e b d n,stO2,stX 4 tx p.w p.ns .nils,namB p.w p.ns])
    (fun p => p.F ≤ F ∧ p.q.r <:+ l ∧ namesR e p.F p.ns p.q = some (nz,qz) ∧ p.ns.length + p.F ≤ F) (fun p => p.F) ⟨F,[],q5,0⟩ ⟨Nat.le_refl _,hr5,hx1,by show 0 + F ≤ F; omega⟩ (.cons rfl (.cons rfl (.cons rfl (.nil _)))) rfl ?_
   rintro ⟨F1,ns,q,w⟩ ⟨hF1,hr,hx,hns⟩
   have hF1 : F1 ≤ F:=hF1
   have hr : q.r <:+ l:=hr
   have hx : namesR e F1 ns q = some (nz,qz):=hx
   have hns : ns.length + F1 ≤ F:=hns
   show S cx _ B _ _ [(0,.ptr 0 v 0),(2,.ptr 1 0 0),(3,.ptr 2 0 0)] [rdB v l q e b d n,stO2,stX 4 tx w ns .nils,namB w ns]
   have hb:=rbadT v l q e b d n [stO2,stX 4 tx w ns .nils,namB w ns]
   by_cases hbad : q.bad = true
   ·rw [hbad] at hb
    rw [namesR_bad hbad] at hx
    cases hx
    refine pB [.k (.bool true),.b false] rfl ?_
    exact cont w _ hr (.cons rfl (.cons rfl (.cons rfl (.cons rfl (.nil _)))))
   obtain ⟨G,rfl,hx'⟩:=namesR_go hbad hx
   clear hx
   have hx:=hx'
   clear hx'
   rw [(Bool.not_eq_true _).mp hbad] at hb
   have hlk:=rlookT v l q e b d n [stO2,stX 4 tx w ns .nils,namB w ns] hr hl
   have hlen:=lkT_len hT hr
   obtain ⟨t,ht⟩ : ∃ t,t = lkT q:=⟨_,rfl⟩
   obtain ⟨k0,hk0⟩ : ∃ k,k = lkK q:=⟨_,rfl⟩
   rw [← ht,← hk0] at hlk hx
   rw [← ht] at hlen
   have hNm:=IsSourceName_ok t (by omega)
   obtain ⟨q2,hq2⟩ : ∃ q2,q2 = if k0 = 3 ∧ isNm t = false then failR e 1 q else q:=⟨_,rfl⟩
   have hx : (if isR [[44]] (kindR e 3 q2).2 then namesR e G (ns ++ [(kindR e 3 q2).1]) (kindR e 3 q2).2.next else some (ns ++ [(kindR e 3 q2).1],(kindR e 3 q2).2)) = some (nz,qz):=by
    rw [hq2]; exact hx
   have hr2 : q2.r <:+ l:=by rw [hq2]; exact ite_s (fail_s hr) hr
   refine' S_share [(0,.ptr 0 v 0),(2,.ptr 1 0 0),(3,.ptr 2 0 0)] [rdB v l q2 e b d n,stO2,stX 4 tx w ns .nils,namB w ns] (fun cont2 => ?main2) ?rest2
   case main2 =>
    by_cases k3 : k0 = 3
    ·rw [k3] at hlk hq2
     by_cases nm : isNm t = true
     ·rw [nm] at hNm
      rw [if_neg (fun h => by rw [nm] at h; cases h.2)] at hq2
      subst hq2
      refine pa [.k (.bool false),.b true,.k (lookA 3 t),.b true,.v (.bool true),.b false] rfl ?_ ?_
      ·(repeat' with_reducible apply AllP_cons) <;> try exact aC
       exact ⟨_,hNm,.cons (.refl .str) (.nil _)⟩
      exact cont2 _ (.cons rfl (.cons rfl (.cons rfl (.nil _))))
     ·rw [(Bool.not_eq_true _).mp nm] at hNm
      rw [if_pos ⟨rfl,(Bool.not_eq_true _).mp nm⟩] at hq2
      have hf:=rfailT v l q e b d n 1 [stO2,stX 4 tx w ns .nils,namB w ns] hr hl
      rw [← hq2] at hf
      refine pa [.k (.bool false),.b true,.k (lookA 3 t),.b true,.v (.bool false),.b true,.f (.tup []) (fun σ => rdB v l q2 e b d n :: σ.tail)] rfl ?_ ?_
      ·(repeat' with_reducible apply AllP_cons) <;> try exact aC
       exact ⟨_,hNm,.cons (.refl .str) (.nil _)⟩
      exact cont2 _ (.cons rfl (.cons rfl (.cons rfl (.nil _))))
    ·have e3 : ((k0 : Int) == 3) = false:=beq_false_of_ne (by omega)
     rw [if_neg (fun h => k3 h.1)] at hq2
     subst hq2
     refine pB [.k (.bool false),.b true,.k (lookA k0 t),.b false,.b false] rfl ?_
     exact cont2 _ (.cons rfl (.cons rfl (.cons rfl (.nil _))))
   case rest2 =>
    have hK:=rkindT v l q2 e b d n 3 [stO2,stX 4 tx w ns .nils,namB w ns] (by decide) hr2 hl
    have hr3 : (kindR e 3 q2).2.r <:+ l:=kind_s hr2
    obtain ⟨xx,hxx⟩ : ∃ xx,xx = kindR e 3 q2:=⟨_,rfl⟩
    rw [← hxx] at hK hr3 hx
    obtain ⟨t3,q3⟩:=xx
    have hr3 : q3.r <:+ l:=hr3
    have hx : (if isR [[44]] q3 then namesR e G (ns ++ [t3]) q3.next else some (ns ++ [t3],q3)) = some (nz,qz):=hx
    have hbx : 0 + ns.length * 1 = (texts ns).length:=by rw [texts_len]; omega
    refine pa [.d 3 5 [] (fun σ => rdB v l q3 e b d n :: σ.tail) [.str t3]] rfl ?_ ?_
    ·(repeat' with_reducible apply AllP_cons) <;> try exact aC
     ·exact ⟨_,hK,rfl⟩
     ·show (ns.length + 1) * 16 ≤ 140737488355328
      omega
    refine S_heap [rdB v l q3 e b d n,stO2,stX 4 tx (w + 1) (ns ++ [t3]) .nils,namB (w + 1) (ns ++ [t3])] ?_ ?_
    ·show [rdB v l q3 e b d n,stO2,(0,some (.cells [.int .i64 4,.str tx,.ms 3 (w + 1) 0 (ns.length + 1) 1 false,.int .i64 0,.int .i64 0,.str [],.nils,.nils,.nils,.nils] ⟨false,some 56⟩)),(w + 1,some (.cells (texts ns ++ [.str t3]) ⟨false,none⟩))] = _
     unfold stX namB
     rw [List.length_append,nam_snoc]; rfl
    have hi:=risT v l q3 e b d n [[44]] true true [stO2,stX 4 tx (w + 1) (ns ++ [t3]) .nils,namB (w + 1) (ns ++ [t3])] (by decide) hr3 hl
    by_cases c6 : isR [[44]] q3 = true
    ·rw [if_pos c6] at hx
     rw [c6] at hi
     have hwr:=rd_next (isR_ne c6) hr3 hl
     refine pB [.k (.bool true),.b false] rfl ?_
     refine S_round ⟨G,ns ++ [t3],q3.next,w + 1⟩ (Nat.lt_succ_self _) ⟨by show G ≤ F; omega,next_s hr3,hx,by show (ns ++ [_]).length + G ≤ F; rw [List.length_append,List.length_singleton]; omega⟩ (.cons rfl (.cons rfl (.cons rfl (.nil _)))) ?_
     show rdI v l (IntKind.i64.wrap (((l.length - q3.r.length : Nat) : Int) + 1)) q3.f e b d n :: _ = _
     rw [hwr]; rfl
    ·rw [if_neg c6] at hx
     rw [(Bool.not_eq_true _).mp c6] at hi
     cases hx
     refine pB [.k (.bool false),.b true] rfl ?_
     exact cont (w + 1) _ hr3 (.cons rfl (.cons rfl (.cons rfl (.cons rfl (.nil _)))))
  case rest =>
   intro w hrz
   show S cx _ B _ _ [(0,.ptr 0 v 0),(2,.ptr 1 0 0),(3,.ptr 2 0 0),(57,.ptr 0 v 0)] [rdB v l qz e b d n,stO2,stX 4 tx w nz .nils,namB w nz]
   have hM:=rsignT v l qz e b d n [41] [stO2,stX 4 tx w nz .nils,namB w nz] hrz hl
   refine pB [.f (.tup []) (fun σ => rdB v l (signR e [41] qz) e b d n :: σ.tail)] rfl ?_
   refine S_ret ⟨_,_,rfl,⟨rfl,trivial⟩,?_⟩
   exact rfin (stFz10 (namFz (by decide) rfl) .nils .nils .nils .nils)
theorem paramR_s (e : Nat) (r : List Tok) : ∀ (F : Nat) (ns : List (List UInt8)) (q : Rd),q.r <:+ r → Sr r (paramR e F ns q)
 | 0,ns,q,h => .base h
 | F + 1,ns,q,h => by
  rw [paramR]
  exact .ite (.some h) (.ite (.some h) (.ite (paramR_s e r F _ _ (next_s (kind_s (ite_s (fail_s h) h)))) (.some (kind_s (ite_s (fail_s h) h)))))
theorem namesR_s (e : Nat) (r : List Tok) : ∀ (F : Nat) (ns : List (List UInt8)) (q : Rd),q.r <:+ r → Sr r (namesR e F ns q)
 | 0,ns,q,h => .base h
 | F + 1,ns,q,h => by
  rw [namesR]
  exact .ite (.some h) (.ite (namesR_s e r F _ _ (next_s (kind_s (ite_s (fail_s h) h)))) (.some (kind_s (ite_s (fail_s h) h))))
theorem loadR_s (e : Nat) (r : List Tok) (F b : Nat) (q : Rd) (h : q.r <:+ r) : Sr r (loadR e F b q) :=
 (namesR_s e r F _ _ (sign_s (kind_s (sign_s (sign_s (ite_s (fail_s h) h)))))).bind fun y hy => .some (sign_s hy)
theorem smallR_s (e : Nat) (r : List Tok) (F d b : Nat) (q : Rd) (h : q.r <:+ r) : Sr r (smallR e F d b q):=by
 unfold smallR
 have h2:=next_s (ite_s (c:=d = 0) (fail_s (e:=e) (k:=4) h) h)
 exact .ite (.some (next_s h)) (.ite (.ite (((allR e r F).expr _ _ h2).bind fun y hy => .some hy) (.some h2)) (.ite (loadR_s e r F b q h) (.ite (((allR e r F).expr _ _ (sign_s (kind_s h))).bind fun y hy => .some hy) (((allR e r F).expr _ _ h).bind fun y hy => .some hy))))
structure AllRS (e : Nat) (r : List Tok) (F : Nat) : Prop where
 stmts : ∀ b d l q,q.r <:+ r → Sr r (stmtsR e F b d l q)
 block : ∀ b d q,q.r <:+ r → Sr r (blockR e F b d q)
 dfn : ∀ b d q,q.r <:+ r → Sr r (defR e F b d q)
 stmt : ∀ b d q,q.r <:+ r → Sr r (stmtR e F b d q)
theorem allRS (e : Nat) (r : List Tok) (F : Nat) : AllRS e r F:=by
 induction F with
 | zero => exact ⟨fun _ _ _ _ h => by unfold stmtsR; exact .ite (.some h) .none,fun _ _ _ h => .base h,fun _ _ _ _ => .none,fun _ _ _ _ => .none⟩
 | succ F ih =>
  refine ⟨?_,?_,?_,?_⟩
  ·intro b d l q h; rw [stmtsR]; exact .ite (.some h) ((ih.stmt _ _ _ h).bind fun y hy => ih.stmts _ _ _ _ hy)
  ·intro b d q h; rw [blockR]; exact (ih.stmts _ _ _ _ (kind_s (kind_s (sign_s h)))).bind fun y hy => .some (kind_s hy)
  ·intro b d q h; rw [defR]; exact (paramR_s e r F _ _ (sign_s (kind_s (sign_s (ite_s (fail_s h) h))))).bind fun y hy => (ih.block _ _ _ (sign_s hy)).bind fun z hz => .some hz
  ·intro b d q h; rw [stmtR]
   refine .ite (ih.dfn _ _ _ h) (.ite (((allR e r F).expr _ _ (next_s h)).bind fun x hx => (ih.block _ _ _ hx).bind fun y hy => .ite ((ih.block _ _ _ (next_s hy)).bind fun z hz => .some hz) (.some hy)) (.ite (((allR e r F).expr _ _ (sign_s (kind_s (next_s h)))).bind fun x hx => (ih.block _ _ _ hx).bind fun y hy => .some hy) ((smallR_s e r F d b q h).bind fun y hy => .some (kind_s hy))))
def Rst (f : FuncId) (x : Nat → Nat → Nat → Nat → Rd → Option (St × Rd)) (F : Nat) : Prop:=∀ (v : Nat) (l : List Tok) (q : Rd) (e b d : Nat) (y : St × Rd),q.r <:+ l → l.length ≤ 100000 → (∀ t ∈ l,t.text.length ≤ 6000) → b + F ≤ 3000000 → d + F ≤ 3000000 → x e F b d q = some y →
 CallOk cx f [.ptr 0 v 0] [rdB v l q e b d 0] (fun o s => o = .ret (stA y.1) ∧ s = [rdB v l y.2 e b d 0])
def Rbl (F : Nat) : Prop:=∀ (v : Nat) (l : List Tok) (q : Rd) (e b d : Nat) (y : List St × Rd),q.r <:+ l → l.length ≤ 100000 → (∀ t ∈ l,t.text.length ≤ 6000) → b + F < 3000000 → d + F ≤ 3000000 → blockR e F b d q = some y →
 CallOk cx 65 [.ptr 0 v 0] [rdB v l q e b d 0] (fun o s => o = .ret (stsA y.1) ∧ s = [rdB v l y.2 e b d 0])
def Rss (F : Nat) : Prop:=∀ (v : Nat) (l : List Tok) (q : Rd) (e b d : Nat) (y : List St × Rd),q.r <:+ l → l.length ≤ 100000 → (∀ t ∈ l,t.text.length ≤ 6000) → b + F ≤ 3000000 → d + F ≤ 3000000 → stmtsR e F b d [] q = some y →
 CallOk cx 24 [.ptr 0 v 0] [rdB v l q e b d 0] (fun o s => o = .ret (stsA y.1) ∧ s = [rdB v l y.2 e b d 0])
theorem Rst.tail {f : FuncId} {x : Nat → Nat → Nat → Nat → Rd → Option (St × Rd)} {F : Nat} (h : Rst f x F) (v : Nat) (l : List Tok) (q : Rd) (e b d : Nat) (y : St) (q' : Rd) (τ : Heap) (hr : q.r <:+ l) (hl : l.length ≤ 100000) (hT : ∀ t ∈ l,t.text.length ≤ 6000) (hb : b + F ≤ 3000000) (hd : d + F ≤ 3000000) (hx : x e F b d q = some (y,q')) :
  CallOk cx f [.ptr 0 v 0] (rdB v l q e b d 0 :: τ) (fun o s => o = .ret (stA y) ∧ s = rdB v l q' e b d 0 :: τ) :=
 rT (h v l q e b d (y,q') hr hl hT hb hd hx) (stA_free _) (by simp) τ
theorem Rbl.tail {F : Nat} (h : Rbl F) (v : Nat) (l : List Tok) (q : Rd) (e b d : Nat) (y : List St) (q' : Rd) (τ : Heap) (hr : q.r <:+ l) (hl : l.length ≤ 100000) (hT : ∀ t ∈ l,t.text.length ≤ 6000) (hb : b + F < 3000000) (hd : d + F ≤ 3000000) (hx : blockR e F b d q = some (y,q')) :
  CallOk cx 65 [.ptr 0 v 0] (rdB v l q e b d 0 :: τ) (fun o s => o = .ret (stsA y) ∧ s = rdB v l q' e b d 0 :: τ) :=
 rT (h v l q e b d (y,q') hr hl hT hb hd hx) (stsA_free _) (by simp) τ
theorem Rss.tail {F : Nat} (h : Rss F) (v : Nat) (l : List Tok) (q : Rd) (e b d : Nat) (y : List St) (q' : Rd) (τ : Heap) (hr : q.r <:+ l) (hl : l.length ≤ 100000) (hT : ∀ t ∈ l,t.text.length ≤ 6000) (hb : b + F ≤ 3000000) (hd : d + F ≤ 3000000) (hx : stmtsR e F b d [] q = some (y,q')) :
  CallOk cx 24 [.ptr 0 v 0] (rdB v l q e b d 0 :: τ) (fun o s => o = .ret (stsA y) ∧ s = rdB v l q' e b d 0 :: τ) :=
 rT (h v l q e b d (y,q') hr hl hT hb hd hx) (stsA_free _) (by simp) τ
theorem rblock_ok (F : Nat) (hs : Rss F) (v : Nat) (l : List Tok) (q : Rd) (e b d : Nat) (y : List St × Rd) (hr : q.r <:+ l) (hl : l.length ≤ 100000) (hT : ∀ t ∈ l,t.text.length ≤ 6000) (hb : b + 1 + F ≤ 3000000) (hd : d + F ≤ 3000000) (hx : blockR e (F + 1) b d q = some y) :
  CallOk cx 65 [.ptr 0 v 0] [rdB v l q e b d 0] (fun o s => o = .ret (stsA y.1) ∧ s = [rdB v l y.2 e b d 0]) :=
 callOk_introT (fun a w => Tryz.call65 a w) Tryz.func65 rfl Tryz.ntmps65 rfl fun B => by
  rw [blockR] at hx
  have h1:=rsignT v l q e b d 0 [58] [] hr hl
  have hr1 : (signR e [58] q).r <:+ l:=sign_s hr
  generalize signR e [58] q = q1 at h1 hx hr1
  have h2:=rkindT v l q1 e b d 0 6 [] (by decide) hr1 hl
  have hr2 : (kindR e 6 q1).2.r <:+ l:=kind_s hr1
  generalize (kindR e 6 q1) = x2 at h2 hx hr2
  obtain ⟨t2,q2⟩:=x2
  have hr2 : q2.r <:+ l:=hr2
  have h3:=rkindT v l q2 e b d 0 7 [] (by decide) hr2 hl
  have hr3 : (kindR e 7 q2).2.r <:+ l:=kind_s hr2
  have hx : (stmtsR e F (b + 1) d [] (kindR e 7 q2).2).bind (fun l => some (l.1,(kindR e 8 l.2).2)) = some y:=hx
  generalize (kindR e 7 q2) = x3 at h3 hx hr3
  obtain ⟨t3,q3⟩:=x3
  have hr3 : q3.r <:+ l:=hr3
  have hx : (stmtsR e F (b + 1) d [] q3).bind (fun l => some (l.1,(kindR e 8 l.2).2)) = some y:=hx
  have hw : IntKind.i64.wrap ((b : Nat) + 1) = ((b + 1 : Nat) : Int):=by rw [IntWalk.i64_in _ ⟨by omega,by omega⟩]; omega
  have hw1 : IntKind.i64.wrap (((b + 1 : Nat) : Int) - 1) = (b : Int):=by rw [IntWalk.i64_in _ ⟨by omega,by omega⟩]; omega
  cases hx1 : stmtsR e F (b + 1) d [] q3 with
  | none => rw [hx1] at hx; cases hx
  | some z =>
  rw [hx1] at hx
  have hr4:=(allRS e l F).stmts _ _ _ _ hr3 _ hx1
  obtain ⟨ls,q4⟩:=z
  have hr4 : q4.r <:+ l:=hr4
  cases hx
  have h4:=hs.tail v l q3 e (b + 1) d ls q4 [] hr3 hl hT (by omega) hd hx1
  have h5:=rkindT v l q4 e b d 0 8 [] (by decide) hr4 hl
  refine pB [.f (.tup []) (fun σ => rdB v l q1 e b d 0 :: σ.tail),.f (.str t2) (fun σ => rdB v l q2 e b d 0 :: σ.tail),.f (.str t3) (fun σ => rdB v l q3 e b d 0 :: σ.tail)] rfl ?_
  refine S_heap [rdB v l q3 e (b + 1) d 0] ?_ ?_
  ·show [rdI v l ((l.length - q3.r.length : Nat) : Int) q3.f e (IntKind.i64.wrap ((b : Nat) + 1)) d (0 : Nat)] = _
   rw [hw]; rfl
  refine pB [.f (stsA ls) (fun σ => rdB v l q4 e (b + 1) d 0 :: σ.tail)] rfl ?_
  refine S_heap [rdB v l q4 e b d 0] ?_ ?_
  ·show [rdI v l ((l.length - q4.r.length : Nat) : Int) q4.f e (IntKind.i64.wrap (((b + 1 : Nat) : Int) - 1)) d (0 : Nat)] = _
   rw [hw1]; rfl
  refine pB [.f (.str (kindR e 8 q4).1) (fun σ => rdB v l (kindR e 8 q4).2 e b d 0 :: σ.tail)] rfl ?_
  refine S_ret ⟨_,_,rfl,trivial,?_⟩
  exact rfin (lowSt _)
theorem rdef_ok (F : Nat) (hB : Rbl F) (v : Nat) (l : List Tok) (q : Rd) (e b d : Nat) (y : St × Rd) (hF : F ≤ 3000000) (hr : q.r <:+ l) (hl : l.length ≤ 100000) (hT : ∀ t ∈ l,t.text.length ≤ 6000) (hb : b + F < 3000000) (hd : d + 1 + F ≤ 3000000) (hx : defR e (F + 1) b d q = some y) :
  CallOk cx 63 [.ptr 0 v 0] [rdB v l q e b d 0] (fun o s => o = .ret (stA y.1) ∧ s = [rdB v l y.2 e b d 0]) :=
 callOk_introT (fun a w => Tryz.call63 a w) Tryz.func63 rfl Tryz.ntmps63 rfl fun B => by
  rw [defR] at hx
  obtain ⟨q1,hq1⟩ : ∃ q1,q1 = if b > 0 then failR e 4 q else q:=⟨_,rfl⟩
  have hr1 : q1.r <:+ l:=by rw [hq1]; exact ite_s (fail_s hr) hr
  rw [← hq1] at hx
  refine' S_shareU [(0,.ptr 0 v 0),(2,.ptr 1 0 0)] (fun _ : Unit => [rdB v l q1 e b d 0,stO2]) (fun _ => True) (fun cont => ?main) ?rest
  case main =>
   by_cases h : b > 0
   ·rw [if_pos h] at hq1
    have e0 : decide ((b : Int) > 0) = true:=decide_eq_true (by omega)
    have hf:=rfailT v l q e b d 0 4 [stO2] hr hl
    rw [← hq1] at hf
    refine pB [.b true,.f (.tup []) (fun σ => rdB v l q1 e b d 0 :: σ.tail),.s] rfl ?_
    exact cont () _ trivial (.cons rfl (.cons rfl (.nil _)))
   ·rw [if_neg h] at hq1
    have e0 : decide ((b : Int) > 0) = false:=decide_eq_false (by omega)
    subst hq1
    refine pB [.b false,.s] rfl ?_
    exact cont () _ trivial (.cons rfl (.cons rfl (.nil _)))
  case rest =>
  rintro _ _
  have h2:=rsignT v l q1 e b d 0 wDef [stO2] hr1 hl
  have hr2 : (signR e wDef q1).r <:+ l:=sign_s hr1
  generalize signR e wDef q1 = q2 at h2 hx hr2
  have h4:=rkindT v l q2 e b d 0 1 [stO2] (by decide) hr2 hl
  have hr4 : (kindR e 1 q2).2.r <:+ l:=kind_s hr2
  generalize (kindR e 1 q2) = x at h4 hx hr4
  obtain ⟨tx,q4⟩:=x
  have hr4 : q4.r <:+ l:=hr4
  have hx : (paramR e F [] (signR e [40] q4)).bind (fun ns => (blockR e F b (d + 1) (signR e [41] ns.2)).bind fun l => some (.mk 6 tx ns.1 .zero l.1 [],l.2)) = some y:=hx
  refine pB [.f (.tup []) (fun σ => rdB v l q2 e b d 0 :: σ.tail),.f (.str tx) (fun σ => rdB v l q4 e b d 0 :: σ.tail)] rfl ?_
  refine S_ghost (id:=2) (j:=2) 1 ⟨false,none⟩ rfl rfl rfl (Nat.ne_of_lt (lble rfl)) ⟨.skip,_,.inr ⟨_,_,_,rfl⟩⟩ ?_
  refine S_heap [rdB v l q4 e b d 0,stO2,stX 6 tx 0 [] .nils,namB 0 []] rfl ?_
  have h5:=rsignT v l q4 e b d 0 [40] [stO2,stX 6 tx 0 [] .nils,namB 0 []] hr4 hl
  have hr5 : (signR e [40] q4).r <:+ l:=sign_s hr4
  generalize signR e [40] q4 = q5 at h5 hx hr5
  cases hx1 : paramR e F [] q5 with
  | none => rw [hx1] at hx; cases hx
  | some z =>
  rw [hx1] at hx
  obtain ⟨nz,qz⟩:=z
  have hx : (blockR e F b (d + 1) (signR e [41] qz)).bind (fun l => some (.mk 6 tx nz .zero l.1 [],l.2)) = some y:=hx
  refine pB [.f (.tup []) (fun σ => rdB v l q5 e b d 0 :: σ.tail)] rfl ?_
  refine' S_shareU [(0,.ptr 0 v 0),(2,.ptr 1 0 0),(3,.ptr 2 0 0),(65,.ptr 0 v 0)] (fun w : Nat => [rdB v l qz e b d 0,stO2,stX 6 tx w nz .nils,namB w nz]) (fun _ => qz.r <:+ l) (fun cont => ?main) ?rest
  case main =>
   refine S_while (α:=RnSt) (fun p => [(0,.ptr 0 v 0),(2,.ptr 1 0 0),(3,.ptr 2 0 0),(4,.int .i64 (p.ns.length : Nat))]) (fun p => [rdB v l p.q e b d 0,stO2,stX 6 tx p.w p.ns .nils,namB p.w p.ns])
    (fun p => p.F ≤ F ∧ p.q.r <:+ l ∧ paramR e p.F p.ns p.q = some (nz,qz) ∧ p.ns.length + p.F ≤ F) (fun p => p.F) ⟨F,[],q5,0⟩ ⟨Nat.le_refl _,hr5,hx1,by show 0 + F ≤ F; omega⟩ (.cons rfl (.cons rfl (.cons rfl (.cons rfl (.nil _))))) rfl ?_
   rintro ⟨F1,ns,q,w⟩ ⟨hF1,hr,hx,hns⟩
   have hF1 : F1 ≤ F:=hF1
   have hr : q.r <:+ l:=hr
   have hx : paramR e F1 ns q = some (nz,qz):=hx
   have hns : ns.length + F1 ≤ F:=hns
   show S cx _ B _ _ [(0,.ptr 0 v 0),(2,.ptr 1 0 0),(3,.ptr 2 0 0),(4,.int .i64 (ns.length : Nat))] [rdB v l q e b d 0,stO2,stX 6 tx w ns .nils,namB w ns]
   have hb:=rbadT v l q e b d 0 [stO2,stX 6 tx w ns .nils,namB w ns]
   by_cases hbad : q.bad = true
   ·rw [hbad] at hb
    rw [paramR_bad hbad] at hx
    cases hx
    refine pB [.k (.bool true),.b false] rfl ?_
    exact cont w _ hr (.cons rfl (.cons rfl (.cons rfl (.cons rfl (.nil _)))))
   obtain ⟨G,rfl,hx'⟩:=paramR_go hbad hx
   clear hx
   have hx:=hx'
   clear hx'
   rw [(Bool.not_eq_true _).mp hbad] at hb
   have hlk:=rlookT v l q e b d 0 [stO2,stX 6 tx w ns .nils,namB w ns] hr hl
   obtain ⟨t,ht⟩ : ∃ t,t = lkT q:=⟨_,rfl⟩
   obtain ⟨k0,hk0⟩ : ∃ k,k = lkK q:=⟨_,rfl⟩
   rw [← ht,← hk0] at hlk hx
   have hHT:=HasText_ok (st:=false) (fl:=false) ns t (by omega)
   have hFz : Frzs [rdB v l q e b d 0,stO2,stX 6 tx w ns .nils,namB w ns] [.ms 3 w 0 ns.length 1 false,.str t] [.sl false false 1 (texts ns),.str t]:=.cons (.ms1 rfl (fun x hx => by obtain ⟨y,_,rfl⟩:=List.mem_map.1 hx; rfl) (texts_len ns) (textsF ns)) (.cons (.refl .str) (.nil _))
   by_cases c0 : ns.length = 0 ∧ k0 ≠ 1
   ·rw [if_pos c0] at hx
    have e0 : ((ns.length : Int) == 0) = true:=by rw [c0.1]; rfl
    have e1 : ((k0 : Int) != 1) = true:=bne_iff_ne.2 (by have:=c0.2; omega)
    cases hx
    refine pB [.k (.bool false),.b true,.k (lookA k0 t),.b true,.b true] rfl ?_
    exact cont w _ hr (.cons rfl (.cons rfl (.cons rfl (.cons rfl (.nil _)))))
   rw [if_neg c0] at hx
   obtain ⟨q2,hq2⟩ : ∃ q2,q2 = if k0 = 1 ∧ ns.contains t = true then failR e 6 q else q:=⟨_,rfl⟩
   have hx : (if isR [[44]] (kindR e 1 q2).2 then paramR e G (ns ++ [(kindR e 1 q2).1]) (kindR e 1 q2).2.next else some (ns ++ [(kindR e 1 q2).1],(kindR e 1 q2).2)) = some (nz,qz):=by
    rw [hq2]; exact hx
   have hr2 : q2.r <:+ l:=by rw [hq2]; exact ite_s (fail_s hr) hr
   refine' S_share [(0,.ptr 0 v 0),(2,.ptr 1 0 0),(3,.ptr 2 0 0),(4,.int .i64 (ns.length : Nat))] [rdB v l q2 e b d 0,stO2,stX 6 tx w ns .nils,namB w ns] (fun cont2 => ?main2) ?rest2
   case main2 =>
    by_cases k1 : k0 = 1
    ·rw [k1] at hlk hq2
     by_cases n0 : ns.length = 0
     ·have e0 : ((ns.length : Int) == 0) = true:=by rw [n0]; rfl
      have nc : ns.contains t = false:=by rw [List.eq_nil_of_length_eq_zero n0]; rfl
      rw [nc] at hHT
      rw [if_neg (fun h => by rw [nc] at h; cases h.2)] at hq2
      subst hq2
      refine pa [.k (.bool false),.b true,.k (lookA 1 t),.b true,.b false,.b true,.v (.bool false),.b false] rfl ?_ ?_
      ·(repeat' with_reducible apply AllP_cons) <;> try exact aC
       exact ⟨_,hHT,hFz⟩
      exact cont2 _ (.cons rfl (.cons rfl (.cons rfl (.cons rfl (.nil _)))))
     have e0 : ((ns.length : Int) == 0) = false:=beq_false_of_ne (by omega)
     by_cases nc : ns.contains t = true
     ·rw [nc] at hHT
      rw [if_pos ⟨rfl,nc⟩] at hq2
      have hf:=rfailT v l q e b d 0 6 [stO2,stX 6 tx w ns .nils,namB w ns] hr hl
      rw [← hq2] at hf
      refine pa [.k (.bool false),.b true,.k (lookA 1 t),.b false,.b false,.b true,.v (.bool true),.b true,.f (.tup []) (fun σ => rdB v l q2 e b d 0 :: σ.tail)] rfl ?_ ?_
      ·(repeat' with_reducible apply AllP_cons) <;> try exact aC
       exact ⟨_,hHT,hFz⟩
      exact cont2 _ (.cons rfl (.cons rfl (.cons rfl (.cons rfl (.nil _)))))
     ·rw [(Bool.not_eq_true _).mp nc] at hHT
      rw [if_neg (fun h => nc h.2)] at hq2
      subst hq2
      refine pa [.k (.bool false),.b true,.k (lookA 1 t),.b false,.b false,.b true,.v (.bool false),.b false] rfl ?_ ?_
      ·(repeat' with_reducible apply AllP_cons) <;> try exact aC
       exact ⟨_,hHT,hFz⟩
      exact cont2 _ (.cons rfl (.cons rfl (.cons rfl (.cons rfl (.nil _)))))
    ·have e3 : ((k0 : Int) == 1) = false:=beq_false_of_ne (by omega)
     have n0 : ns.length ≠ 0:=fun h => c0 ⟨h,k1⟩
     have e0 : ((ns.length : Int) == 0) = false:=beq_false_of_ne (by omega)
     rw [if_neg (fun h => k1 h.1)] at hq2
     subst hq2
     refine pB [.k (.bool false),.b true,.k (lookA k0 t),.b false,.b false,.b false,.b false] rfl ?_
     exact cont2 _ (.cons rfl (.cons rfl (.cons rfl (.cons rfl (.nil _)))))
   case rest2 =>
    have hK:=rkindT v l q2 e b d 0 1 [stO2,stX 6 tx w ns .nils,namB w ns] (by decide) hr2 hl
    have hr3 : (kindR e 1 q2).2.r <:+ l:=kind_s hr2
    obtain ⟨xx,hxx⟩ : ∃ xx,xx = kindR e 1 q2:=⟨_,rfl⟩
    rw [← hxx] at hK hr3 hx
    obtain ⟨t3,q3⟩:=xx
    have hr3 : q3.r <:+ l:=hr3
    have hx : (if isR [[44]] q3 then paramR e G (ns ++ [t3]) q3.next else some (ns ++ [t3],q3)) = some (nz,qz):=hx
    have hbx : 0 + ns.length * 1 = (texts ns).length:=by rw [texts_len]; omega
    refine pa [.d 3 5 [] (fun σ => rdB v l q3 e b d 0 :: σ.tail) [.str t3]] rfl ?_ ?_
    ·(repeat' with_reducible apply AllP_cons) <;> try exact aC
     ·exact ⟨_,hK,rfl⟩
     ·show (ns.length + 1) * 16 ≤ 140737488355328
      omega
    refine S_heap [rdB v l q3 e b d 0,stO2,stX 6 tx (w + 1) (ns ++ [t3]) .nils,namB (w + 1) (ns ++ [t3])] ?_ ?_
    ·show [rdB v l q3 e b d 0,stO2,(0,some (.cells [.int .i64 6,.str tx,.ms 3 (w + 1) 0 (ns.length + 1) 1 false,.int .i64 0,.int .i64 0,.str [],.nils,.nils,.nils,.nils] ⟨false,some 56⟩)),(w + 1,some (.cells (texts ns ++ [.str t3]) ⟨false,none⟩))] = _
     unfold stX namB
     rw [List.length_append,nam_snoc]; rfl
    have hi:=risT v l q3 e b d 0 [[44]] true true [stO2,stX 6 tx (w + 1) (ns ++ [t3]) .nils,namB (w + 1) (ns ++ [t3])] (by decide) hr3 hl
    by_cases c6 : isR [[44]] q3 = true
    ·rw [if_pos c6] at hx
     rw [c6] at hi
     have hwr:=rd_next (isR_ne c6) hr3 hl
     have hwk : IntKind.i64.wrap ((ns.length : Int) + 1) = (((ns ++ [t3]).length : Nat) : Int):=by
      rw [List.length_append,List.length_singleton,IntWalk.i64_in _ ⟨by omega,by omega⟩]; omega
     refine pB [.k (.bool true),.b false] rfl ?_
     refine S_round ⟨G,ns ++ [t3],q3.next,w + 1⟩ (Nat.lt_succ_self _) ⟨by show G ≤ F; omega,next_s hr3,hx,by show (ns ++ [_]).length + G ≤ F; rw [List.length_append,List.length_singleton]; omega⟩ (.cons rfl (.cons rfl (.cons rfl (.cons (by show AV.int .i64 (IntKind.i64.wrap ((ns.length : Int) + 1)) = _; rw [hwk]) (.nil _))))) ?_
     show rdI v l (IntKind.i64.wrap (((l.length - q3.r.length : Nat) : Int) + 1)) q3.f e b d (0 : Nat) :: _ = _
     rw [hwr]; rfl
    ·rw [if_neg c6] at hx
     rw [(Bool.not_eq_true _).mp c6] at hi
     cases hx
     refine pB [.k (.bool false),.b true] rfl ?_
     exact cont (w + 1) _ hr3 (.cons rfl (.cons rfl (.cons rfl (.cons rfl (.nil _)))))
  case rest =>
   intro w hrz
   show S cx _ B _ _ [(0,.ptr 0 v 0),(2,.ptr 1 0 0),(3,.ptr 2 0 0),(65,.ptr 0 v 0)] [rdB v l qz e b d 0,stO2,stX 6 tx w nz .nils,namB w nz]
   have hM:=rsignT v l qz e b d 0 [41] [stO2,stX 6 tx w nz .nils,namB w nz] hrz hl
   have hrm : (signR e [41] qz).r <:+ l:=sign_s hrz
   obtain ⟨q6,hq6⟩ : ∃ q6,q6 = signR e [41] qz:=⟨_,rfl⟩
   rw [← hq6] at hM hrm hx
   cases hx2 : blockR e F b (d + 1) q6 with
   | none => rw [hx2] at hx; cases hx
   | some zz =>
   rw [hx2] at hx
   obtain ⟨ls,q7⟩:=zz
   have hx : some (St.mk 6 tx nz .zero ls [],q7) = some y:=hx
   have hBl:=hB.tail v l q6 e b (d + 1) ls q7 [stO2,stX 6 tx w nz .nils,namB w nz] hrm hl hT hb (by omega) hx2
   have hw : IntKind.i64.wrap ((d : Nat) + 1) = ((d + 1 : Nat) : Int):=by rw [IntWalk.i64_in _ ⟨by omega,by omega⟩]; omega
   have hw1 : IntKind.i64.wrap (((d + 1 : Nat) : Int) - 1) = (d : Int):=by rw [IntWalk.i64_in _ ⟨by omega,by omega⟩]; omega
   refine pB [.f (.tup []) (fun σ => rdB v l q6 e b d 0 :: σ.tail)] rfl ?_
   refine S_heap (rdB v l q6 e b (d + 1) 0 :: [stO2,stX 6 tx w nz .nils,namB w nz]) ?_ ?_
   ·show rdI v l ((l.length - q6.r.length : Nat) : Int) q6.f e b (IntKind.i64.wrap ((d : Nat) + 1)) (0 : Nat) :: _ = _
    rw [hw]; rfl
   refine pB [.f (stsA ls) (fun σ => rdB v l q7 e b (d + 1) 0 :: σ.tail)] rfl ?_
   refine S_heap (rdB v l q7 e b d 0 :: _) (by
    show rdI v l ((l.length - q7.r.length : Nat) : Int) q7.f e b (IntKind.i64.wrap (((d + 1 : Nat) : Int) - 1)) (0 : Nat) :: _ = _
    rw [hw1]; rfl) ?_
   have hy : y = (St.mk 6 tx nz .zero ls [],q7):=(Option.some.inj hx).symm
   rw [hy]
   refine S_ret ⟨_,_,rfl,⟨rfl,trivial⟩,?_⟩
   exact rfin (stFz10 (namFz (by decide) rfl) .nils .nils (lowSt _) .nils)
def Rdf (F : Nat) : Prop:=∀ (v : Nat) (l : List Tok) (q : Rd) (e b d : Nat) (y : St × Rd),q.r <:+ l → l.length ≤ 100000 → (∀ t ∈ l,t.text.length ≤ 6000) → b + F ≤ 3000000 → d + F ≤ 3000000 → defR e F b d q = some y →
 CallOk cx 63 [.ptr 0 v 0] [rdB v l q e b d 0] (fun o s => o = .ret (stA y.1) ∧ s = [rdB v l y.2 e b d 0])
theorem Rdf.tail {F : Nat} (h : Rdf F) (v : Nat) (l : List Tok) (q : Rd) (e b d : Nat) (y : St) (q' : Rd) (τ : Heap) (hr : q.r <:+ l) (hl : l.length ≤ 100000) (hT : ∀ t ∈ l,t.text.length ≤ 6000) (hb : b + F ≤ 3000000) (hd : d + F ≤ 3000000) (hx : defR e F b d q = some (y,q')) :
  CallOk cx 63 [.ptr 0 v 0] (rdB v l q e b d 0 :: τ) (fun o s => o = .ret (stA y) ∧ s = rdB v l q' e b d 0 :: τ) :=
 rT (h v l q e b d (y,q') hr hl hT hb hd hx) (stA_free _) (by simp) τ
theorem stmtsR_go {e F b d : Nat} {l : List St} {q : Rd} {y : List St × Rd} (h : ¬ (lkK q = 0 ∨ lkK q = 8)) (hx : stmtsR e F b d l q = some y) : ∃ G,F = G + 1 ∧ (stmtR e G b d q).bind (fun s => stmtsR e G b d (l ++ [s.1]) s.2) = some y:=by
 cases F with
 | zero => unfold stmtsR at hx; rw [if_neg h] at hx; cases hx
 | succ G => rw [stmtsR,if_neg h] at hx; exact ⟨G,rfl,hx⟩
theorem stmtsR_end {e F b d : Nat} {l : List St} {q : Rd} (h : lkK q = 0 ∨ lkK q = 8) : stmtsR e F b d l q = some (l,q):=by
 cases F with
 | zero => unfold stmtsR; rw [if_pos h]
 | succ G => rw [stmtsR,if_pos h]
structure RssSt where
 F : Nat
 l : List St
 q : Rd
 w : Nat
theorem rstmts_ok (F : Nat) (hF0 : F ≤ 3000000) (hs : ∀ F',F' < F → Rst 39 stmtR F') : Rss F:=fun v l q e b d y hr hl hT hb hd hx =>
 callOk_introT (fun a w => Tryz.call24 a w) Tryz.func24 rfl Tryz.ntmps24 rfl fun B => by
  refine pB [] rfl ?_
  refine S_ghostF (t:=3) 10 ⟨false,none⟩ rfl rfl ⟨_,_,.inl rfl⟩ ?_
  refine S_while (α:=RssSt) (fun p => [(0,.ptr 0 v 0),(3,.ms 1 p.w 0 p.l.length 10 false)]) (fun p => [rdB v l p.q e b d 0,stB p.w p.l])
   (fun p => p.F ≤ F ∧ p.q.r <:+ l ∧ stmtsR e p.F b d p.l p.q = some y ∧ p.l.length + p.F ≤ F) (fun p => p.F) ⟨F,[],q,0⟩ ⟨Nat.le_refl _,hr,hx,by show 0 + F ≤ F; omega⟩ (.cons rfl (.cons rfl (.nil _))) rfl ?_
  clear hx hr
  rintro ⟨F1,ls,q,w⟩ ⟨hF1,hr,hx,hls⟩
  have hF1 : F1 ≤ F:=hF1
  have hr : q.r <:+ l:=hr
  have hx : stmtsR e F1 b d ls q = some y:=hx
  have hls : ls.length + F1 ≤ F:=hls
  show S cx _ B _ _ [(0,.ptr 0 v 0),(3,.ms 1 w 0 ls.length 10 false)] [rdB v l q e b d 0,stB w ls]
  have hlk:=rlookT v l q e b d 0 [stB w ls] hr hl
  by_cases c : lkK q = 0 ∨ lkK q = 8
  ·rw [stmtsR_end c] at hx
   cases hx
   obtain ⟨t,ht⟩ : ∃ t,t = lkT q:=⟨_,rfl⟩
   rw [← ht] at hlk
   rcases c with c | c
   ·rw [c] at hlk
    refine pB [.k (lookA 0 t),.b true,.b true] rfl ?_
    refine S_ret ⟨_,_,rfl,trivial,?_⟩
    exact rfin (stFz (by decide) rfl)
   ·rw [c] at hlk
    refine pB [.k (lookA 8 t),.b false,.b true] rfl ?_
    refine S_ret ⟨_,_,rfl,trivial,?_⟩
    exact rfin (stFz (by decide) rfl)
  obtain ⟨G,rfl,hx'⟩:=stmtsR_go c hx
  clear hx
  have hx:=hx'
  clear hx'
  obtain ⟨k0,hk0⟩ : ∃ k,k = lkK q:=⟨_,rfl⟩
  rw [← hk0] at hlk c
  have e0 : ((k0 : Int) == 0) = false:=beq_false_of_ne (by omega)
  have e8 : ((k0 : Int) == 8) = false:=beq_false_of_ne (by omega)
  cases hx1 : stmtR e G b d q with
  | none => rw [hx1] at hx; cases hx
  | some z =>
  rw [hx1] at hx
  have hr1:=(allRS e l G).stmt _ _ _ hr _ hx1
  obtain ⟨⟨sk,st,sn,⟨xk,xn,xt,xs,xm⟩,sb,se⟩,q1⟩:=z
  have hx : stmtsR e G b d (ls ++ [.mk sk st sn (.mk xk xn xt xs xm) sb se]) q1 = some y:=hx
  have h2:=(hs G (by omega)).tail v l q e b d _ q1 [stB w ls] hr hl hT (by omega) (by omega) hx1
  have hbx : 0 + ls.length * 10 = (stF ls).length:=by rw [stF_len]; omega
  refine pa [.k (lookA k0 (lkT q)),.b false,.b false,.f (stA (.mk sk st sn (.mk xk xn xt xs xm) sb se)) (fun σ => rdB v l q1 e b d 0 :: σ.tail)] rfl ?_ ?_
  ·(repeat' with_reducible apply AllP_cons) <;> try exact aC
   show (ls.length + 1) * 176 ≤ 140737488355328
   omega
  refine S_round ⟨G,ls ++ [.mk sk st sn (.mk xk xn xt xs xm) sb se],q1,w + 1⟩ (Nat.lt_succ_self _) ⟨by show G ≤ F; omega,hr1,hx,by show (ls ++ [_]).length + G ≤ F; rw [List.length_append,List.length_singleton]; omega⟩ ?_ ?_
  ·refine .cons rfl (.cons ?_ (.nil _))
   show AV.ms 1 (w + 1) 0 (ls.length + 1) 10 false = .ms 1 (w + 1) 0 (ls ++ [_]).length 10 false
   rw [List.length_append]; rfl
  ·show _ = [rdB v l q1 e b d 0,stB (w + 1) (ls ++ [.mk sk st sn (.mk xk xn xt xs xm) sb se])]
   unfold stB
   rw [stF_snoc]; rfl
theorem wd_ne {q : Rd} {w : List UInt8} (h : wd q = w) (hw : w ≠ []) : q.r ≠ []:=by
 unfold wd at h
 split at h
 ·rename_i hk; exact lkK_ne hk (by decide)
 ·exact absurd h.symm hw
def stBx (s : St) : Nat × Option Box:=match s with
 | .mk k t ns (.mk xk xn xt xs xm) b e => (0,some (.cells [.int .i64 (k : Nat),.str t,.sl true false 1 (texts ns),.int .i64 (xk : Nat),.int .i64 (xn : Nat),.str xt,.sl true false 5 (exL xs),.sl true false 1 (texts xm),stsA b,stsA e] ⟨false,some 56⟩))
theorem rstmt_ok (F : Nat) (hF : F ≤ 3000000) (hD : Rdf F) (hB : Rbl F) : Rst 39 stmtR (F + 1):=fun v l q e b d y hr hl hT hb hd hx =>
 callOk_introT (fun a w => Tryz.call39 a w) Tryz.func39 rfl Tryz.ntmps39 rfl fun B => by
  rw [stmtR] at hx
  have hlk:=rlookT v l q e b d 0 [stO2] hr hl
  obtain ⟨k0,hk0⟩ : ∃ k,k = lkK q:=⟨_,rfl⟩
  obtain ⟨w,hw⟩ : ∃ w,w = wd q:=⟨_,rfl⟩
  refine' S_share [(0,.ptr 0 v 0),(2,.ptr 1 0 0),(3,.int .i64 (k0 : Nat)),(4,.str w),(21,.str w),(22,.bool (w == wDef))] [rdB v l q e b d 0,stO2] (fun cont => ?main) ?rest
  case main =>
   unfold wd at hw
   by_cases k5 : lkK q = 5
   ·rw [if_pos k5] at hw
    have hlk2:=hlk
    rw [← hw,k5] at hlk2
    have hk5 : k0 = 5:=by rw [hk0,k5]
    refine pB [.k (lookA 5 w),.b false] rfl ?_
    exact cont _ (.cons rfl (.cons rfl (.cons (by rw [hk5]; rfl) (.cons rfl (.cons rfl (.cons rfl (.nil _)))))))
   ·rw [if_neg k5] at hw
    have hlk2:=hlk
    rw [← hk0] at hlk2 k5
    have e5 : ((k0 : Int) != 5) = true:=bne_iff_ne.2 (by omega)
    refine pB [.k (lookA k0 (lkT q)),.b true] rfl ?_
    refine cont _ ?_
    exact .cons rfl (.cons rfl (.cons rfl (.cons (by rw [hw]; rfl) (.cons (by rw [hw]; rfl) (.cons (by rw [hw]; rfl) (.nil _))))))
  case rest =>
  rw [← hw] at hx
  by_cases c1 : w = wDef
  ·rw [if_pos c1] at hx
   subst c1
   obtain ⟨⟨sk,st,sn,⟨xk,xn,xt,xs,xm⟩,sb,se⟩,q1⟩:=y
   have h2:=hD.tail v l q e b d _ q1 [stO2] hr hl hT (by omega) (by omega) hx
   refine pB [.b true,.f (stA (.mk sk st sn (.mk xk xn xt xs xm) sb se)) (fun σ => rdB v l q1 e b d 0 :: σ.tail)] rfl ?_
   refine S_ret ⟨_,_,rfl,⟨rfl,trivial⟩,?_⟩
   exact rfin (stFz10 (lowTx _) (lowEx _) (lowTx _) (lowSt _) (lowSt _))
  rw [if_neg c1] at hx
  have b1 : (w == wDef) = false:=beq_false_of_ne c1
  by_cases c2 : w = wIf
  ·rw [if_pos c2] at hx
   subst c2
   have hne:=wd_ne hw.symm (by decide)
   have hwr:=rd_next hne hr hl
   cases hx1 : exprR e F 0 q.next with
   | none => rw [hx1] at hx; cases hx
   | some z =>
   rw [hx1] at hx
   have hr1:=(allR e l F).expr _ _ (next_s hr) _ hx1
   obtain ⟨⟨xk,xn,xt,xs,xm⟩,q1⟩:=z
   have hr1 : q1.r <:+ l:=hr1
   have hx : (blockR e F b d q1).bind (fun l => if isR [wElse] l.2 then (blockR e F b d l.2.next).bind fun m => some (.mk 7 [] [] (.mk xk xn xt xs xm) l.1 m.1,m.2) else some (.mk 7 [] [] (.mk xk xn xt xs xm) l.1 [],l.2)) = some y:=hx
   have h2:=rexprT F v l q.next e b d 0 _ q1 [stO2] (next_s hr) hl (by omega) hx1
   cases hx2 : blockR e F b d q1 with
   | none => rw [hx2] at hx; cases hx
   | some z =>
   rw [hx2] at hx
   have hr2:=(allRS e l F).block _ _ _ hr1 _ hx2
   obtain ⟨ls,q2⟩:=z
   have hr2 : q2.r <:+ l:=hr2
   have hx : (if isR [wElse] q2 then (blockR e F b d q2.next).bind fun m => some (.mk 7 [] [] (.mk xk xn xt xs xm) ls m.1,m.2) else some (.mk 7 [] [] (.mk xk xn xt xs xm) ls [],q2)) = some y:=hx
   have h3:=fun τ => hB.tail v l q1 e b d ls q2 τ hr1 hl hT (by omega) (by omega) hx2
   have hi:=fun τ => risT v l q2 e b d 0 [wElse] true true τ (by decide) hr2 hl
   refine pB [.b false,.b true] rfl ?_
   refine S_heap (rdB v l q.next e b d 0 :: [stO2]) ?_ ?_
   ·show rdI v l (IntKind.i64.wrap (((l.length - q.r.length : Nat) : Int) + 1)) q.f e b d (0 : Nat) :: _ = _
    rw [hwr]; rfl
   by_cases c3 : isR [wElse] q2 = true
   ·rw [if_pos c3] at hx
    rw [c3] at hi
    have hwr2:=rd_next (isR_ne c3) hr2 hl
    cases hx3 : blockR e F b d q2.next with
    | none => rw [hx3] at hx; cases hx
    | some z =>
    rw [hx3] at hx
    obtain ⟨ms,q3⟩:=z
    cases hx
    have h4:=fun τ => hB.tail v l q2.next e b d ms q3 τ (next_s hr2) hl hT (by omega) (by omega) hx3
    refine pa [.f (exA (.mk xk xn xt xs xm)) (fun σ => rdB v l q1 e b d 0 :: σ.tail),.f (stsA ls) (fun σ => rdB v l q2 e b d 0 :: σ.tail),.k (.bool true),.b true] rfl ?_ ?_
    ·(repeat' with_reducible apply AllP_cons) <;> try exact aC
     ·exact h3 _
     ·exact hi _
    refine S_heap (rdB v l q2.next e b d 0 :: _) (by
     show rdI v l (IntKind.i64.wrap (((l.length - q2.r.length : Nat) : Int) + 1)) q2.f e b d (0 : Nat) :: _ = _
     rw [hwr2]; rfl) ?_
    refine pa [.f (stsA ms) (fun σ => rdB v l q3 e b d 0 :: σ.tail)] rfl ?_ ?_
    ·(repeat' with_reducible apply AllP_cons) <;> try exact aC
     exact h4 _
    refine S_ret ⟨_,_,rfl,⟨rfl,trivial⟩,?_⟩
    exact rfin (stFz10 .nils (lowEx _) (lowTx _) (lowSt _) (lowSt _))
   ·rw [if_neg c3] at hx
    rw [(Bool.not_eq_true _).mp c3] at hi
    cases hx
    refine pa [.f (exA (.mk xk xn xt xs xm)) (fun σ => rdB v l q1 e b d 0 :: σ.tail),.f (stsA ls) (fun σ => rdB v l q2 e b d 0 :: σ.tail),.k (.bool false),.b false] rfl ?_ ?_
    ·(repeat' with_reducible apply AllP_cons) <;> try exact aC
     ·exact h3 _
     ·exact hi _
    refine S_ret ⟨_,_,rfl,⟨rfl,trivial⟩,?_⟩
    exact rfin (stFz10 .nils (lowEx _) (lowTx _) (lowSt _) .nils)
  rw [if_neg c2] at hx
  have b2 : (w == wIf) = false:=beq_false_of_ne c2
  by_cases c3 : w = wFor
  ·rw [if_pos c3] at hx
   subst c3
   have hne:=wd_ne hw.symm (by decide)
   have hwr:=rd_next hne hr hl
   have h2:=rkindT v l q.next e b d 0 1 [stO2] (by decide) (next_s hr) hl
   have hr2 : (kindR e 1 q.next).2.r <:+ l:=kind_s (next_s hr)
   obtain ⟨xx,hxx⟩ : ∃ xx,xx = kindR e 1 q.next:=⟨_,rfl⟩
   rw [← hxx] at h2 hr2 hx
   obtain ⟨t2,q2⟩:=xx
   have hr2 : q2.r <:+ l:=hr2
   have hx : (exprR e F 0 (signR e wIn q2)).bind (fun x => (blockR e F b d x.2).bind fun l => some (.mk 8 t2 [] x.1 l.1 [],l.2)) = some y:=hx
   have h3:=fun τ => rsignT v l q2 e b d 0 wIn τ hr2 hl
   have hr3 : (signR e wIn q2).r <:+ l:=sign_s hr2
   obtain ⟨q3,hq3⟩ : ∃ q3,q3 = signR e wIn q2:=⟨_,rfl⟩
   rw [← hq3] at h3 hr3 hx
   cases hx1 : exprR e F 0 q3 with
   | none => rw [hx1] at hx; cases hx
   | some z =>
   rw [hx1] at hx
   have hr4:=(allR e l F).expr _ _ hr3 _ hx1
   obtain ⟨⟨xk,xn,xt,xs,xm⟩,q4⟩:=z
   have hr4 : q4.r <:+ l:=hr4
   have hx : (blockR e F b d q4).bind (fun l => some (.mk 8 t2 [] (.mk xk xn xt xs xm) l.1 [],l.2)) = some y:=hx
   have h4:=fun τ => rexprT F v l q3 e b d 0 _ q4 τ hr3 hl (by omega) hx1
   cases hx2 : blockR e F b d q4 with
   | none => rw [hx2] at hx; cases hx
   | some z =>
   rw [hx2] at hx
   obtain ⟨ls,q5⟩:=z
   cases hx
   have h5:=fun τ => hB.tail v l q4 e b d ls q5 τ hr4 hl hT (by omega) (by omega) hx2
   refine pB [.b false,.b false,.b true] rfl ?_
   refine S_heap (rdB v l q.next e b d 0 :: [stO2]) ?_ ?_
   ·show rdI v l (IntKind.i64.wrap (((l.length - q.r.length : Nat) : Int) + 1)) q.f e b d (0 : Nat) :: _ = _
    rw [hwr]; rfl
   refine pa [.f (.str t2) (fun σ => rdB v l q2 e b d 0 :: σ.tail),.f (.tup []) (fun σ => rdB v l q3 e b d 0 :: σ.tail),.f (exA (.mk xk xn xt xs xm)) (fun σ => rdB v l q4 e b d 0 :: σ.tail),.f (stsA ls) (fun σ => rdB v l q5 e b d 0 :: σ.tail)] rfl ?_ ?_
   ·(repeat' with_reducible apply AllP_cons) <;> try exact aC
    ·exact h3 _
    ·exact h4 _
    ·exact h5 _
   refine S_ret ⟨_,_,rfl,⟨rfl,trivial⟩,?_⟩
   exact rfin (stFz10 .nils (lowEx _) (lowTx _) (lowSt _) .nils)
  rw [if_neg c3] at hx
  have b3 : (w == wFor) = false:=beq_false_of_ne c3
  have hlk1:=rlook1T v l q e b d 0 [stO2,stO2] hr hl
  obtain ⟨k2,hk2⟩ : ∃ k,k = lkK1 q:=⟨_,rfl⟩
  obtain ⟨t2,ht2⟩ : ∃ t,t = lkT1 q:=⟨_,rfl⟩
  rw [← hk2,← ht2] at hlk1
  cases hx1 : smallR e F d b q with
  | none => rw [hx1] at hx; cases hx
  | some z =>
  rw [hx1] at hx
  have hr9:=(smallR_s e l F d b q hr) _ hx1
  obtain ⟨s9,q9⟩:=z
  have hr9 : q9.r <:+ l:=hr9
  have hx : some (s9,(kindR e 6 q9).2) = some y:=hx
  have hnm : nameR q = (k0 == 1 && k2 == 4 && t2 == [61]):=by unfold nameR; rw [hk0,hk2,ht2]
  unfold smallR at hx1
  rw [← hw,hnm] at hx1
  refine' S_shareR [(0,.ptr 0 v 0),(2,.ptr 1 0 0),(7,.ptr 2 0 0),(156,.ptr 0 v 0)] [rdB v l q9 e b d 0,stO2,stBx s9] (fun cont => ?main) ?rest
  case main =>
   refine pB [.b false,.b false,.b false,.k (lookA k2 t2),.k (lookA k2 t2)] rfl ?_
   by_cases d1 : w = wPass
   ·rw [if_pos d1] at hx1
    have hwr:=rd_next (wd_ne (hw.symm.trans d1) (by decide)) hr hl
    have bb : (w == wPass) = true:=by rw [d1]; decide
    have hx1:=Option.some.inj hx1
    have hs9 : s9 = .mk 1 [] [] .zero [] []:=(Prod.mk.inj hx1).1.symm
    have hq9 : q9 = q.next:=(Prod.mk.inj hx1).2.symm
    refine pB [.b true] rfl ?_
    refine S_heap (rdB v l q.next e b d 0 :: [stO2,(0,some (.cells [.int .i64 1,.str [],.nils,.int .i64 0,.int .i64 0,.str [],.nils,.nils,.nils,.nils] ⟨false,some 56⟩))]) (by
     show rdI v l (IntKind.i64.wrap (((l.length - q.r.length : Nat) : Int) + 1)) q.f e b d (0 : Nat) :: _ = _
     rw [hwr]; rfl) ?_
    refine S_wkB 2 [.int .i64 1,.str [],.sl true false 1 [],.int .i64 0,.int .i64 0,.str [],.sl true false 5 [],.sl true false 1 [],.sl true false 10 [],.sl true false 10 []] rfl (.cons .refl (.cons .refl (.cons .nils (.cons .refl (.cons .refl (.cons .refl (.cons .nils (.cons .nils (.cons .nils (.cons .nils .nil)))))))))) ⟨.skip,_,.inr ⟨_,_,_,rfl⟩⟩ ?_
    refine S_heap [rdB v l q9 e b d 0,stO2,stBx s9] (by rw [hs9,hq9]; rfl) ?_
    exact cont _ (.cons rfl (.cons rfl (.cons rfl (.cons rfl (.nil _)))))
   rw [if_neg d1] at hx1
   have b4 : (w == wPass) = false:=beq_false_of_ne d1
   by_cases d2 : w = wReturn
   ·rw [if_pos d2] at hx1
    have hne:=wd_ne (hw.symm.trans d2) (by decide)
    have bb : (w == wReturn) = true:=by rw [d2]; decide
    obtain ⟨q0,hq0⟩ : ∃ q0,q0 = if d = 0 then failR e 4 q else q:=⟨_,rfl⟩
    rw [← hq0] at hx1
    have hr0 : q0.r <:+ l:=by rw [hq0]; exact ite_s (fail_s hr) hr
    have hqr : q0.r = q.r:=by rw [hq0]; split; exact fail_r; rfl
    have hwr:=rd_next (by rw [hqr]; exact hne) hr0 hl
    refine' S_shareU [(0,.ptr 0 v 0),(2,.ptr 1 0 0),(7,.ptr 2 0 0)] (fun _ : Unit => [rdB v l q0 e b d 0,stO2,stO2]) (fun _ => True) (fun cont2 => ?main2) ?rest2
    case main2 =>
     by_cases d0 : d = 0
     ·rw [if_pos d0] at hq0
      have e0 : ((d : Int) == 0) = true:=by rw [d0]; rfl
      have hf:=rfailT v l q e b d 0 4 [stO2,stO2] hr hl
      rw [← hq0] at hf
      refine pB [.b false,.b true,.b true,.f (.tup []) (fun σ => rdB v l q0 e b d 0 :: σ.tail),.s] rfl ?_
      exact cont2 () _ trivial (.cons rfl (.cons rfl (.cons rfl (.nil _))))
     ·rw [if_neg d0] at hq0
      have e0 : ((d : Int) == 0) = false:=beq_false_of_ne (by omega)
      refine pB [.b false,.b true,.b false,.s] rfl ?_
      rw [← hq0]
      exact cont2 () _ trivial (.cons rfl (.cons rfl (.cons rfl (.nil _))))
    case rest2 =>
    rintro _ _
    have hlk3:=fun τ => rlookT v l q0.next e b d 0 τ (next_s hr0) hl
    refine pB [] rfl ?_
    refine S_heap (rdB v l q0.next e b d 0 :: _) (by
     show rdI v l (IntKind.i64.wrap (((l.length - q0.r.length : Nat) : Int) + 1)) q0.f e b d (0 : Nat) :: _ = _
     rw [hwr]; rfl) ?_
    by_cases k6 : lkK q0.next = 6
    ·have hx1 : (if lkK q0.next ≠ 6 then _ else some (St.mk 2 [] [] (.mk 1 0 [] [] []) [] [],q0.next)) = some (s9,q9):=hx1
     rw [if_neg (fun h => h k6)] at hx1
     cases hx1
     rw [k6] at hlk3
     refine pa [.k (lookA 6 (lkT q0.next)),.b false] rfl ?_ ?_
     ·(repeat' with_reducible apply AllP_cons) <;> try exact aC
      exact hlk3 _
     refine S_wkB 2 [.int .i64 2,.str [],.sl true false 1 [],.int .i64 1,.int .i64 0,.str [],.sl true false 5 [],.sl true false 1 [],.sl true false 10 [],.sl true false 10 []] rfl (.cons .refl (.cons .refl (.cons .nils (.cons .refl (.cons .refl (.cons .refl (.cons .nils (.cons .nils (.cons .nils (.cons .nils .nil)))))))))) ⟨.skip,_,.inr ⟨_,_,_,rfl⟩⟩ ?_
     exact cont _ (.cons rfl (.cons rfl (.cons rfl (.cons rfl (.nil _)))))
    ·have hx1 : (if lkK q0.next ≠ 6 then (exprR e F 0 q0.next).bind fun x => some (St.mk 2 [] [] x.1 [] [],x.2) else some (St.mk 2 [] [] (.mk 1 0 [] [] []) [] [],q0.next)) = some (s9,q9):=hx1
     rw [if_pos k6] at hx1
     cases hx2 : exprR e F 0 q0.next with
     | none => rw [hx2] at hx1; cases hx1
     | some z =>
     rw [hx2] at hx1
     obtain ⟨⟨xk,xn,xt,xs,xm⟩,q1⟩:=z
     cases hx1
     have h2:=fun τ => rexprT F v l q0.next e b d 0 _ q1 τ (next_s hr0) hl (by omega) hx2
     obtain ⟨k9,hk9⟩ : ∃ k,k = lkK q0.next:=⟨_,rfl⟩
     rw [← hk9] at hlk3 k6
     have e6 : ((k9 : Int) != 6) = true:=bne_iff_ne.2 (by omega)
     refine pa [.k (lookA k9 (lkT q0.next)),.b true,.f (exA (.mk xk xn xt xs xm)) (fun σ => rdB v l q1 e b d 0 :: σ.tail)] rfl ?_ ?_
     ·(repeat' with_reducible apply AllP_cons) <;> try exact aC
      ·exact hlk3 _
      ·exact h2 _
     refine S_wkB 2 [.int .i64 2,.str [],.sl true false 1 [],.int .i64 (xk : Nat),.int .i64 (xn : Nat),.str xt,.sl true false 5 (exL xs),.sl true false 1 (texts xm),.sl true false 10 [],.sl true false 10 []] rfl (.cons .refl (.cons .refl (.cons .nils (.cons .refl (.cons .refl (.cons .refl (.cons .refl (.cons .refl (.cons .nils (.cons .nils .nil)))))))))) ⟨.skip,_,.inr ⟨_,_,_,rfl⟩⟩ ?_
     exact cont _ (.cons rfl (.cons rfl (.cons rfl (.cons rfl (.nil _)))))
   rw [if_neg d2] at hx1
   have b5 : (w == wReturn) = false:=beq_false_of_ne d2
   by_cases d3 : w = wLoad
   ·rw [if_pos d3] at hx1
    have bb : (w == wLoad) = true:=by rw [d3]; decide
    obtain ⟨sk,st,sn,⟨xk,xn,xt,xs,xm⟩,sb,se⟩:=s9
    have h2 : CallOk cx 69 [.ptr 0 v 0] (rdB v l q e b d 0 :: [stO2,stO2]) _:=rT (rload_ok F v l q e b d 0 _ hF hr hl hT hx1) (stA_free _) (by simp) [stO2,stO2]
    refine pB [.b false,.b false,.b true,.f (stA (.mk sk st sn (.mk xk xn xt xs xm) sb se)) (fun σ => rdB v l q9 e b d 0 :: σ.tail)] rfl ?_
    exact cont _ (.cons rfl (.cons rfl (.cons rfl (.cons rfl (.nil _)))))
   rw [if_neg d3] at hx1
   have b6 : (w == wLoad) = false:=beq_false_of_ne d3
   by_cases c4 : (k0 == 1 && k2 == 4 && t2 == [61]) = true
   ·rw [if_pos c4] at hx1
    have hc4:=c4
    simp only [Bool.and_eq_true,beq_iff_eq] at hc4
    obtain ⟨⟨z1,z4⟩,z5⟩:=hc4
    have h2:=rkindT v l q e b d 0 1 [stO2,stO2] (by decide) hr hl
    have hr2 : (kindR e 1 q).2.r <:+ l:=kind_s hr
    obtain ⟨xx,hxx⟩ : ∃ xx,xx = kindR e 1 q:=⟨_,rfl⟩
    have hx1 : (exprR e F 0 (signR e [61] (kindR e 1 q).2)).bind (fun y => some (.mk 3 (kindR e 1 q).1 [] y.1 [] [],y.2)) = some (s9,q9):=hx1
    rw [← hxx] at h2 hr2 hx1
    obtain ⟨t3,q3⟩:=xx
    have hr2 : q3.r <:+ l:=hr2
    have hx1 : (exprR e F 0 (signR e [61] q3)).bind (fun y => some (.mk 3 t3 [] y.1 [] [],y.2)) = some (s9,q9):=hx1
    have h3:=fun τ => rsignT v l q3 e b d 0 [61] τ hr2 hl
    have hr3 : (signR e [61] q3).r <:+ l:=sign_s hr2
    obtain ⟨q4,hq4⟩ : ∃ q4,q4 = signR e [61] q3:=⟨_,rfl⟩
    rw [← hq4] at h3 hr3 hx1
    cases hx2 : exprR e F 0 q4 with
    | none => rw [hx2] at hx1; cases hx1
    | some z =>
    rw [hx2] at hx1
    obtain ⟨⟨xk,xn,xt,xs,xm⟩,q1⟩:=z
    cases hx1
    have h4:=fun τ => rexprT F v l q4 e b d 0 _ q1 τ hr3 hl (by omega) hx2
    subst z1; subst z4; subst z5
    refine pa [.b false,.b false,.b false,.b true,.b true,.b true,.f (.str t3) (fun σ => rdB v l q3 e b d 0 :: σ.tail),.f (.tup []) (fun σ => rdB v l q4 e b d 0 :: σ.tail),.f (exA (.mk xk xn xt xs xm)) (fun σ => rdB v l q1 e b d 0 :: σ.tail)] rfl ?_ ?_
    ·(repeat' with_reducible apply AllP_cons) <;> try exact aC
     ·exact h3 _
     ·exact h4 _
    refine S_wkB 2 [.int .i64 3,.str t3,.sl true false 1 [],.int .i64 (xk : Nat),.int .i64 (xn : Nat),.str xt,.sl true false 5 (exL xs),.sl true false 1 (texts xm),.sl true false 10 [],.sl true false 10 []] rfl (.cons .refl (.cons .refl (.cons .nils (.cons .refl (.cons .refl (.cons .refl (.cons .refl (.cons .refl (.cons .nils (.cons .nils .nil)))))))))) ⟨.skip,_,.inr ⟨_,_,_,rfl⟩⟩ ?_
    exact cont _ (.cons rfl (.cons rfl (.cons rfl (.cons rfl (.nil _)))))
   rw [if_neg c4] at hx1
   cases hx2 : exprR e F 0 q with
   | none => rw [hx2] at hx1; cases hx1
   | some z =>
   rw [hx2] at hx1
   obtain ⟨⟨xk,xn,xt,xs,xm⟩,q1⟩:=z
   cases hx1
   have h4:=rexprT F v l q e b d 0 _ q1 [stO2,stO2] hr hl (by omega) hx2
   refine' S_shareR [(0,.ptr 0 v 0),(2,.ptr 1 0 0),(7,.ptr 2 0 0)] [rdB v l q e b d 0,stO2,stO2] (fun cont3 => ?main3) ?rest3
   case main3 =>
    by_cases z1 : k0 = 1
    ·have e1 : ((k0 : Int) == 1) = true:=by rw [z1]; rfl
     by_cases z4 : k2 = 4
     ·have e4 : ((k2 : Int) == 4) = true:=by rw [z4]; rfl
      have e5 : (t2 == [61]) = false:=by
       cases hh : (t2 == [61]) with
       | false => rfl
       | true => exact absurd (by rw [z1,z4,hh]; rfl) c4
      refine pB [.b false,.b false,.b false,.b true,.b true,.b false,.s] rfl ?_
      exact cont3 _ (.cons rfl (.cons rfl (.cons rfl (.nil _))))
     ·have e4 : ((k2 : Int) == 4) = false:=beq_false_of_ne (by omega)
      refine pB [.b false,.b false,.b false,.b true,.b false,.b false,.s] rfl ?_
      exact cont3 _ (.cons rfl (.cons rfl (.cons rfl (.nil _))))
    ·have e4 : ((k0 : Int) == 1) = false:=beq_false_of_ne (by omega)
     refine pB [.b false,.b false,.b false,.b false,.b false,.b false,.s] rfl ?_
     exact cont3 _ (.cons rfl (.cons rfl (.cons rfl (.nil _))))
   case rest3 =>
    refine pB [.f (exA (.mk xk xn xt xs xm)) (fun σ => rdB v l q1 e b d 0 :: σ.tail)] rfl ?_
    refine S_wkB 2 [.int .i64 5,.str [],.sl true false 1 [],.int .i64 (xk : Nat),.int .i64 (xn : Nat),.str xt,.sl true false 5 (exL xs),.sl true false 1 (texts xm),.sl true false 10 [],.sl true false 10 []] rfl (.cons .refl (.cons .refl (.cons .nils (.cons .refl (.cons .refl (.cons .refl (.cons .refl (.cons .refl (.cons .nils (.cons .nils .nil)))))))))) ⟨.skip,_,.inr ⟨_,_,_,rfl⟩⟩ ?_
    exact cont _ (.cons rfl (.cons rfl (.cons rfl (.cons rfl (.nil _)))))
  case rest =>
   obtain ⟨sk,st,sn,⟨xk,xn,xt,xs,xm⟩,sb,se⟩:=s9
   have h6:=rkindT v l q9 e b d 0 6 [stO2,stBx (.mk sk st sn (.mk xk xn xt xs xm) sb se)] (by decide) hr9 hl
   cases hx
   refine pB [.f (.str (kindR e 6 q9).1) (fun σ => rdB v l (kindR e 6 q9).2 e b d 0 :: σ.tail)] rfl ?_
   refine S_ret ⟨_,_,rfl,⟨rfl,trivial⟩,?_⟩
   exact rfin (stFz10 (lowTx _) (lowEx _) (lowTx _) (lowSt _) (lowSt _))
def TokK (t : Tok) : Prop:=1 ≤ t.kind ∧ (t.kind = 4 → t.text ∈ signs18)
theorem hdK_nil {r : List Tok} (hr : ∀ t ∈ r,TokK t) (h : hdK r = 0) : r = []:=by
 cases r with
 | nil => rfl
 | cons t u =>
  have h : t.kind = 0:=h
  have:=(hr t (List.mem_cons_self ..)).1
  omega
def kWords : List (List UInt8):=[wDef,wIf,wFor,wPass,wReturn,wLoad]
theorem wd_is {r : List Tok} {w : List UInt8} (hr : ∀ t ∈ r,TokK t) (hw : w ∈ kWords) : wd ⟨r,(0,0)⟩ = w ↔ isS w r = true:=by
 have hne : w ≠ []:=by rintro rfl; revert hw; decide
 have hns : w ∉ signs18:=by
  have : ∀ w ∈ kWords,w ∉ signs18:=by decide
  exact this w hw
 show (if hdK r = 5 then hdT r else []) = w ↔ _
 unfold isS
 constructor
 ·intro h
  split at h
  ·rename_i h5; rw [h5,h]; simp
  ·exact absurd h.symm hne
 ·intro h
  simp only [Bool.and_eq_true,Bool.or_eq_true,beq_iff_eq] at h
  obtain ⟨h4 | h5,ht⟩:=h
  ·exfalso
   cases r with
   | nil => cases h4
   | cons t u =>
    have:=(hr t (List.mem_cons_self ..)).2 h4
    have ht : t.text = w:=ht
    rw [ht] at this
    exact hns this
  ·rw [if_pos h5]; exact ht
theorem isS_wd {r : List Tok} {w : List UInt8} (hr : ∀ t ∈ r,TokK t) (hw : w ∈ kWords) {α : Type} {a b : α} : (if wd ⟨r,(0,0)⟩ = w then a else b) = if isS w r then a else b:=by
 by_cases h : isS w r = true
 ·rw [if_pos h,if_pos ((wd_is hr hw).2 h)]
 ·rw [if_neg h,if_neg (fun h' => h ((wd_is hr hw).1 h'))]
structure Dead (r : List Tok) : Prop where
 is : ∀ s,isS s r = false
 kind : hdK r ≠ 1 ∧ hdK r ≠ 2 ∧ hdK r ≠ 3
theorem dead_of {r : List Tok} (h : hdK r = 0 ∨ hdK r = 8) : Dead r:=by
 refine ⟨fun s => ?_,by omega⟩
 unfold isS
 rcases h with h | h <;> rw [h] <;> rfl
def DeadP {α : Type} (r : List Tok) (x : Pr α) : Prop:=x = .out ∨ x = .bad 1 r
theorem DeadP.bind {α β : Type} {r : List Tok} {x : Pr α} {f : α → List Tok → Pr β} (h : DeadP r x) : DeadP r (x.bind f):=by
 rcases h with rfl | rfl
 ·exact .inl rfl
 ·exact .inr rfl
theorem atom_dead {r : List Tok} (h : Dead r) (n : Nat) : ∀ F,DeadP r (atomS F n r)
 | 0 => .inl rfl
 | F + 1 => by
  cases r with
  | nil => exact .inr rfl
  | cons t u =>
   have hk:=h.kind
   refine .inr ?_
   rw [atomS]
   rw [if_neg (show ¬ t.kind = 1 from hk.1),if_neg (show ¬ t.kind = 2 from hk.2.1),if_neg (show ¬ t.kind = 3 from hk.2.2),h.is,h.is,h.is,h.is,h.is,h.is]
   rfl
theorem lev_dead {r : List Tok} (h : Dead r) (n : Nat) : ∀ F k,DeadP r (levS F k n r)
 | 0,_ => .inl rfl
 | F + 1,k => by
  match k with
  | 2 => rw [levS_2,h.is,if_neg (by decide)]; exact (lev_dead h n F 3).bind
  | 5 => rw [levS_5,h.is,if_neg (by decide)]; exact (atom_dead h n F).bind
  | 0 => exact (lev_dead h n F 1).bind
  | 1 => exact (lev_dead h n F 2).bind
  | 3 => exact (lev_dead h n F 4).bind
  | 4 => exact (lev_dead h n F 5).bind
  | k + 6 => exact (lev_dead h n F (k + 7)).bind
theorem expr_dead {r : List Tok} (h : Dead r) : ∀ F,DeadP r (exprS F 0 r)
 | 0 => .inl rfl
 | F + 1 => by rw [exprS,if_neg (by decide)]; exact lev_dead h 1 F 0
theorem stmt_dead {r : List Tok} (h : Dead r) (b d : Nat) : ∀ F,DeadP r (stmtS F b d r)
 | 0 => .inl rfl
 | F + 1 => by
  rw [stmtS,h.is,h.is,h.is,if_neg (by decide),if_neg (by decide),if_neg (by decide)]
  unfold smallS
  have hn : nameS r = false:=by
   unfold nameS
   rw [beq_false_of_ne h.kind.1]; rfl
  rw [h.is,h.is,h.is,hn,if_neg (by decide),if_neg (by decide),if_neg (by decide),if_neg (by decide)]
  exact ((expr_dead h F).bind).bind
def Ax (e : Nat) (top : Bool) (x : Pr (List St)) (y : Option (List St × Rd)) : Prop:=match x with
 | .out => True
 | .ok v u => y = some (v,⟨u,(0,0)⟩)
 | .bad k u => k ≠ 0 ∧ ((∃ v w,y = some (v,⟨w,(k,placeS e u)⟩)) ∨ (k = 1 ∧ (if top then hdK u = 8 else u = []) ∧ ∃ v,y = some (v,⟨u,(0,0)⟩)))
theorem param_a (e : Nat) : ∀ (F G : Nat) (ns : List (List UInt8)) (r : List Tok),F ≤ G → (ns.length = 0 → hdK r = 1) → Ag e (paramS F ns r) (paramR e G ns ⟨r,(0,0)⟩)
 | 0,_,_,_,_,_ => trivial
 | F + 1,0,_,_,h,_ => absurd h (by omega)
 | F + 1,G + 1,ns,r,h,hn => by
  rw [paramS]
  show Ag e _ (if ns.length = 0 ∧ hdK r ≠ 1 then some (ns,⟨r,(0,0)⟩)
   else (fun x : List UInt8 × Rd => if isR [[44]] x.2 then paramR e G (ns ++ [x.1]) x.2.next else some (ns ++ [x.1],x.2)) (kindR e 1 (if hdK r = 1 ∧ ns.contains (hdT r) = true then failR e 6 ⟨r,(0,0)⟩ else ⟨r,(0,0)⟩)))
  rw [if_neg (show ¬ (ns.length = 0 ∧ hdK r ≠ 1) from fun h => h.2 (hn h.1))]
  have bp : Bp fun x : List UInt8 × Rd => if isR [[44]] x.2 then paramR e G (ns ++ [x.1]) x.2.next else some (ns ++ [x.1],x.2):=fun v q hq => ⟨ns ++ [v],q.r,by
   show (if isR [[44]] q = true then _ else _) = _
   rw [isR_bad hq,if_neg (by decide)]⟩
  by_cases c : (hdK r == 1 && ns.contains (hdT r)) = true
  ·rw [if_pos c,if_pos (by simpa using c)]
   obtain ⟨z,w,hz⟩:=bp [] (failR e 6 ⟨r,(0,0)⟩) rfl
   refine ⟨by decide,z,w,?_⟩
   rw [kindR_bad (show (failR e 6 ⟨r,(0,0)⟩).bad = true from rfl) (by decide)]
   exact hz
  ·rw [if_neg c,if_neg (by simpa using c)]
   refine Ag.take (by decide) (fun t u _ => ?_) bp
   show Ag e _ (if isR [[44]] ⟨u,(0,0)⟩ then paramR e G (ns ++ [t.text]) ⟨u.tail,(0,0)⟩ else some (ns ++ [t.text],⟨u,(0,0)⟩))
   rw [isR_one]
   refine .ite (fun h1 => ?_) (fun h1 => ?_)
   ·rw [if_pos h1]; exact param_a e F G _ _ (by omega) (fun h => by simp at h)
   ·rw [if_neg h1]; exact .okv
theorem names_a (e : Nat) : ∀ (F G : Nat) (ns : List (List UInt8)) (r : List Tok),F ≤ G → Ag e (namesS F ns r) (namesR e G ns ⟨r,(0,0)⟩)
 | 0,_,_,_,_ => trivial
 | F + 1,0,_,_,h => absurd h (by omega)
 | F + 1,G + 1,ns,r,h => by
  rw [namesS]
  show Ag e _ ((fun x : List UInt8 × Rd => if isR [[44]] x.2 then namesR e G (ns ++ [x.1]) x.2.next else some (ns ++ [x.1],x.2)) (kindR e 3 (if hdK r = 3 ∧ isNm (hdT r) = false then failR e 1 ⟨r,(0,0)⟩ else ⟨r,(0,0)⟩)))
  have bp : Bp fun x : List UInt8 × Rd => if isR [[44]] x.2 then namesR e G (ns ++ [x.1]) x.2.next else some (ns ++ [x.1],x.2):=fun v q hq => ⟨ns ++ [v],q.r,by
   show (if isR [[44]] q = true then _ else _) = _
   rw [isR_bad hq,if_neg (by decide)]⟩
  by_cases c : (hdK r == 3 && !isNm (hdT r)) = true
  ·rw [if_pos c,if_pos (by simpa using c)]
   obtain ⟨z,w,hz⟩:=bp [] (failR e 1 ⟨r,(0,0)⟩) rfl
   refine ⟨by decide,z,w,?_⟩
   rw [kindR_bad (show (failR e 1 ⟨r,(0,0)⟩).bad = true from rfl) (by decide)]
   exact hz
  ·rw [if_neg c,if_neg (by simpa using c)]
   refine Ag.take (by decide) (fun t u _ => ?_) bp
   show Ag e _ (if isR [[44]] ⟨u,(0,0)⟩ then namesR e G (ns ++ [t.text]) ⟨u.tail,(0,0)⟩ else some (ns ++ [t.text],⟨u,(0,0)⟩))
   rw [isR_one]
   refine .ite (fun h1 => ?_) (fun h1 => ?_)
   ·rw [if_pos h1]; exact names_a e F G _ _ (by omega)
   ·rw [if_neg h1]; exact .okv
theorem namesR_bad' {e : Nat} : ∀ {F : Nat} {ns : List (List UInt8)} {q : Rd},q.bad = true → namesR e F ns q = some (ns,q)
 | 0,_,_,h => if_pos h
 | F + 1,_,_,h => by unfold namesR; rw [if_pos h]
theorem paramR_bad' {e : Nat} : ∀ {F : Nat} {ns : List (List UInt8)} {q : Rd},q.bad = true → paramR e F ns q = some (ns,q)
 | 0,_,_,h => if_pos h
 | F + 1,_,_,h => by unfold paramR; rw [if_pos h]
theorem signR_is {e : Nat} {s : List UInt8} {r : List Tok} (h : isS s r = true) : signR e s ⟨r,(0,0)⟩ = ⟨r.tail,(0,0)⟩:=by
 unfold signR; rw [isR_one,if_pos h]; rfl
theorem load_a (e F G b : Nat) (r : List Tok) (h : F ≤ G) (hw : isS wLoad r = true) : Ag e (loadS F b r) (loadR e G b ⟨r,(0,0)⟩):=by
 unfold loadS loadR
 have bp2 : ∀ tx,Bp fun y : List (List UInt8) × Rd => some (St.mk 4 tx y.1 .zero [] [],signR e [41] y.2):=fun tx => bp_some (s:=fun x => signR e [41] x.2) fun v q hq => signR_bad hq
 have bp1 : ∀ tx (q : Rd),q.bad = true → (namesR e G [] q).bind (fun y => some (St.mk 4 tx y.1 .zero [] [],signR e [41] y.2)) = some (.mk 4 tx [] .zero [] [],q):=fun tx q hq => by
  rw [namesR_bad' hq]
  show some (St.mk 4 tx [] .zero [] [],signR e [41] q) = _
  rw [signR_bad hq]
 refine .ite (fun hb => ?_) (fun hb => ?_)
 ·rw [if_pos hb]
  have hq : (failR e 4 ⟨r,(0,0)⟩).bad = true:=rfl
  rw [signR_bad hq,signR_bad hq,kindR_bad hq (by decide)]
  show Ag e _ ((namesR e G [] (signR e [44] (failR e 4 ⟨r,(0,0)⟩))).bind fun y => some (St.mk 4 [] y.1 .zero [] [],signR e [41] y.2))
  rw [signR_bad hq,bp1 _ _ hq]
  exact .badv (by decide)
 ·rw [if_neg hb,signR_is hw]
  refine Ag.step (g:=fun _ q => (namesR e G [] (signR e [44] (kindR e 3 q).2)).bind fun y => some (St.mk 4 (kindR e 3 q).1 y.1 .zero [] [],signR e [41] y.2)) (mustS_a e [40] _) (fun _ u _ => ?_) (fun _ q hq => ⟨_,q.r,by
   show (namesR e G [] (signR e [44] (kindR e 3 q).2)).bind _ = _
   rw [kindR_bad hq (by decide)]
   show (namesR e G [] (signR e [44] q)).bind _ = _
   rw [signR_bad hq]
   exact bp1 _ q hq⟩)
  refine Ag.take (g:=fun x => (namesR e G [] (signR e [44] x.2)).bind fun y => some (St.mk 4 x.1 y.1 .zero [] [],signR e [41] y.2)) (by decide) (fun t u _ => ?_) (fun v q hq => ⟨_,q.r,by
   show (namesR e G [] (signR e [44] q)).bind _ = _
   rw [signR_bad hq]
   exact bp1 _ q hq⟩)
  refine Ag.step (g:=fun _ q => (namesR e G [] q).bind fun y => some (St.mk 4 t.text y.1 .zero [] [],signR e [41] y.2)) (mustS_a e [44] _) (fun _ u _ => ?_) (fun _ q hq => ⟨_,q.r,bp1 _ q hq⟩)
  refine (names_a e F G [] u h).bind (fun ns u _ => ?_) (bp2 _)
  exact Ag.step (g:=fun _ q => some (_,q)) (mustS_a e [41] u) (fun _ _ _ => .okv) (bp_some (s:=fun x => x.2) fun _ _ _ => rfl)
theorem small_a (e F G b d : Nat) (r : List Tok) (hG : 4 * F ≤ G) (hr : ∀ t ∈ r,TokK t) : Ag e (smallS F b d r) (smallR e G d b ⟨r,(0,0)⟩):=by
 unfold smallS smallR
 rw [isS_wd hr (by decide),isS_wd hr (by decide),isS_wd hr (by decide)]
 refine .ite (fun h => ?_) (fun h => ?_)
 ·rw [if_pos h]; exact .okv
 rw [if_neg h]
 refine .ite (fun h => ?_) (fun h => ?_)
 ·rw [if_pos h]
  refine .ite (fun h => ?_) (fun h => ?_)
  ·rw [if_pos h]
   have hq : (failR e 4 ⟨r,(0,0)⟩).next.bad = true:=rfl
   simp only
   rw [lkK_bad hq,if_pos (by decide),exprR_bad hq]
   exact ⟨by decide,_,_,rfl⟩
  ·rw [if_neg h]
   show Ag e _ (if hdK r.tail ≠ 6 then (exprR e G 0 ⟨r.tail,(0,0)⟩).bind fun x => some (St.mk 2 [] [] x.1 [] [],x.2) else some (St.mk 2 [] [] (.mk 1 0 [] [] []) [] [],⟨r.tail,(0,0)⟩))
   refine .ite (fun h => ?_) (fun h => ?_)
   ·rw [if_pos h]
    exact ((allA e F).expr G 0 r.tail hG).bind (fun v u _ => .okv) (bp_some (s:=fun x => x.2) fun _ _ _ => rfl)
   ·rw [if_neg h]; exact .okv
 rw [if_neg h]
 refine .ite (fun h => ?_) (fun h => ?_)
 ·rw [if_pos h]; exact load_a e F G b r (by omega) h
 rw [if_neg h]
 show Ag e _ (if nameS r then _ else _)
 refine .ite (fun h => ?_) (fun h => ?_)
 ·rw [if_pos h]
  have hc:=h
  unfold nameS at hc
  simp only [Bool.and_eq_true,beq_iff_eq] at hc
  obtain ⟨⟨z1,z4⟩,z5⟩:=hc
  have hk : kindR e 1 ⟨r,(0,0)⟩ = (hdT r,⟨r.tail,(0,0)⟩):=by
   unfold kindR
   rw [if_pos (show lkK ⟨r,(0,0)⟩ = 1 from z1)]; rfl
  rw [hk]
  show Ag e _ ((exprR e G 0 (signR e [61] ⟨r.tail,(0,0)⟩)).bind fun y => some (St.mk 3 (hdT r) [] y.1 [] [],y.2))
  rw [signR_is (by unfold isS; rw [z4,z5]; decide)]
  exact ((allA e F).expr G 0 r.tail.tail hG).bind (fun v u _ => .okv) (bp_some (s:=fun x => x.2) fun _ _ _ => rfl)
 ·rw [if_neg h]
  exact ((allA e F).expr G 0 r hG).bind (fun v u _ => .okv) (bp_some (s:=fun x => x.2) fun _ _ _ => rfl)
theorem stmtsR_bad {e F b d : Nat} {l : List St} {q : Rd} (h : q.bad = true) : stmtsR e F b d l q = some (l,q):=by
 cases F with
 | zero => unfold stmtsR; rw [lkK_bad h,if_pos (.inl rfl)]
 | succ G => rw [stmtsR,lkK_bad h,if_pos (.inl rfl)]
theorem blockR_bad {e F b d : Nat} {q : Rd} (h : q.bad = true) : blockR e F b d q = some ([],q):=by
 cases F with
 | zero => unfold blockR; rw [if_pos h]
 | succ G =>
  rw [blockR,signR_bad h,kindR_bad h (by decide)]
  show (stmtsR e G (b + 1) d [] (kindR e 7 q).2).bind _ = _
  rw [kindR_bad h (by decide)]
  show (stmtsR e G (b + 1) d [] q).bind _ = _
  rw [stmtsR_bad h]
  show some (([] : List St),(kindR e 8 q).2) = _
  rw [kindR_bad h (by decide)]
structure AllA2 (e F : Nat) : Prop where
 stmts : ∀ G top b d l r,4 * F ≤ G → (∀ t ∈ r,TokK t) → Ax e top (stmtsS F top b d l r) (stmtsR e G b d l ⟨r,(0,0)⟩)
 block : ∀ G b d r,4 * F ≤ G → (∀ t ∈ r,TokK t) → Ag e (blockS F b d r) (blockR e G b d ⟨r,(0,0)⟩)
 stmt : ∀ G b d r,4 * F ≤ G → (∀ t ∈ r,TokK t) → Ag e (stmtS F b d r) (stmtR e G b d ⟨r,(0,0)⟩)
theorem TokK.suf {u r : List Tok} (hr : ∀ t ∈ r,TokK t) (h : u <:+ r) : ∀ t ∈ u,TokK t:=fun t ht => hr t (h.subset ht)
theorem allA2 (e F : Nat) : AllA2 e F:=by
 induction F with
 | zero => exact ⟨fun _ _ _ _ _ _ _ _ => trivial,fun _ _ _ _ _ _ => trivial,fun _ _ _ _ _ _ => trivial⟩
 | succ F ih =>
  refine ⟨?_,?_,?_⟩
  ·intro G top b d l r hG hr
   obtain ⟨G,rfl⟩ : ∃ G',G = G' + 1:=⟨G - 1,by omega⟩
   rw [stmtsS]
   show Ax e top _ (if hdK r = 0 ∨ hdK r = 8 then some (l,⟨r,(0,0)⟩) else (stmtR e G b d ⟨r,(0,0)⟩).bind fun s => stmtsR e G b d (l ++ [s.1]) s.2)
   by_cases c : hdK r = 0 ∨ hdK r = 8
   ·rw [if_pos c]
    by_cases en : (if top then r.isEmpty else hdK r == 8) = true
    ·rw [if_pos en]; rfl
    ·rw [if_neg en]
     have hd:=stmt_dead (dead_of c) b d F
     rcases hd with h | h
     ·rw [h]; trivial
     ·rw [h]
      refine ⟨by decide,.inr ⟨rfl,?_,l,rfl⟩⟩
      cases top with
      | true =>
       rcases c with c | c
       ·have:=hdK_nil hr c
        subst this
        exact absurd rfl en
       ·exact c
      | false =>
       rcases c with c | c
       ·exact hdK_nil hr c
       ·exact absurd (by show (hdK r == 8) = true; rw [c]; rfl) en
   ·rw [if_neg c]
    have en : ¬ (if top then r.isEmpty else hdK r == 8) = true:=by
     intro h
     cases top with
     | true =>
      have : r = []:=by simpa using h
      subst this
      exact c (.inl rfl)
     | false => exact c (.inr (by simpa using h))
    rw [if_neg en]
    have hs:=ih.stmt G b d r (by omega) hr
    cases hx : stmtS F b d r with
    | out => trivial
    | bad k u =>
     rw [hx] at hs
     obtain ⟨hk,v,w,hv⟩:=hs
     rw [hv]
     refine ⟨hk,.inl ⟨l ++ [v],w,?_⟩⟩
     exact stmtsR_bad (Rd.bad_of hk)
    | ok v u =>
     rw [hx] at hs
     have hs : stmtR e G b d ⟨r,(0,0)⟩ = some (v,⟨u,(0,0)⟩):=hs
     rw [hs]
     exact ih.stmts G top b d _ u (by omega) (TokK.suf hr ((allW F).stmt b d r v u hx))
  ·intro G b d r hG hr
   obtain ⟨G,rfl⟩ : ∃ G',G = G' + 1:=⟨G - 1,by omega⟩
   rw [blockS,blockR]
   have bp3 : ∀ q : Rd,q.bad = true → (stmtsR e G (b + 1) d [] q).bind (fun l => some (l.1,(kindR e 8 l.2).2)) = some ([],q):=fun q hq => by
    rw [stmtsR_bad hq]
    show some (([] : List St),(kindR e 8 q).2) = _
    rw [kindR_bad hq (by decide)]
   refine Ag.step (g:=fun _ q => (stmtsR e G (b + 1) d [] (kindR e 7 (kindR e 6 q).2).2).bind fun l => some (l.1,(kindR e 8 l.2).2)) (mustS_a e [58] r) (fun _ u hu => ?_) (fun _ q hq => ⟨_,q.r,by
    show (stmtsR e G (b + 1) d [] (kindR e 7 (kindR e 6 q).2).2).bind _ = _
    rw [kindR_bad hq (by decide)]
    show (stmtsR e G (b + 1) d [] (kindR e 7 q).2).bind _ = _
    rw [kindR_bad hq (by decide)]
    exact bp3 q hq⟩)
   have hu:=TokK.suf hr (mustS_s _ _ _ _ hu)
   refine Ag.take (g:=fun x => (stmtsR e G (b + 1) d [] (kindR e 7 x.2).2).bind fun l => some (l.1,(kindR e 8 l.2).2)) (by decide) (fun _ u2 h2 => ?_) (fun _ q hq => ⟨_,q.r,by
    show (stmtsR e G (b + 1) d [] (kindR e 7 q).2).bind _ = _
    rw [kindR_bad hq (by decide)]
    exact bp3 q hq⟩)
   have hu2:=TokK.suf hu (takeS_s _ _ _ _ h2)
   refine Ag.take (g:=fun x => (stmtsR e G (b + 1) d [] x.2).bind fun l => some (l.1,(kindR e 8 l.2).2)) (by decide) (fun _ u3 h3 => ?_) (fun _ q hq => ⟨_,q.r,bp3 q hq⟩)
   have hu3:=TokK.suf hu2 (takeS_s _ _ _ _ h3)
   have hs:=ih.stmts G false (b + 1) d [] u3 (by omega) hu3
   show Ag e _ ((stmtsR e G (b + 1) d [] ⟨u3,(0,0)⟩).bind fun l => some (l.1,(kindR e 8 l.2).2))
   cases hx : stmtsS F false (b + 1) d [] u3 with
   | out => trivial
   | bad k u =>
    rw [hx] at hs
    obtain ⟨hk,⟨v,w,hv⟩ | ⟨hk1,hu0,v,hv⟩⟩:=hs
    ·rw [hv]
     refine ⟨hk,v,w,?_⟩
     show some (v,(kindR e 8 _).2) = _
     rw [kindR_bad (Rd.bad_of hk) (by decide)]
    ·have hu0 : u = []:=hu0
     subst hu0; subst hk1
     rw [hv]
     exact ⟨by decide,v,[],rfl⟩
   | ok v u =>
    rw [hx] at hs
    have hs : stmtsR e G (b + 1) d [] ⟨u3,(0,0)⟩ = some (v,⟨u,(0,0)⟩):=hs
    rw [hs]
    exact Ag.take (g:=fun x => some (v,x.2)) (by decide) (fun _ _ _ => .okv) (bp_some (s:=fun x => x.2) fun _ _ _ => rfl)
  ·intro G b d r hG hr
   obtain ⟨G,rfl⟩ : ∃ G',G = G' + 1:=⟨G - 1,by omega⟩
   rw [stmtS,stmtR,isS_wd hr (by decide),isS_wd hr (by decide),isS_wd hr (by decide)]
   refine .ite (fun h => ?_) (fun h => ?_)
   ·rw [if_pos h]
    obtain ⟨G,rfl⟩ : ∃ G',G = G' + 1:=⟨G - 1,by omega⟩
    rw [defR]
    have bp2 : ∀ tx ns (q : Rd),q.bad = true → (blockR e G b (d + 1) q).bind (fun l => some (St.mk 6 tx ns .zero l.1 [],l.2)) = some (.mk 6 tx ns .zero [] [],q):=fun tx ns q hq => by rw [blockR_bad hq]; rfl
    have bp1 : ∀ tx (q : Rd),q.bad = true → (paramR e G [] q).bind (fun ns => (blockR e G b (d + 1) (signR e [41] ns.2)).bind fun l => some (St.mk 6 tx ns.1 .zero l.1 [],l.2)) = some (.mk 6 tx [] .zero [] [],q):=fun tx q hq => by
     rw [paramR_bad' hq]
     show (blockR e G b (d + 1) (signR e [41] q)).bind _ = _
     rw [signR_bad hq]; exact bp2 _ _ q hq
    refine .ite (fun hb => ?_) (fun hb => ?_)
    ·rw [if_pos hb]
     have hq : (failR e 4 ⟨r,(0,0)⟩).bad = true:=rfl
     rw [signR_bad hq,kindR_bad hq (by decide)]
     show Ag e _ ((paramR e G [] (signR e [40] (failR e 4 ⟨r,(0,0)⟩))).bind _)
     rw [signR_bad hq,bp1 _ _ hq]
     exact .badv (by decide)
    rw [if_neg hb,signR_is h]
    refine Ag.take (g:=fun x => (paramR e G [] (signR e [40] x.2)).bind fun ns => (blockR e G b (d + 1) (signR e [41] ns.2)).bind fun l => some (St.mk 6 x.1 ns.1 .zero l.1 [],l.2)) (by decide) (fun t u hu => ?_) (fun v q hq => ⟨_,q.r,by
     show (paramR e G [] (signR e [40] q)).bind _ = _
     rw [signR_bad hq]; exact bp1 _ q hq⟩)
    have hu:=TokK.suf (TokK.suf hr (suf_tl r)) (takeS_s _ _ _ _ hu)
    refine Ag.step (g:=fun _ q => (paramR e G [] q).bind fun ns => (blockR e G b (d + 1) (signR e [41] ns.2)).bind fun l => some (St.mk 6 t.text ns.1 .zero l.1 [],l.2)) (mustS_a e [40] u) (fun _ u2 h2 => ?_) (fun _ q hq => ⟨_,q.r,bp1 _ q hq⟩)
    have hu2:=TokK.suf hu (mustS_s _ _ _ _ h2)
    have hp : Ag e (if hdK u2 = 1 then paramS F [] u2 else .ok [] u2) (paramR e G [] ⟨u2,(0,0)⟩):=by
     refine .ite (fun h1 => param_a e F G [] u2 (by omega) (fun _ => h1)) (fun h1 => ?_)
     cases G with
     | zero => exact absurd hG (by omega)
     | succ G =>
      rw [paramR,if_neg (show ¬ (⟨u2,(0,0)⟩ : Rd).bad = true from by intro h; cases h),if_pos ⟨rfl,h1⟩]; exact .okv
    refine hp.bind (fun ns u3 h3 => ?_) (fun v q hq => ⟨_,q.r,by
     show (blockR e G b (d + 1) (signR e [41] q)).bind _ = _
     rw [signR_bad hq]; exact bp2 _ _ q hq⟩)
    have hu3 : ∀ t ∈ u3,TokK t:=by
     split at h3
     ·exact TokK.suf hu2 (paramS_s F _ _ _ _ h3)
     ·cases h3; exact hu2
    refine Ag.step (g:=fun _ q => (blockR e G b (d + 1) q).bind fun l => some (St.mk 6 t.text ns .zero l.1 [],l.2)) (mustS_a e [41] u3) (fun _ u4 h4 => ?_) (fun _ q hq => ⟨_,q.r,bp2 _ _ q hq⟩)
    have hu4:=TokK.suf hu3 (mustS_s _ _ _ _ h4)
    exact (ih.block G b (d + 1) u4 (by omega) hu4).bind (fun l u _ => .okv) (bp_some (s:=fun x => x.2) fun _ _ _ => rfl)
   rw [if_neg h]
   refine .ite (fun h => ?_) (fun h => ?_)
   ·rw [if_pos h]
    show Ag e _ ((exprR e G 0 ⟨r.tail,(0,0)⟩).bind fun x => (blockR e G b d x.2).bind fun l => if isR [wElse] l.2 then (blockR e G b d l.2.next).bind fun m => some (St.mk 7 [] [] x.1 l.1 m.1,m.2) else some (St.mk 7 [] [] x.1 l.1 [],l.2))
    have bp : ∀ x (q : Rd),q.bad = true → (blockR e G b d q).bind (fun l => if isR [wElse] l.2 then (blockR e G b d l.2.next).bind fun m => some (St.mk 7 [] [] x l.1 m.1,m.2) else some (St.mk 7 [] [] x l.1 [],l.2)) = some (.mk 7 [] [] x [] [],q):=fun x q hq => by
     rw [blockR_bad hq]
     show (if isR [wElse] q = true then _ else some (St.mk 7 [] [] x [] [],q)) = _
     rw [isR_bad hq]; rfl
    refine ((allA e F).expr G 0 r.tail (by omega)).bind (fun x u hu => ?_) (fun x q hq => ⟨_,q.r,bp x q hq⟩)
    have hu:=TokK.suf (TokK.suf hr (suf_tl r)) ((allS F).expr _ _ _ _ hu)
    refine (ih.block G b d u (by omega) hu).bind (fun l u2 h2 => ?_) (fun l q hq => ⟨_,q.r,by
     show (if isR [wElse] q = true then _ else some (St.mk 7 [] [] x l [],q)) = _
     rw [isR_bad hq]; rfl⟩)
    have hu2:=TokK.suf hu ((allW F).block _ _ _ _ _ h2)
    show Ag e _ (if isR [wElse] ⟨u2,(0,0)⟩ then (blockR e G b d ⟨u2.tail,(0,0)⟩).bind fun m => some (St.mk 7 [] [] x l m.1,m.2) else some (St.mk 7 [] [] x l [],⟨u2,(0,0)⟩))
    rw [isR_one]
    refine .ite (fun h => ?_) (fun h => ?_)
    ·rw [if_pos h]
     exact (ih.block G b d u2.tail (by omega) (TokK.suf hu2 (suf_tl u2))).bind (fun l u _ => .okv) (bp_some (s:=fun x => x.2) fun _ _ _ => rfl)
    ·rw [if_neg h]; exact .okv
   rw [if_neg h]
   refine .ite (fun h => ?_) (fun h => ?_)
   ·rw [if_pos h]
    have bp : ∀ t x (q : Rd),q.bad = true → (blockR e G b d q).bind (fun l => some (St.mk 8 t [] x l.1 [],l.2)) = some (.mk 8 t [] x [] [],q):=fun t x q hq => by rw [blockR_bad hq]; rfl
    have bp1 : ∀ t (q : Rd),q.bad = true → (exprR e G 0 q).bind (fun x => (blockR e G b d x.2).bind fun l => some (St.mk 8 t [] x.1 l.1 [],l.2)) = some (.mk 8 t [] .zero [] [],q):=fun t q hq => by
     rw [exprR_bad hq]; exact bp t _ q hq
    refine Ag.take (g:=fun x => (exprR e G 0 (signR e wIn x.2)).bind fun y => (blockR e G b d y.2).bind fun l => some (St.mk 8 x.1 [] y.1 l.1 [],l.2)) (by decide) (fun t u hu => ?_) (fun v q hq => ⟨_,q.r,by
     show (exprR e G 0 (signR e wIn q)).bind _ = _
     rw [signR_bad hq]; exact bp1 _ q hq⟩)
    have hu:=TokK.suf (TokK.suf hr (suf_tl r)) (takeS_s _ _ _ _ hu)
    refine Ag.step (g:=fun _ q => (exprR e G 0 q).bind fun y => (blockR e G b d y.2).bind fun l => some (St.mk 8 t.text [] y.1 l.1 [],l.2)) (mustS_a e wIn u) (fun _ u2 h2 => ?_) (fun _ q hq => ⟨_,q.r,bp1 _ q hq⟩)
    have hu2:=TokK.suf hu (mustS_s _ _ _ _ h2)
    refine ((allA e F).expr G 0 u2 (by omega)).bind (fun x u3 h3 => ?_) (fun x q hq => ⟨_,q.r,bp _ x q hq⟩)
    have hu3:=TokK.suf hu2 ((allS F).expr _ _ _ _ h3)
    exact (ih.block G b d u3 (by omega) hu3).bind (fun l u _ => .okv) (bp_some (s:=fun x => x.2) fun _ _ _ => rfl)
   rw [if_neg h]
   refine (small_a e F G b d r (by omega) hr).bind (fun s u hu => ?_) (bp_some (s:=fun x => (kindR e 6 x.2).2) fun v q hq => by rw [kindR_bad hq (by decide)])
   exact Ag.take (g:=fun x => some (s,x.2)) (by decide) (fun _ _ _ => .okv) (bp_some (s:=fun x => x.2) fun _ _ _ => rfl)
theorem parse_same (s : List UInt8) : parseR (4 * fuelS (splitS s).1) s = some (parseS s):=by
 have hne:=((allU (fuelS (splitS s).1)).stmts true 0 0 [] (splitS s).1 (by unfold fuelS; omega)).1
 have hk : ∀ t ∈ (splitS s).1,TokK t:=fun t ht => ⟨(splitS_good s t ht).kind.1,(splitS_good s t ht).sign⟩
 have hA:=(allA2 s.length (fuelS (splitS s).1)).stmts (4 * fuelS (splitS s).1) true 0 0 [] (splitS s).1 (Nat.le_refl _) hk
 unfold parseR parseS
 generalize splitS s = x at hne hk hA ⊢
 obtain ⟨l,f⟩:=x
 simp only at hne hA ⊢
 by_cases hf : f.1 ≠ 0
 ·rw [if_pos hf,if_pos hf]
 rw [if_neg hf,if_neg hf]
 cases hx : stmtsS (fuelS l) true 0 0 [] l with
 | out => exact absurd hx hne
 | ok v u =>
  rw [hx] at hA
  have hA : stmtsR s.length (4 * fuelS l) 0 0 [] ⟨l,(0,0)⟩ = some (v,⟨u,(0,0)⟩):=hA
  have hu : u = []:=by
   have key : ∀ F l0 r v u,stmtsS F true 0 0 l0 r = .ok v u → u = []:=by
    intro F
    induction F with
    | zero => intro l0 r v u h; cases h
    | succ F ih =>
     intro l0 r v u h
     rw [stmtsS] at h
     have h : (if r.isEmpty = true then .ok l0 r else (stmtS F 0 0 r).bind fun s r => stmtsS F true 0 0 (l0 ++ [s]) r) = Pr.ok v u:=h
     by_cases h1 : r.isEmpty = true
     ·rw [if_pos h1] at h; cases h; simpa using h1
     ·rw [if_neg h1] at h
      cases hy : stmtS F 0 0 r with
      | out => rw [hy] at h; cases h
      | bad k w => rw [hy] at h; cases h
      | ok s w => rw [hy] at h; exact ih _ _ _ _ h
   exact key _ _ _ _ _ hx
  subst hu
  rw [hA]; rfl
 | bad k u =>
  rw [hx] at hA
  obtain ⟨hk0,⟨v,w,hv⟩ | ⟨hk1,hu8,v,hv⟩⟩:=hA
  ·rw [hv]
   have hb : (⟨w,(k,placeS s.length u)⟩ : Rd).bad = true:=Rd.bad_of hk0
   show (let q:=if w.isEmpty = true then (⟨w,(k,placeS s.length u)⟩ : Rd) else failR s.length 1 ⟨w,(k,placeS s.length u)⟩; if q.bad then some (([] : List St),q.f) else some (v,(0,0))) = _
   rw [failR_bad hb,ite_self]
   simp only
   rw [if_pos hb]
  ·subst hk1
   rw [hv]
   have hu8 : hdK u = 8:=hu8
   have hne : u.isEmpty = false:=by
    cases u with
    | nil => cases hu8
    | cons t w => rfl
   show (let q:=if u.isEmpty = true then (⟨u,(0,0)⟩ : Rd) else failR s.length 1 ⟨u,(0,0)⟩; if q.bad then some (([] : List St),q.f) else some (v,(0,0))) = _
   rw [hne]
   rfl
structure AllG (F : Nat) : Prop where
 stmt : Rst 39 stmtR F
 block : Rbl F
 dfn : Rdf F
theorem allG (F : Nat) : F ≤ 3000000 → ∀ F',F' ≤ F → AllG F':=by
 induction F with
 | zero =>
  intro _ F' h
  obtain rfl : F' = 0:=by omega
  have hss : Rss 0:=rstmts_ok 0 (by omega) (fun F' h => absurd h (by omega))
  refine ⟨fun _ _ _ _ _ _ _ _ _ _ _ _ h => (by cases h),fun v l q e b d y hr hl hT hb hd hx => ?_,fun _ _ _ _ _ _ _ _ _ _ _ _ h => (by cases h)⟩
  have hx : (if q.bad then some (([] : List St),q) else none) = some y:=hx
  by_cases hbad : q.bad = true
  ·rw [if_pos hbad,← blockR_bad (e:=e) (F:=1) (b:=b) (d:=d) hbad] at hx
   exact rblock_ok 0 hss v l q e b d y hr hl hT (by omega) (by omega) hx
  ·rw [if_neg hbad] at hx; cases hx
 | succ F ih =>
  intro hF F' h
  rcases Nat.lt_or_ge F' (F + 1) with h' | h'
  ·exact ih (by omega) F' (by omega)
  obtain rfl : F' = F + 1:=by omega
  have ih:=ih (by omega)
  have ihF:=ih F (Nat.le_refl _)
  have hss : Rss F:=rstmts_ok F (by omega) (fun F' h => (ih F' (by omega)).stmt)
  exact ⟨rstmt_ok F (by omega) ihF.dfn ihF.block,fun v l q e b d y hr hl hT hb hd hx => rblock_ok F hss v l q e b d y hr hl hT (by omega) (by omega) hx,
   fun v l q e b d y hr hl hT hb hd hx => rdef_ok F ihF.block v l q e b d y (by omega) hr hl hT (by omega) (by omega) hx⟩
theorem rstmtsT (F : Nat) (hF : F ≤ 3000000) : Rss F:=rstmts_ok F hF (fun F' h => (allG F hF F' (by omega)).stmt)
theorem rM {f : FuncId} {xs : List AV} {x : AV} {l : List Tok} {q q' : Rd} {e b d n b' d' n' : Nat} (h : CallOk cx f (.ptr 0 0 0 :: xs) [rdB 0 l q e b d n] (fun o s => o = .ret x ∧ s = [rdB 0 l q' e b' d' n'])) (hx : Free false x) (hxs : ∀ y ∈ xs,Free false y) (a c : Nat × Option Box) :
  CallOk cx f (.ptr 2 0 0 :: xs) [a,c,rdB 0 l q e b d n] (fun o s => o = .ret x ∧ s = [a,c,rdB 0 l q' e b' d' n']) :=
 h.mid 2 1 [a,c] [] rfl rfl rfl (.cons (.ptr rfl) (.free hxs)) (.cons (.live (.cells (.free (rdB_free 0 l q e b d n)))) (.nil _)) (.cons (.live (.cells (.free (rdB_free 0 l q' e b' d' n')))) (.nil _)) (.free hx)
theorem ParseSource_ok (s : List UInt8) : Calc cx 11 [.str s] (parseAV (parseS s)) :=
 pure_intro (fun a w => Tryz.call11 a w) Tryz.func11 rfl Tryz.ntmps11 rfl (parseAV_free _) fun B => by
  have hlen:=splitS_size s
  have hg:=splitS_good s
  have hsz : (splitS s).2.1 = 0 → s.length ≤ 6000:=by
   unfold splitS
   split
   ·intro h; cases h
   ·intro _; omega
  have hSp0:=SourceTokens_ok s
  have hY:=parse_same s
  obtain ⟨Y,hYY⟩ : ∃ Y,Y = parseS s:=⟨_,rfl⟩
  rw [← hYY] at hY ⊢
  clear hYY
  unfold parseR at hY
  obtain ⟨l,e1,e2,hsp⟩ : ∃ l e1 e2,splitS s = (l,(e1,e2)):=⟨_,_,_,rfl⟩
  rw [hsp] at hlen hg hsz hSp0 hY
  have hlen : l.length ≤ 24040:=hlen
  have hSp : Calc cx 23 [.str s] (.tup [.sl true false 4 (l.map tokA),.agg [.int .i64 (e1 : Nat),.int .i64 (e2 : Nat)]]):=hSp0
  have hsz : e1 = 0 → s.length ≤ 6000:=hsz
  have hY : (if e1 ≠ 0 then some ([],(e1,e2)) else (stmtsR s.length (4 * fuelS l) 0 0 [] ⟨l,(0,0)⟩).bind fun x =>
   let q:=if x.2.r.isEmpty then x.2 else failR s.length 1 x.2
   if q.bad then some ([],q.f) else some (x.1,(0,0))) = some Y:=hY
  have hfu : 4 * fuelS l ≤ 3000000:=by unfold fuelS; omega
  clear hSp0
  by_cases h1 : e1 = 0
  ·subst h1
   rw [if_neg (by decide)] at hY
   have hsz:=hsz rfl
   have hT : ∀ t ∈ l,t.text.length ≤ 6000:=fun t ht => by have:=(hg t ht).size; omega
   cases hx : stmtsR s.length (4 * fuelS l) 0 0 [] ⟨l,(0,0)⟩ with
   | none => rw [hx] at hY; cases hY
   | some x =>
   rw [hx] at hY
   obtain ⟨ls,q⟩:=x
   have hr : q.r <:+ l:=(allRS s.length l (4 * fuelS l)).stmts _ _ _ _ (List.suffix_refl _) _ hx
   have hst:=(rstmtsT (4 * fuelS l) hfu) 0 l ⟨l,(0,0)⟩ s.length 0 0 (ls,q) (List.suffix_refl _) (by omega) hT (by omega) (by omega) hx
   refine pa [.v (.tup [.sl true false 4 (l.map tokA),.agg [.int .i64 (0 : Nat),.int .i64 (e2 : Nat)]]),.b false] rfl ?_ ?_
   ·(repeat' with_reducible apply AllP_cons) <;> try exact aC
    exact ⟨_,hSp,.cons (.refl .str) (.nil _)⟩
   have hst:=rM hst (stsA_free _) (by simp) (xf (0,0)) (xf (0,e2))
   have hb1:=rM (rbad_ok 0 l q s.length 0 0 0) .bool (by simp) (xf (0,0)) (xf (0,e2))
   refine S_heap [xf (0,0),xf (0,e2),rdB 0 l ⟨l,(0,0)⟩ s.length 0 0 0] ?_ ?_
   ·show [xf (0,0),xf (0,e2),rdI 0 l 0 (0,0) (s.length : Nat) 0 0 0] = _
    unfold rdB rdI
    rw [Nat.sub_self]; rfl
   have hY : (let q':=if q.r.isEmpty then q else failR s.length 1 q
    if q'.bad then some (([] : List St),q'.f) else some (ls,(0,0))) = some Y:=hY
   have hml : (l.map tokA).length = l.length:=by simp
   by_cases hbad : q.bad = true
   ·rw [hbad] at hb1
    have hq' : (if q.r.isEmpty then q else failR s.length 1 q) = q:=by rw [failR_bad hbad,ite_self]
    simp only [hq'] at hY
    rw [if_pos hbad] at hY
    cases hY
    refine pB [.f (stsA ls) (fun _ => [xf (0,0),xf (0,e2),rdB 0 l q s.length 0 0 0]),.k (.bool true),.b false,.b false,.k (.bool true),.b true] rfl ?_
    refine pB [] rfl ?_
    refine S_ret ⟨_,_,rfl,⟨rfl,trivial⟩,_,rfl,?_⟩
    exact Fzs.tup (.cons .nils (.cons (.refl (flt_free q.f)) .nil))
   rw [(Bool.not_eq_true _).mp hbad] at hb1
   by_cases hem : q.r.isEmpty = true
   ·simp only [hem,if_true] at hY
    rw [if_neg hbad] at hY
    cases hY
    have hlen0 : q.r.length = 0:=by rw [List.isEmpty_iff.1 hem]; rfl
    have e0 : decide (((l.length - q.r.length : Nat) : Int) < (((l.map tokA).length : Nat) : Int)) = false:=by rw [hml,hlen0]; exact decide_eq_false (by omega)
    refine pB [.f (stsA ls) (fun _ => [xf (0,0),xf (0,e2),rdB 0 l q s.length 0 0 0]),.k (.bool false),.b true,.b false,.k (.bool false),.b false] rfl ?_
    refine S_ret ⟨_,_,rfl,⟨rfl,trivial⟩,_,rfl,?_⟩
    exact Fzs.tup (.cons (.refl (stsA_free _)) (.cons (.refl (flt_free (0,0))) .nil))
   ·simp only [hem] at hY
    have hlen0 : q.r.length ≠ 0:=fun h => hem (List.isEmpty_iff.2 (List.eq_nil_of_length_eq_zero h))
    have e0 : decide (((l.length - q.r.length : Nat) : Int) < (((l.map tokA).length : Nat) : Int)) = true:=by
     have:=hr.length_le
     rw [hml]; exact decide_eq_true (by omega)
    have hf:=rM (rfail_ok 0 l q s.length 0 0 0 1 hr (by omega)) (.tup (by simp)) (by intro y hy; simp at hy; subst hy; exact .int) (xf (0,0)) (xf (0,e2))
    have hq1 : (failR s.length 1 q).bad = true:=by
     unfold failR; rw [if_neg hbad]; rfl
    have hb2:=rM (rbad_ok 0 l (failR s.length 1 q) s.length 0 0 0) .bool (by simp) (xf (0,0)) (xf (0,e2))
    rw [hq1] at hb2
    have hY : (if (failR s.length 1 q).bad then some (([] : List St),(failR s.length 1 q).f) else some (ls,(0,0))) = some Y:=hY
    rw [if_pos hq1] at hY
    cases hY
    refine pB [.f (stsA ls) (fun _ => [xf (0,0),xf (0,e2),rdB 0 l q s.length 0 0 0]),.k (.bool false),.b true,.b true,.f (.tup []) (fun _ => [xf (0,0),xf (0,e2),rdB 0 l (failR s.length 1 q) s.length 0 0 0]),.k (.bool true),.b true] rfl ?_
    refine pB [] rfl ?_
    refine S_ret ⟨_,_,rfl,⟨rfl,trivial⟩,_,rfl,?_⟩
    exact Fzs.tup (.cons .nils (.cons (.refl (flt_free (failR s.length 1 q).f)) .nil))
  ·have e0 : ((e1 : Int) != 0) = true:=bne_iff_ne.2 (by omega)
   rw [if_pos h1] at hY
   cases hY
   refine pa [.v (.tup [.sl true false 4 (l.map tokA),.agg [.int .i64 (e1 : Nat),.int .i64 (e2 : Nat)]]),.b true] rfl ?_ ?_
   ·(repeat' with_reducible apply AllP_cons) <;> try exact aC
    exact ⟨_,hSp,.cons (.refl .str) (.nil _)⟩
   refine S_ret ⟨_,_,rfl,⟨rfl,trivial⟩,_,rfl,?_⟩
   exact Fzs.tup (.cons .nils (.cons (.refl (flt_free (e1,e2))) .nil))
def src1 : List UInt8:=[97,32,61,32,45,49,32,43,32,50]
def src2 : List UInt8:=[97,61,91,49,44,50,93,91,48,93]
def src3 : List UInt8:=[97,32,61,32,91,49,44,32,50,93,91,48,93,10]
def one (n : Nat) : Ex:=.mk 4 n [] [] []
def st1 : St:=.mk 3 [97] [] (.mk 14 0 [43] [.mk 13 0 [] [one 1] [],one 2] []) [] []
def st2 : St:=.mk 3 [97] [] (.mk 11 0 [] [.mk 7 0 [] [one 1,one 2] [],one 0] []) [] []
theorem parse1 : parseS src1 = ([st1],(0,0)):=by kernel_rfl
theorem parse2 : parseS src2 = ([st2],(0,0)):=by kernel_rfl
theorem srct2 : srcT [st2] = src3:=by decide +kernel
theorem parse3 : parseS src3 = ([st2],(0,0)):=by kernel_rfl
theorem canon2 : canonS src2 = (src3,(0,0)):=by
 unfold canonS
 rw [parse2]
 show (if (0 : Nat) ≠ 0 then _ else if 6000 < (srcT [st2]).length ∨ (parseS (srcT [st2])).2.1 ≠ 0 then _ else (srcT [st2],(0,0))) = _
 rw [srct2,parse3]
 decide
theorem allJ2 : ∀ x ∈ (parseS src2).1,AllJ (fun ns => ns.length ≤ 1) x:=by
 rw [parse2]
 intro x hx
 rw [List.mem_singleton] at hx
 rw [hx]
 exact .mk (fun h => by cases h) nofun nofun
theorem begunP : Calc cx 10 [.str src1] (parseAV ([st1],(0,0))):=by
 have:=Parse_ok src1; rwa [parse1] at this
theorem begunC : Calc cx 16 [.str src2] (canonAV (src3,(0,0))):=by
 have:=Canon_ok (J:=fun ns => ns.length ≤ 1) (fun ns h => Join_few ns h) src2 allJ2 (by rw [parse2]; show (srcT [st2]).length ≤ _; rw [srct2]; decide)
 rwa [canon2] at this
theorem syntaxBegun_ok : Calc cx 12 [] (.bool true) :=
 pure_intro (fun a w => Tryz.call12 a w) Tryz.func12 rfl Tryz.ntmps12 rfl .bool fun B => by
  have h1:=begunP
  have h2:=begunC
  refine pa [.v (parseAV ([st1],(0,0))),.v (canonAV (src3,(0,0))),.b true,.b true,.v (stA st1),.b true,.b true] rfl ?_ ?_
  ·(repeat' with_reducible apply AllP_cons) <;> try exact aC
   ·exact ⟨_,h1,.cons (.refl .str) (.nil _)⟩
   ·exact ⟨_,h2,.cons (.refl .str) (.nil _)⟩
   ·intro x hx; rw [List.mem_singleton] at hx; rw [hx]; trivial
   ·decide
  exact S_retc .bool rfl trivial rfl
theorem quoC_1 (c : UInt8) (h : c = 10) : quoC c = [92,110]:=by rw [h]; rfl
theorem quoC_2 (c : UInt8) (h : c = 9) : quoC c = [92,116]:=by rw [h]; rfl
theorem quoC_3 (c : UInt8) (h : c = 92 ∨ c = 34) : quoC c = [92,c]:=by rcases h with h | h <;> rw [h] <;> rfl
theorem QuoteText_ok (s : List UInt8) (hs : s.length ≤ 70000000000000) : Calc cx 15 [.str s] (.str (quoT s)) :=
 pure_intro (fun a w => Tryz.call15 a w) Tryz.func15 rfl Tryz.ntmps15 rfl .str fun B => by
  refine go (M:=[5]) 1000 rfl trivial ?_
  refine S_unfull (t:=3) rfl ⟨_,_,.inl rfl⟩ ?_
  refine S_while (α:=QuSt) (fun q => [(0,.str s),(3,.ms 0 q.b 0 ([34] ++ (s.take q.i).flatMap quoC).length 1 false),(4,.int .i64 (q.i : Nat))]) (fun q => [(q.b,some (.cells (([34] ++ (s.take q.i).flatMap quoC).map byteAV) ⟨false,some 5⟩))])
   (fun q => q.i ≤ s.length) (fun q => s.length - q.i) ⟨0,0⟩ (Nat.zero_le _) (.cons rfl (.cons rfl (.cons rfl (.nil _)))) rfl ?_
  rintro ⟨i,b⟩ hi
  have hi : i ≤ s.length:=hi
  obtain ⟨bs,hbs⟩ : ∃ bs,bs = [34] ++ (s.take i).flatMap quoC:=⟨_,rfl⟩
  have hlen : bs.length ≤ 2 * s.length + 1:=by
   rw [hbs]
   have:=quo_len (s.take i)
   rw [List.length_take] at this
   rw [List.length_append,List.length_singleton]; omega
  show S cx _ B _ _ [(0,.str s),(3,.ms 0 b 0 ([34] ++ (s.take i).flatMap quoC).length 1 false),(4,.int .i64 (i : Nat))] [(b,some (.cells (([34] ++ (s.take i).flatMap quoC).map byteAV) ⟨false,some 5⟩))]
  rw [← hbs]
  have hbl : 0 + bs.length * 1 = (bs.map byteAV).length:=by simp
  by_cases hlt : i < s.length
  ·have htk : (s.take (i + 1)).flatMap quoC = (s.take i).flatMap quoC ++ quoC s[i]:=by
    rw [List.take_succ_eq_append_getElem hlt,List.flatMap_append]; simp
   have hgd : (((s.getD (i : Int).toNat 0).toNat : Nat) : Int) = ((s[i].toNat : Nat) : Int):=by rw [Int.toNat_natCast,getD_byte hlt]
   have ne : ∀ n : Nat,n < 256 → s[i] ≠ UInt8.ofNat n → ((((s.getD (i : Int).toNat 0).toNat : Nat) : Int) == (n : Int)) = false:=fun n hn h => by
    rw [hgd,byte_eq _ _ hn]; exact beq_false_of_ne h
   have eq : ∀ n : Nat,n < 256 → s[i] = UInt8.ofNat n → ((((s.getD (i : Int).toNat 0).toNat : Nat) : Int) == (n : Int)) = true:=fun n hn h => by
    rw [hgd,byte_eq _ _ hn,h]; exact beq_self_eq_true _
   by_cases d1 : s[i] = 10
   ·have e1:=eq 10 (by decide) d1
    refine pa [.b true,.b true] rfl ?_ ?_
    ·(repeat' with_reducible apply AllP_cons) <;> try exact aC
     show (bs.length + 2) * 1 ≤ 140737488355328; omega
    refine S_round ⟨i + 1,b + 1⟩ (by show s.length - (i + 1) < s.length - i; omega) hlt (.cons rfl (.cons ?_ (.cons (nX (by omega)) (.nil _)))) ?_
    ·show AV.ms 0 (b + 1) 0 (bs.length + 2) 1 false = .ms 0 (b + 1) 0 ([34] ++ (s.take (i + 1)).flatMap quoC).length 1 false
     rw [htk,← List.append_assoc,← hbs,quoC_1 _ d1,List.length_append]; rfl
    ·show [(b + 1,some (Box.cells (bs.map byteAV ++ [.int .u8 92,.int .u8 110]) _))] = [(b + 1,some (.cells (([34] ++ (s.take (i + 1)).flatMap quoC).map byteAV) _))]
     rw [htk,← List.append_assoc,← hbs,quoC_1 _ d1,List.map_append]; rfl
   have e1:=ne 10 (by decide) d1
   by_cases d2 : s[i] = 9
   ·have e2:=eq 9 (by decide) d2
    refine pa [.b true,.b false,.b true] rfl ?_ ?_
    ·(repeat' with_reducible apply AllP_cons) <;> try exact aC
     show (bs.length + 2) * 1 ≤ 140737488355328; omega
    refine S_round ⟨i + 1,b + 1⟩ (by show s.length - (i + 1) < s.length - i; omega) hlt (.cons rfl (.cons ?_ (.cons (nX (by omega)) (.nil _)))) ?_
    ·show AV.ms 0 (b + 1) 0 (bs.length + 2) 1 false = .ms 0 (b + 1) 0 ([34] ++ (s.take (i + 1)).flatMap quoC).length 1 false
     rw [htk,← List.append_assoc,← hbs,quoC_2 _ d2,List.length_append]; rfl
    ·show [(b + 1,some (Box.cells (bs.map byteAV ++ [.int .u8 92,.int .u8 116]) _))] = [(b + 1,some (.cells (([34] ++ (s.take (i + 1)).flatMap quoC).map byteAV) _))]
     rw [htk,← List.append_assoc,← hbs,quoC_2 _ d2,List.map_append]; rfl
   have e2:=ne 9 (by decide) d2
   have two : ∀ (d : s[i] = 92 ∨ s[i] = 34),[(b + 1,some (Box.cells (bs.map byteAV ++ [.int .u8 92,.int .u8 (((s.getD (i : Int).toNat 0).toNat : Nat) : Int)]) ⟨false,some 5⟩))] = [(b + 1,some (.cells (([34] ++ (s.take (i + 1)).flatMap quoC).map byteAV) ⟨false,some 5⟩))] ∧
     AV.ms 0 (b + 1) 0 (bs.length + 2) 1 false = .ms 0 (b + 1) 0 ([34] ++ (s.take (i + 1)).flatMap quoC).length 1 false:=fun d => by
    rw [htk,← List.append_assoc,← hbs,quoC_3 _ d,List.map_append,List.length_append,hgd]; exact ⟨rfl,rfl⟩
   by_cases d3 : s[i] = 92
   ·have e3:=eq 92 (by decide) d3
    refine pa [.b true,.b false,.b false,.b true,.b true] rfl ?_ ?_
    ·(repeat' with_reducible apply AllP_cons) <;> try exact aC
     show (bs.length + 2) * 1 ≤ 140737488355328; omega
    exact S_round ⟨i + 1,b + 1⟩ (by show s.length - (i + 1) < s.length - i; omega) hlt (.cons rfl (.cons (two (.inl d3)).2 (.cons (nX (by omega)) (.nil _)))) (two (.inl d3)).1
   have e3:=ne 92 (by decide) d3
   by_cases d4 : s[i] = 34
   ·have e4:=eq 34 (by decide) d4
    refine pa [.b true,.b false,.b false,.b false,.b true] rfl ?_ ?_
    ·(repeat' with_reducible apply AllP_cons) <;> try exact aC
     show (bs.length + 2) * 1 ≤ 140737488355328; omega
    exact S_round ⟨i + 1,b + 1⟩ (by show s.length - (i + 1) < s.length - i; omega) hlt (.cons rfl (.cons (two (.inr d4)).2 (.cons (nX (by omega)) (.nil _)))) (two (.inr d4)).1
   have e4:=ne 34 (by decide) d4
   have hq : quoC s[i] = [s[i]]:=by unfold quoC; rw [if_neg d1,if_neg d2,if_neg d3,if_neg d4]
   refine pa [.b true,.b false,.b false,.b false,.b false] rfl ?_ ?_
   ·(repeat' with_reducible apply AllP_cons) <;> try exact aC
    show (bs.length + 1) * 1 ≤ 140737488355328; omega
   refine S_round ⟨i + 1,b + 1⟩ (by show s.length - (i + 1) < s.length - i; omega) hlt (.cons rfl (.cons ?_ (.cons (nX (by omega)) (.nil _)))) ?_
   ·show AV.ms 0 (b + 1) 0 (bs.length + 1) 1 false = .ms 0 (b + 1) 0 ([34] ++ (s.take (i + 1)).flatMap quoC).length 1 false
    rw [htk,← List.append_assoc,← hbs,hq,List.length_append]; rfl
   ·show [(b + 1,some (Box.cells (bs.map byteAV ++ [.int .u8 (((s.getD (i : Int).toNat 0).toNat : Nat) : Int)]) _))] = [(b + 1,some (.cells (([34] ++ (s.take (i + 1)).flatMap quoC).map byteAV) _))]
    rw [htk,← List.append_assoc,← hbs,hq,List.map_append,hgd]; rfl
  ·obtain rfl : i = s.length:=by omega
   rw [List.take_length] at hbs
   refine pa [.b false] rfl ?_ ?_
   ·(repeat' with_reducible apply AllP_cons) <;> try exact aC
    ·show (bs.length + 1) * 1 ≤ 140737488355328; omega
    ·show 0 + (bs.length + 1) ≤ (bs.map byteAV ++ [AV.int .u8 34]).length; simp
    ·show ∀ x,x ∈ ((bs.map byteAV ++ [AV.int .u8 34]).drop 0).take (bs.length + 1) → isByte x
     rw [appB bs 34 (x:=34) rfl]
     intro x hx
     exact bytes_isByte (bs ++ [34]) x (by simpa using List.mem_of_mem_take hx)
   refine S_retc .str rfl trivial ?_
   show AV.str ((((bs.map byteAV ++ [AV.int .u8 34]).drop 0).take (bs.length + 1)).map Ab.byteOf) = .str (quoT s)
   rw [appB bs 34 (x:=34) rfl]
   have hb:=back_bytes (bs ++ [34])
   rw [List.length_append] at hb
   have hb : ((((bs ++ [34]).map byteAV).drop 0).take (bs.length + 1)).map Ab.byteOf = bs ++ [34]:=hb
   rw [hb,hbs]; rfl
theorem digs_dec (n : Nat) : ∀ m,m = n → digs m = Lib.decDigits m:=by
 induction n using Nat.strongRecOn with
 | _ n ih =>
  intro m hm
  rw [digs,Lib.decDigits]
  by_cases h : m < 10
  ·rw [dif_pos h,dif_pos h]
  ·rw [dif_neg h,dif_neg h,ih (m / 10) (by omega) (m / 10) rfl]
theorem itoa_digs (n : Nat) : Lib.itoa (n : Int) = digs n:=by
 rw [digs_dec n n rfl]
 unfold Lib.itoa
 rw [if_neg (by omega)]
 simp
theorem IntText_ok (n : Nat) (hn : n ≤ 9007199254740991) : Calc cx 76 [.int .i64 (n : Nat)] (.str (Lib.itoa n)) :=
 pure_intro (fun a w => Tryz.call76 a w) Tryz.func76 rfl Tryz.ntmps76 rfl .str fun B => by
  have h:=DigitsOf_ok n n rfl hn
  rw [← itoa_digs] at h
  have e0 : decide ((n : Int) < 0) = false:=decide_eq_false (by omega)
  refine pa [.b false,.v (.str (Lib.itoa n))] rfl ?_ ?_
  ·(repeat' with_reducible apply AllP_cons) <;> try exact aC
   ·exact ⟨_,h,.cons (.refl .int) (.nil _)⟩
  exact S_retc .str rfl trivial rfl
def exT (x : Ex) (inner : Bool) : List UInt8:=if inner && Nat.ble 12 (exK x) then [40] ++ (exW x).flatten ++ [41] else (exW x).flatten
def inK (k i : Nat) : Bool:=Nat.ble 12 k || ((k == 10 || k == 11) && i == 0)
def kidT (k : Nat) (ks : List Ex) : List (List UInt8):=ks.mapIdx fun i x => exT x (inK k i)
theorem jnB_snoc (b : List UInt8) (l : List (List UInt8)) (t : List UInt8) : jnB b (l ++ [t]) = jnB b l ++ ((if 0 < l.length then b else []) ++ t):=by
 unfold jnB
 rw [List.mapIdx_concat,List.flatten_append]; simp
theorem each_jn (sep : List UInt8) (l : List Pcs) : (eachA sep l).flatten = jnB sep (l.map List.flatten):=by
 induction h : l.length generalizing l with
 | zero => rw [List.length_eq_zero_iff.1 h]; rfl
 | succ n ih =>
  obtain ⟨a,p,rfl⟩ : ∃ a p,l = a ++ [p]:=⟨l.dropLast,l.getLast (by intro e; rw [e] at h; cases h),(List.dropLast_concat_getLast _).symm⟩
  rw [eachA_snoc,List.map_append,List.map_cons,List.map_nil,jnB_snoc,List.flatten_append,List.flatten_append,ih a (by simpa using h),List.length_map]
  split <;> simp
theorem exT_false (x : Ex) : exT x false = (exW x).flatten:=rfl
theorem exT_true {x : Ex} (h : Wx 800000 x) : exT x true = (inP x).flatten:=by
 cases h with
 | @mk k n t ks ns h1 h2 h3 h4 =>
  have hk : k ≤ 14:=by
   match k,h4 with
   | 0,h => exact h.elim
   | 1,_ => decide
   | 2,_ => decide
   | 3,_ => decide
   | 4,_ => decide
   | 5,_ => decide
   | 6,_ => decide
   | 7,_ => decide
   | 8,_ => decide
   | 9,_ => decide
   | 10,_ => decide
   | 11,_ => decide
   | 12,_ => decide
   | 13,_ => decide
   | 14,_ => decide
   | k + 15,h => exact h.elim
  unfold exT inP brk
  have e : (Nat.ble 12 (exK (.mk k n t ks ns))) = apart (.mk k n t ks ns):=by
   show Nat.ble 12 k = (k == 12 || k == 13 || k == 14)
   rw [Bool.eq_iff_iff,Nat.ble_eq]
   simp only [Bool.or_eq_true,beq_iff_eq]
   omega
  rw [Bool.true_and,e]
  split <;> simp
theorem kidT_len (k : Nat) (ks : List Ex) : (kidT k ks).length = ks.length:=by simp [kidT]
theorem kid_plain (k : Nat) (ks : List Ex) (h : ∀ i,inK k i = false) : kidT k ks = ks.map fun x => (exW x).flatten:=by
 unfold kidT
 apply List.ext_getElem
 ·simp
 ·intro i h1 h2
  simp only [List.getElem_mapIdx,List.getElem_map,h i]; rfl
theorem exWs_snd (ks : List Ex) : ((exWs ks).map (fun p : Bool × Pcs => p.2)).map List.flatten = ks.map fun x => (exW x).flatten:=by
 rw [exWs_map,List.map_map,List.map_map]; rfl
theorem hjn7 (n : Nat) (t : List UInt8) (ks : List Ex) (ns : List (List UInt8)) : exT (.mk 7 n t ks ns) false = [91] ++ jnB [44,32] (kidT 7 ks) ++ [93]:=by
 show (([[91]] ++ eachA [44,32] ((exWs ks).map (fun p : Bool × Pcs => p.2)) ++ [[93]] : Pcs)).flatten = _
 rw [List.flatten_append,List.flatten_append,each_jn,exWs_snd,kid_plain 7 ks (fun i => rfl)]; rfl
def prs (k : List (List UInt8)) : List (List UInt8):=(List.range (k.length / 2)).map fun j => k.getD (2 * j) [] ++ [58,32] ++ k.getD (2 * j + 1) []
theorem prs_len (k : List (List UInt8)) : (prs k).length = k.length / 2:=by simp [prs]
theorem prs_take (k : List (List UInt8)) (j : Nat) (h : j < k.length / 2) : (prs k).take (j + 1) = (prs k).take j ++ [k.getD (2 * j) [] ++ [58,32] ++ k.getD (2 * j + 1) []]:=by
 rw [List.take_succ_eq_append_getElem (by rw [prs_len]; exact h)]
 simp [prs]
theorem getD_app (k : List (List UInt8)) (l : List (List UInt8)) (j : Nat) (h : j < k.length) : (k ++ l).getD j [] = k.getD j []:=by
 rw [List.getD_eq_getElem?_getD,List.getD_eq_getElem?_getD,List.getElem?_append_left h]
theorem prs_snoc (k : List (List UInt8)) (a b : List UInt8) (h : k.length % 2 = 0) : prs (k ++ [a,b]) = prs k ++ [a ++ [58,32] ++ b]:=by
 have e : (k ++ [a,b]).length / 2 = k.length / 2 + 1:=by rw [List.length_append]; show (k.length + 2) / 2 = _; omega
 unfold prs
 rw [e,List.range_succ,List.map_append]
 congr 1
 ·apply List.map_congr_left
  intro j hj
  have hj:=List.mem_range.1 hj
  rw [getD_app _ _ _ (by omega),getD_app _ _ _ (by omega)]
 ·have e1 : 2 * (k.length / 2) = k.length:=by omega
  rw [List.map_cons,List.map_nil,e1,List.getD_eq_getElem?_getD,List.getD_eq_getElem?_getD,List.getElem?_append_right (Nat.le_refl _),List.getElem?_append_right (by omega)]
  simp
def dicT (k : List (List UInt8)) : List UInt8:=(k.mapIdx fun i t => (if 0 < i then sepD i else []) ++ t).flatten
theorem dic_prs (k : List (List UInt8)) (h : k.length % 2 = 0) : dicT k = jnB [44,32] (prs k):=by
 obtain ⟨m,hm⟩ : ∃ m,k.length = 2 * m:=⟨k.length / 2,by omega⟩
 induction m generalizing k with
 | zero => rw [List.length_eq_zero_iff.1 (by omega : k.length = 0)]; rfl
 | succ m ih =>
  obtain ⟨r,b,rfl⟩ : ∃ r b,k = r ++ [b]:=⟨k.dropLast,k.getLast (by intro e; rw [e] at hm; simp at hm),(List.dropLast_concat_getLast _).symm⟩
  rw [List.length_append,List.length_singleton] at hm
  obtain ⟨r,a,rfl⟩ : ∃ r' a,r = r' ++ [a]:=⟨r.dropLast,r.getLast (by intro e; rw [e] at hm; simp at hm; omega),(List.dropLast_concat_getLast _).symm⟩
  rw [List.length_append,List.length_singleton] at hm
  have hr : r.length = 2 * m:=by omega
  have e : r ++ [a] ++ [b] = r ++ [a,b]:=by simp
  rw [e,prs_snoc r a b (by omega),jnB_snoc,← ih r (by omega) hr,prs_len,← e]
  unfold dicT
  rw [List.mapIdx_concat,List.mapIdx_concat,List.flatten_append,List.flatten_append,List.length_append,List.length_singleton]
  simp only [List.flatten_cons,List.flatten_nil,List.append_nil]
  rw [if_pos (by omega : 0 < r.length + 1)]
  have s1 : sepD (r.length + 1) = [58,32]:=by unfold sepD; rw [if_neg (by omega)]
  have s2 : sepD r.length = [44,32]:=by unfold sepD; rw [if_pos (by omega)]
  rw [s1,s2]
  by_cases h0 : 0 < r.length
  ·rw [if_pos h0,if_pos (by omega)]; simp [List.append_assoc]
  ·rw [if_neg h0,if_neg (by omega)]; simp [List.append_assoc]
theorem jn_nil (l : List (List UInt8)) : jnB [] l = l.flatten:=by
 unfold jnB
 congr 1
 apply List.ext_getElem
 ·simp
 ·intro i h1 h2
  rw [List.getElem_mapIdx]; simp
theorem hjn8 (n : Nat) (t : List UInt8) (ks : List Ex) (ns : List (List UInt8)) (h : ks.length % 2 = 0) : exT (.mk 8 n t ks ns) false = [123] ++ jnB [44,32] (prs (kidT 8 ks)) ++ [125]:=by
 show ([[123]] ++ eachA [] (dictA (exWs ks)) ++ [[125]] : Pcs).flatten = _
 rw [List.flatten_append,List.flatten_append,each_jn,jn_nil,← dic_prs _ (by rw [kidT_len]; exact h),kid_plain 8 ks (fun i => rfl),← exWs_snd]
 congr 2
 unfold dictA dicT
 congr 1
 apply List.ext_getElem
 ·simp
 ·intro i h1 h2
  simp only [List.getElem_map,List.getElem_mapIdx,List.flatten_append]
  congr 1
  split <;> simp
theorem hjn9a (n : Nat) (t : List UInt8) (x y : Ex) (ns : List (List UInt8)) : exT (.mk 9 n t [x,y] ns) false = [91] ++ exT x false ++ [32,102,111,114,32] ++ t ++ [32,105,110,32] ++ exT y false ++ [93]:=by
 show ([[91]] ++ exW x ++ [[32,102,111,114,32],t,[32,105,110,32]] ++ exW y ++ [] ++ [[93]] : Pcs).flatten = _
 simp only [exT_false,List.flatten_append,List.flatten_cons,List.flatten_nil,List.append_nil,List.append_assoc]
theorem hjn9b (n : Nat) (t : List UInt8) (x y z : Ex) (ns : List (List UInt8)) : exT (.mk 9 n t [x,y,z] ns) false = [91] ++ exT x false ++ [32,102,111,114,32] ++ t ++ [32,105,110,32] ++ exT y false ++ ([32,105,102,32] ++ exT z false) ++ [93]:=by
 show ([[91]] ++ exW x ++ [[32,102,111,114,32],t,[32,105,110,32]] ++ exW y ++ ([[32,105,102,32]] ++ exW z) ++ [[93]] : Pcs).flatten = _
 simp only [exT_false,List.flatten_append,List.flatten_cons,List.flatten_nil,List.append_nil,List.append_assoc]
def calT (ns k : List (List UInt8)) : List (List UInt8):=k.mapIdx fun i t => (if k.length - ns.length ≤ i then ns.getD (i - (k.length - ns.length)) [] ++ [61] else []) ++ t
theorem calT_len (ns k : List (List UInt8)) : (calT ns k).length = k.length:=by simp [calT]
theorem exT_w {x : Ex} (h : Wx 800000 x) : exT x true = (brk (apart x) (exW x)).flatten:=exT_true h
theorem hjn10 (n : Nat) (t : List UInt8) (x : Ex) (ks : List Ex) (ns : List (List UInt8)) (hx : Wx 800000 x) (hn : ns.length ≤ ks.length) :
  exT (.mk 10 n t (x :: ks) ns) false = exT x true ++ [40] ++ jnB [44,32] ((calT ns (kidT 10 (x :: ks))).drop 1) ++ [41]:=by
 show (inW ((apart x,exW x) :: exWs ks) 0 ++ [[40]] ++ eachA [44,32] (callPs ns (exWs ks)) ++ [[41]] : Pcs).flatten = _
 rw [List.flatten_append,List.flatten_append,List.flatten_append,each_jn,exT_w hx]
 congr 3
 have e : kidT 10 (x :: ks) = exT x true :: ks.map fun x => (exW x).flatten:=by
  unfold kidT
  rw [List.mapIdx_cons]
  congr 1
  apply List.ext_getElem
  ·simp
  ·intro i h1 h2
   rw [List.getElem_mapIdx,List.getElem_map]
   have : inK 10 (i + 1) = false:=by
    show ((true || false) && Nat.beq (i + 1) 0) = false
    rfl
   rw [this]; rfl
 rw [e]
 unfold callPs calT
 apply List.ext_getElem
 ·simp [exWs_map]
 ·intro i h1 h2
  have hi : i < ks.length:=by simpa [exWs_map] using h1
  simp only [List.getElem_map,List.getElem_mapIdx,List.getElem_drop,List.length_cons,List.length_map,exWs_map,List.flatten_append]
  rw [List.getElem_cons]
  simp only [Nat.add_comm 1 i]
  rw [dif_neg (by omega)]
  simp only [Nat.add_sub_cancel,List.getElem_map]
  congr 1
  have e1 : (ks.length + 1 - ns.length ≤ i + 1) ↔ (ks.length - ns.length ≤ i):=by omega
  by_cases hc : ks.length - ns.length ≤ i
  ·rw [if_pos hc,if_pos (e1.2 hc),show i + 1 - (ks.length + 1 - ns.length) = i - (ks.length - ns.length) by omega]
   simp
  ·rw [if_neg hc,if_neg (fun h => hc (e1.1 h))]; rfl
theorem hjn11 (n : Nat) (t : List UInt8) (x y : Ex) (ns : List (List UInt8)) (hx : Wx 800000 x) : exT (.mk 11 n t [x,y] ns) false = exT x true ++ [91] ++ exT y false ++ [93]:=by
 show (brk (apart x) (exW x) ++ [[91]] ++ exW y ++ [[93]] : Pcs).flatten = _
 rw [exT_w hx]
 simp only [exT_false,List.flatten_append,List.flatten_cons,List.flatten_nil,List.append_nil,List.append_assoc]
theorem hjn12 (n : Nat) (t : List UInt8) (x : Ex) (ns : List (List UInt8)) (hx : Wx 800000 x) : exT (.mk 12 n t [x] ns) false = [110,111,116,32] ++ exT x true:=by
 show ([[110,111,116,32]] ++ brk (apart x) (exW x) : Pcs).flatten = _
 rw [exT_w hx]
 simp only [List.flatten_append,List.flatten_cons,List.flatten_nil,List.append_nil,List.append_assoc]
theorem hjn13 (n : Nat) (t : List UInt8) (x : Ex) (ns : List (List UInt8)) (hx : Wx 800000 x) : exT (.mk 13 n t [x] ns) false = [45] ++ exT x true:=by
 show ([[45]] ++ brk (apart x) (exW x) : Pcs).flatten = _
 rw [exT_w hx]
 simp only [List.flatten_append,List.flatten_cons,List.flatten_nil,List.append_nil,List.append_assoc]
theorem hjn14 (n : Nat) (t : List UInt8) (x y : Ex) (ns : List (List UInt8)) (hx : Wx 800000 x) (hy : Wx 800000 y) : exT (.mk 14 n t [x,y] ns) false = exT x true ++ [32] ++ t ++ [32] ++ exT y true:=by
 show (brk (apart x) (exW x) ++ [[32],t,[32]] ++ brk (apart y) (exW y) : Pcs).flatten = _
 rw [exT_w hx,exT_w hy]
 simp only [List.flatten_append,List.flatten_cons,List.flatten_nil,List.append_nil,List.append_assoc]
theorem exT_brk (k n : Nat) (t : List UInt8) (ks : List Ex) (ns : List (List UInt8)) (h : 12 ≤ k) : exT (.mk k n t ks ns) true = [40] ++ exT (.mk k n t ks ns) false ++ [41]:=by
 have : Nat.ble 12 (exK (.mk k n t ks ns)) = true:=Nat.ble_eq_true_of_le h
 unfold exT
 rw [this]; rfl
theorem exT_low (k n : Nat) (t : List UInt8) (ks : List Ex) (ns : List (List UInt8)) (b : Bool) (h : k < 12) : exT (.mk k n t ks ns) b = exT (.mk k n t ks ns) false:=by
 have : Nat.ble 12 (exK (.mk k n t ks ns)) = false:=by
  cases e : Nat.ble 12 (exK (.mk k n t ks ns)) with
  | false => rfl
  | true => have:=Nat.le_of_ble_eq_true e; have : 12 ≤ k:=this; omega
 unfold exT
 rw [this,Bool.and_false]; rfl
theorem c32 : (⟨#[32]⟩ : ByteArray).data.toList.length = 1:=rfl
theorem c40 : (⟨#[40]⟩ : ByteArray).data.toList.length = 1:=rfl
theorem c41 : (⟨#[41]⟩ : ByteArray).data.toList.length = 1:=rfl
theorem c61 : (⟨#[61]⟩ : ByteArray).data.toList.length = 1:=rfl
theorem c91 : (⟨#[91]⟩ : ByteArray).data.toList.length = 1:=rfl
theorem c93 : (⟨#[93]⟩ : ByteArray).data.toList.length = 1:=rfl
theorem c123 : (⟨#[123]⟩ : ByteArray).data.toList.length = 1:=rfl
theorem c125 : (⟨#[125]⟩ : ByteArray).data.toList.length = 1:=rfl
theorem c58 : (⟨#[58,32]⟩ : ByteArray).data.toList.length = 2:=rfl
theorem cFor : (⟨#[32,102,111,114,32]⟩ : ByteArray).data.toList.length = 5:=rfl
theorem cIn : (⟨#[32,105,110,32]⟩ : ByteArray).data.toList.length = 4:=rfl
theorem cIf : (⟨#[32,105,102,32]⟩ : ByteArray).data.toList.length = 4:=rfl
theorem wrap64 {z : Int} {k : Nat} (hz : z = (k : Int)) (h : k ≤ 4000000000000000000) : IntKind.i64.wrap z = (k : Int):=by
 have h1 : AV.int .i64 (IntKind.i64.wrap z) = .int .i64 (k : Int):=ai64 hz (by omega)
 exact (AV.int.inj h1).2
def exB0 (k n : Nat) (t : List UInt8) (ks : List Ex) (ns : List (List UInt8)) : Nat × Option Box:=(0,some (.cells [.int .i64 (k : Nat),.int .i64 (n : Nat),.str t,.sl true false 5 (exL ks),.sl true false 1 (texts ns)] ⟨false,some 54⟩))
def txB (u : Nat) (l : List (List UInt8)) : Nat × Option Box:=(u,some (.cells (texts l) ⟨false,none⟩))
theorem kidT_take (k : Nat) (ks : List Ex) (i : Nat) (h : i < ks.length) : (kidT k ks).take (i + 1) = (kidT k ks).take i ++ [exT ks[i] (inK k i)]:=by
 have hl : i < (kidT k ks).length:=by simpa [kidT] using h
 rw [List.take_succ_eq_append_getElem hl]
 simp [kidT]
theorem txFrzO {σ : Heap} {id ver n o : Nat} {g : Tag} (l : List (List UInt8)) (hn : n = (l.drop o).length) (hb : boxAt σ id = some (ver,texts l,g)) (ho : o ≤ l.length) : Frz false σ (.ms id ver o n 1 false) (.sl false false 1 (texts (l.drop o))):=by
 have hone : ∀ x ∈ texts (l.drop o),x.one = true:=fun x hx => by
  unfold texts at hx
  obtain ⟨y,_,rfl⟩:=List.mem_map.1 hx
  rfl
 rw [List.length_drop] at hn
 refine .ms hb ?_ ?_ (fun x hx => ?_) (by rw [texts_len,List.length_drop,hn]) (textsF _)
 ·rw [texts_len]; omega
 ·rw [flatMap_cells_one hone]
  unfold texts
  rw [List.map_drop,List.take_of_length_le (by rw [List.length_drop,List.length_map]; omega)]
 ·unfold texts at hx
  obtain ⟨y,_,rfl⟩:=List.mem_map.1 hx
  rfl
theorem txFrz {σ : Heap} {id ver n : Nat} {g : Tag} (l : List (List UInt8)) (hn : n = l.length) (hb : boxAt σ id = some (ver,texts l,g)) : Frz false σ (.ms id ver 0 n 1 false) (.sl false false 1 (texts l)):=txFrzO (o:=0) l hn hb (Nat.zero_le _)
theorem kid_get (l : List (List UInt8)) (i : Nat) (h : i < l.length) : (texts l)[i]? = some (.str (l.getD i [])):=by
 rw [texts_get h,List.getD_eq_getElem?_getD,List.getElem?_eq_getElem h]; rfl
theorem jnB_el (b : List UInt8) (l : List (List UInt8)) (t : List UInt8) (h : t ∈ l) : t.length ≤ (jnB b l).length:=by
 obtain ⟨i,hi,rfl⟩:=List.getElem_of_mem h
 have h1:=jnB_le b l (i + 1) hi
 rw [jnB_take b l i hi,List.length_append,List.length_append] at h1
 omega
theorem prs_get (k : List (List UInt8)) (j : Nat) (h : j < k.length / 2) : (k.getD (2 * j) [] ++ [58,32] ++ k.getD (2 * j + 1) []) ∈ prs k:=List.mem_map.2 ⟨j,List.mem_range.2 h,rfl⟩
theorem calT_el (ns k : List (List UInt8)) (m i : Nat) (hm : k.length = m) (h : i < m) (h0 : m - ns.length ≤ i) (hn : ns.length ≤ m) : (calT ns k)[i]'(by rw [calT_len]; omega) = ns[i - (m - ns.length)]'(by omega) ++ [61] ++ k[i]'(by omega):=by
 subst hm
 unfold calT
 rw [List.getElem_mapIdx,if_pos h0,List.getD_eq_getElem?_getD,List.getElem?_eq_getElem (by omega)]; rfl
theorem calT_pre (ns k : List (List UInt8)) : (calT ns k).take (k.length - ns.length) ++ k.drop (k.length - ns.length) = k:=by
 apply List.ext_getElem
 ·simp [calT_len]
 ·intro i h1 h2
  rw [List.getElem_append]
  split
  ·rename_i h
   rw [List.getElem_take]
   have h : i < k.length - ns.length:=by simp [calT_len] at h; omega
   unfold calT
   rw [List.getElem_mapIdx,if_neg (by omega)]; rfl
  ·rename_i h
   rw [List.getElem_drop]
   have hl : (List.take (k.length - ns.length) (calT ns k)).length = k.length - ns.length:=by simp [calT_len]
   congr 1
   rw [hl] at h ⊢
   omega
theorem calT_at (ns k : List (List UInt8)) (i : Nat) (h : i < k.length) : (texts ((calT ns k).take i ++ k.drop i))[i]? = some (.str k[i]):=by
 have hl : ((calT ns k).take i).length = i:=by rw [List.length_take,calT_len]; omega
 unfold texts
 rw [List.getElem?_map,List.getElem?_append_right (by omega),hl,Nat.sub_self,List.getElem?_drop,Nat.add_zero,List.getElem?_eq_getElem h]; rfl
theorem calT_step (ns k : List (List UInt8)) (m i : Nat) (hm : k.length = m) (h : i < m) (h0 : m - ns.length ≤ i) (hn : ns.length ≤ m) :
  (texts ((calT ns k).take i ++ k.drop i)).set i (.str (ns[i - (m - ns.length)]'(by omega) ++ [61] ++ k[i]'(by omega))) = texts ((calT ns k).take (i + 1) ++ k.drop (i + 1)):=by
 have hl : ((calT ns k).take i).length = i:=by rw [List.length_take,calT_len]; omega
 unfold texts
 rw [← calT_el ns k m i hm h h0 hn,← List.map_set,List.set_append_right _ _ (by omega),hl,Nat.sub_self,List.drop_eq_getElem_cons (by omega),List.set_cons_zero,List.take_succ_eq_append_getElem (by rw [calT_len]; omega),List.append_assoc]; rfl
theorem calT_0 (ns : List (List UInt8)) (x : Ex) (kr : List Ex) (h : ns.length ≤ kr.length) : (texts (calT ns (kidT 10 (x :: kr))))[0]? = some (.str (exT x true)):=by
 have hl : (kidT 10 (x :: kr)).length = kr.length + 1:=by simp [kidT]
 have h0 : 0 < (calT ns (kidT 10 (x :: kr))).length:=by rw [calT_len]; omega
 have e : (calT ns (kidT 10 (x :: kr)))[0] = exT x true:=by
  simp only [calT,List.getElem_mapIdx]
  rw [if_neg (by omega),List.nil_append]
  simp only [kidT,List.getElem_mapIdx]
  rfl
 rw [texts_get h0,e]
theorem exs1 (inner : Bool) (n : Nat) (t : List UInt8) (ns : List (List UInt8)) : Calc cx 44 [exA (.mk 1 n t [] ns),.bool inner] (.str (exT (.mk 1 n t [] ns) false)) :=
 pure_intro (fun a w => Tryz.call44 a w) Tryz.func44 rfl Tryz.ntmps44 rfl .str fun B => by
  cases inner
  case' true =>
   refine pB [.b true,.b false] rfl ?_
  case' false =>
   refine pB [.b false,.b false] rfl ?_
  all_goals
   refine S_while (α:=Unit) (fun _ => [(2,.ptr 0 0 0),(5,.nils),(6,.int .i64 (0 : Nat))]) (fun _ => [exB0 1 n t [] ns]) (fun _ => True) (fun _ => 0) ()
    trivial (.cons rfl (.cons rfl (.cons rfl (.nil _)))) rfl ?_
   intro _ _
   refine pB [.b false,.b true] rfl ?_
   exact S_retc .str rfl trivial rfl
theorem exs2 (inner : Bool) (n : Nat) (t : List UInt8) (ns : List (List UInt8)) : Calc cx 44 [exA (.mk 2 n t [] ns),.bool inner] (.str (exT (.mk 2 n t [] ns) false)) :=
 pure_intro (fun a w => Tryz.call44 a w) Tryz.func44 rfl Tryz.ntmps44 rfl .str fun B => by
  cases inner
  case' true =>
   refine pB [.b true,.b false] rfl ?_
  case' false =>
   refine pB [.b false,.b false] rfl ?_
  all_goals
   refine S_while (α:=Unit) (fun _ => [(2,.ptr 0 0 0),(5,.nils),(6,.int .i64 (0 : Nat))]) (fun _ => [exB0 2 n t [] ns]) (fun _ => True) (fun _ => 0) ()
    trivial (.cons rfl (.cons rfl (.cons rfl (.nil _)))) rfl ?_
   intro _ _
   refine pB [.b false,.b false,.b true] rfl ?_
   exact S_retc .str rfl trivial rfl
theorem exs3 (inner : Bool) (n : Nat) (t : List UInt8) (ns : List (List UInt8)) : Calc cx 44 [exA (.mk 3 n t [] ns),.bool inner] (.str (exT (.mk 3 n t [] ns) false)) :=
 pure_intro (fun a w => Tryz.call44 a w) Tryz.func44 rfl Tryz.ntmps44 rfl .str fun B => by
  cases inner
  case' true =>
   refine pB [.b true,.b false] rfl ?_
  case' false =>
   refine pB [.b false,.b false] rfl ?_
  all_goals
   refine S_while (α:=Unit) (fun _ => [(2,.ptr 0 0 0),(5,.nils),(6,.int .i64 (0 : Nat))]) (fun _ => [exB0 3 n t [] ns]) (fun _ => True) (fun _ => 0) ()
    trivial (.cons rfl (.cons rfl (.cons rfl (.nil _)))) rfl ?_
   intro _ _
   refine pB [.b false,.b false,.b false,.b true] rfl ?_
   exact S_retc .str rfl trivial rfl
theorem exs4 (inner : Bool) (n : Nat) (t : List UInt8) (ns : List (List UInt8)) (hn : n ≤ 9007199254740991) : Calc cx 44 [exA (.mk 4 n t [] ns),.bool inner] (.str (exT (.mk 4 n t [] ns) false)) :=
 pure_intro (fun a w => Tryz.call44 a w) Tryz.func44 rfl Tryz.ntmps44 rfl .str fun B => by
  have hI:=IntText_ok n hn
  have hF : exT (.mk 4 n t [] ns) false = Lib.itoa n:=List.append_nil _
  rw [hF]
  cases inner
  case' true =>
   refine pB [.b true,.b false] rfl ?_
  case' false =>
   refine pB [.b false,.b false] rfl ?_
  all_goals
   refine S_while (α:=Unit) (fun _ => [(2,.ptr 0 0 0),(5,.nils),(6,.int .i64 (0 : Nat))]) (fun _ => [exB0 4 n t [] ns]) (fun _ => True) (fun _ => 0) ()
    trivial (.cons rfl (.cons rfl (.cons rfl (.nil _)))) rfl ?_
   intro _ _
   refine pa [.b false,.b false,.b false,.b false,.b true,.v (.str (Lib.itoa n))] rfl ?_ ?_
   ·(repeat' with_reducible apply AllP_cons) <;> try exact aC
    ·exact ⟨_,hI,.cons (.refl .int) (.nil _)⟩
   exact S_retc .str rfl trivial rfl
theorem exs5 (inner : Bool) (n : Nat) (t : List UInt8) (ns : List (List UInt8)) (hn : t.length ≤ 70000000000000) : Calc cx 44 [exA (.mk 5 n t [] ns),.bool inner] (.str (exT (.mk 5 n t [] ns) false)) :=
 pure_intro (fun a w => Tryz.call44 a w) Tryz.func44 rfl Tryz.ntmps44 rfl .str fun B => by
  have hI:=QuoteText_ok t hn
  have hF : exT (.mk 5 n t [] ns) false = quoT t:=List.append_nil _
  rw [hF]
  cases inner
  case' true =>
   refine pB [.b true,.b false] rfl ?_
  case' false =>
   refine pB [.b false,.b false] rfl ?_
  all_goals
   refine S_while (α:=Unit) (fun _ => [(2,.ptr 0 0 0),(5,.nils),(6,.int .i64 (0 : Nat))]) (fun _ => [exB0 5 n t [] ns]) (fun _ => True) (fun _ => 0) ()
    trivial (.cons rfl (.cons rfl (.cons rfl (.nil _)))) rfl ?_
   intro _ _
   refine pa [.b false,.b false,.b false,.b false,.b false,.b true,.v (.str (quoT t))] rfl ?_ ?_
   ·(repeat' with_reducible apply AllP_cons) <;> try exact aC
    ·exact ⟨_,hI,.cons (.refl .str) (.nil _)⟩
   exact S_retc .str rfl trivial rfl
theorem exs6 (inner : Bool) (n : Nat) (t : List UInt8) (ns : List (List UInt8)) : Calc cx 44 [exA (.mk 6 n t [] ns),.bool inner] (.str (exT (.mk 6 n t [] ns) false)) :=
 pure_intro (fun a w => Tryz.call44 a w) Tryz.func44 rfl Tryz.ntmps44 rfl .str fun B => by
  have hF : exT (.mk 6 n t [] ns) false = t:=List.append_nil _
  rw [hF]
  cases inner
  case' true =>
   refine pB [.b true,.b false] rfl ?_
  case' false =>
   refine pB [.b false,.b false] rfl ?_
  all_goals
   refine S_while (α:=Unit) (fun _ => [(2,.ptr 0 0 0),(5,.nils),(6,.int .i64 (0 : Nat))]) (fun _ => [exB0 6 n t [] ns]) (fun _ => True) (fun _ => 0) ()
    trivial (.cons rfl (.cons rfl (.cons rfl (.nil _)))) rfl ?_
   intro _ _
   refine pB [.b false,.b false,.b false,.b false,.b false,.b false,.b true] rfl ?_
   exact S_retc .str rfl trivial rfl
theorem exs7 (inner : Bool) (n : Nat) (t : List UInt8) (ks : List Ex) (ns : List (List UInt8)) (hz : ks.length ≤ 1000000) (hlen : (exT (.mk 7 n t ks ns) false).length ≤ 70000000000000)
  (hk : ∀ x ∈ ks,∀ b,Calc cx 44 [exA x,.bool b] (.str (exT x b))) : Calc cx 44 [exA (.mk 7 n t ks ns),.bool inner] (.str (exT (.mk 7 n t ks ns) false)) :=
 pure_intro (fun a w => Tryz.call44 a w) Tryz.func44 rfl Tryz.ntmps44 rfl .str fun B => by
  have hkl : (kidT 7 ks).length = ks.length:=by simp [kidT]
  have hll : (exL ks).length = ks.length:=by rw [exL_map]; simp
  cases inner
  case' true =>
   refine pB [.b true,.b false] rfl ?_
  case' false =>
   refine pB [.b false,.b false] rfl ?_
  all_goals
   refine S_ghostF (t:=5) 1 ⟨false,none⟩ rfl rfl ⟨_,_,.inl rfl⟩ ?_
   refine S_while (α:=Nat) (fun i => [(2,.ptr 0 0 0),(5,.ms 1 i 0 i 1 false),(6,.int .i64 (i : Nat))]) (fun i => [exB0 7 n t ks ns,txB i ((kidT 7 ks).take i)]) (fun i => i ≤ ks.length) (fun i => ks.length - i) 0
    (Nat.zero_le _) (.cons rfl (.cons rfl (.cons rfl (.nil _)))) rfl ?_
   intro i hi
   have hi : i ≤ ks.length:=hi
   by_cases hlt : i < ks.length
   ·obtain ⟨y,hy⟩ : ∃ y,ks[i] = y:=⟨_,rfl⟩
    have hc:=hk _ (List.getElem_mem hlt) false
    have he:=exL_get hlt hy
    have hkt:=kidT_take 7 ks i hlt
    have hik : inK 7 i = false:=rfl
    rw [hik] at hkt
    rw [hy] at hc hkt
    obtain ⟨yk,yn,yt,ys,ym⟩:=y
    have e0 : decide ((i : Int) < (((exL ks).length : Nat) : Int)) = true:=decide_eq_true (by omega)
    refine pa [.b true,.d 25 26 [38,42,47] (fun _ => [exB0 7 n t ks ns,txB (i + 1) ((kidT 7 ks).take (i + 1))]) [exA (.mk yk yn yt ys ym),.str (exT (.mk yk yn yt ys ym) false),.ms 1 (i + 1) 0 (i + 1) 1 false]] rfl ?_ ?_
    ·(repeat' with_reducible apply AllP_cons) <;> try exact aC
     ·exact ⟨_,hc,.cons (.refl (exT_free yk yn yt ys ym)) (.cons (.refl .bool) (.nil _))⟩
     ·exact ⟨_,hc,.cons (.refl (exT_free yk yn yt ys ym)) (.cons (.refl .bool) (.nil _))⟩
     ·show 0 + i * 1 = (texts ((kidT 7 ks).take i)).length
      rw [texts_len,List.length_take,hkl]; omega
     ·show (i + 1) * 16 ≤ 140737488355328; omega
     ·show [exB0 7 n t ks ns,(i + 1,some (Box.cells (texts ((kidT 7 ks).take i) ++ [.str (exT (.mk yk yn yt ys ym) false)]) ⟨false,none⟩))] = [exB0 7 n t ks ns,txB (i + 1) ((kidT 7 ks).take (i + 1))]
      rw [hkt]
      unfold txB texts
      rw [List.map_append]; rfl
    exact S_round (i + 1) (by show ks.length - (i + 1) < ks.length - i; omega) hlt (.cons rfl (.cons rfl (.cons (nX (by omega)) (.nil _)))) rfl
   ·have e0 : decide ((i : Int) < (((exL ks).length : Nat) : Int)) = false:=decide_eq_false (by omega)
    obtain rfl : i = ks.length:=by omega
    rw [List.take_of_length_le (by rw [hkl]; exact Nat.le_refl _)]
    rw [hjn7] at hlen ⊢
    simp only [List.length_append,List.length_cons,List.length_nil] at hlen
    have hJ:=Joined_ok (st:=false) (fl:=false) (kidT 7 ks) [44,32] (by omega) (by omega)
    refine pa [.b false,.b false,.b false,.b false,.b false,.b false,.b false,.b true,.v (.str (jnB [44,32] (kidT 7 ks)))] rfl ?_ ?_
    ·(repeat' with_reducible apply AllP_cons) <;> try exact aC
     ·exact ⟨_,hJ,.cons (txFrz _ hkl.symm rfl) (.cons (.refl .str) (.nil _))⟩
     ·rw [List.length_append,c91,c93]; omega
    exact S_retc .str rfl trivial rfl
theorem exs8 (inner : Bool) (n : Nat) (t : List UInt8) (ks : List Ex) (ns : List (List UInt8)) (hz : ks.length ≤ 1000000) (he2 : ks.length % 2 = 0) (hlen : (exT (.mk 8 n t ks ns) false).length ≤ 70000000000000)
  (hk : ∀ x ∈ ks,∀ b,Calc cx 44 [exA x,.bool b] (.str (exT x b))) : Calc cx 44 [exA (.mk 8 n t ks ns),.bool inner] (.str (exT (.mk 8 n t ks ns) false)) :=
 pure_intro (fun a w => Tryz.call44 a w) Tryz.func44 rfl Tryz.ntmps44 rfl .str fun B => by
  have hkl : (kidT 8 ks).length = ks.length:=by simp [kidT]
  have hll : (exL ks).length = ks.length:=by rw [exL_map]; simp
  cases inner
  case' true =>
   refine pB [.b true,.b false] rfl ?_
  case' false =>
   refine pB [.b false,.b false] rfl ?_
  all_goals
   refine S_ghostF (t:=5) 1 ⟨false,none⟩ rfl rfl ⟨_,_,.inl rfl⟩ ?_
   refine S_while (α:=Nat) (fun i => [(2,.ptr 0 0 0),(5,.ms 1 i 0 i 1 false),(6,.int .i64 (i : Nat))]) (fun i => [exB0 8 n t ks ns,txB i ((kidT 8 ks).take i)]) (fun i => i ≤ ks.length) (fun i => ks.length - i) 0
    (Nat.zero_le _) (.cons rfl (.cons rfl (.cons rfl (.nil _)))) rfl ?_
   intro i hi
   have hi : i ≤ ks.length:=hi
   by_cases hlt : i < ks.length
   ·obtain ⟨y,hy⟩ : ∃ y,ks[i] = y:=⟨_,rfl⟩
    have hc:=hk _ (List.getElem_mem hlt) false
    have he:=exL_get hlt hy
    have hkt:=kidT_take 8 ks i hlt
    have hik : inK 8 i = false:=rfl
    rw [hik] at hkt
    rw [hy] at hc hkt
    obtain ⟨yk,yn,yt,ys,ym⟩:=y
    have e0 : decide ((i : Int) < (((exL ks).length : Nat) : Int)) = true:=decide_eq_true (by omega)
    refine pa [.b true,.d 25 26 [38,42,47] (fun _ => [exB0 8 n t ks ns,txB (i + 1) ((kidT 8 ks).take (i + 1))]) [exA (.mk yk yn yt ys ym),.str (exT (.mk yk yn yt ys ym) false),.ms 1 (i + 1) 0 (i + 1) 1 false]] rfl ?_ ?_
    ·(repeat' with_reducible apply AllP_cons) <;> try exact aC
     ·exact ⟨_,hc,.cons (.refl (exT_free yk yn yt ys ym)) (.cons (.refl .bool) (.nil _))⟩
     ·exact ⟨_,hc,.cons (.refl (exT_free yk yn yt ys ym)) (.cons (.refl .bool) (.nil _))⟩
     ·show 0 + i * 1 = (texts ((kidT 8 ks).take i)).length
      rw [texts_len,List.length_take,hkl]; omega
     ·show (i + 1) * 16 ≤ 140737488355328; omega
     ·show [exB0 8 n t ks ns,(i + 1,some (Box.cells (texts ((kidT 8 ks).take i) ++ [.str (exT (.mk yk yn yt ys ym) false)]) ⟨false,none⟩))] = [exB0 8 n t ks ns,txB (i + 1) ((kidT 8 ks).take (i + 1))]
      rw [hkt]
      unfold txB texts
      rw [List.map_append]; rfl
    exact S_round (i + 1) (by show ks.length - (i + 1) < ks.length - i; omega) hlt (.cons rfl (.cons rfl (.cons (nX (by omega)) (.nil _)))) rfl
   ·have e0 : decide ((i : Int) < (((exL ks).length : Nat) : Int)) = false:=decide_eq_false (by omega)
    obtain rfl : i = ks.length:=by omega
    rw [List.take_of_length_le (by rw [hkl]; exact Nat.le_refl _)]
    rw [hjn8 _ _ _ _ he2] at hlen ⊢
    simp only [List.length_append,List.length_cons,List.length_nil] at hlen
    have hpl:=prs_len (kidT 8 ks)
    rw [hkl] at hpl
    refine pB [.b false,.b false,.b false,.b false,.b false,.b false,.b false,.b false,.b true] rfl ?_
    refine S_ghostF (t:=7) 1 ⟨false,none⟩ rfl rfl ⟨_,_,.inl rfl⟩ ?_
    refine S_while (α:=Nat) (fun j => [(2,.ptr 0 0 0),(5,.ms 1 ks.length 0 ks.length 1 false),(7,.ms 2 j 0 j 1 false),(8,.int .i64 ((2 * j : Nat) : Int))]) (fun j => [exB0 8 n t ks ns,txB ks.length (kidT 8 ks),txB j ((prs (kidT 8 ks)).take j)]) (fun j => j ≤ ks.length / 2) (fun j => ks.length / 2 - j) 0
     (Nat.zero_le _) (.cons rfl (.cons rfl (.cons rfl (.cons rfl (.nil _))))) rfl ?_
    intro j hj
    have hj : j ≤ ks.length / 2:=hj
    by_cases hlt : j < ks.length / 2
    ·have e0 : decide (((2 * j : Nat) : Int) < (ks.length : Int)) = true:=decide_eq_true (by omega)
     have hw : IntKind.i64.wrap (((2 * j : Nat) : Int) + 1) = ((2 * j + 1 : Nat) : Int):=wrap64 (by omega) (by omega)
     have g1:=kid_get (kidT 8 ks) (2 * j) (by omega)
     have g2:=kid_get (kidT 8 ks) (2 * j + 1) (by omega)
     have hpt:=prs_take (kidT 8 ks) j (by rw [hkl]; exact hlt)
     have hjl:=jnB_el [44,32] (prs (kidT 8 ks)) _ (prs_get (kidT 8 ks) j (by rw [hkl]; exact hlt))
     simp only [List.length_append,List.length_cons,List.length_nil] at hjl
     generalize (kidT 8 ks).getD (2 * j) [] = a at g1 hpt hjl
     generalize (kidT 8 ks).getD (2 * j + 1) [] = b at g2 hpt hjl
     refine pa [.b true,.d 13 14 [] (fun _ => [exB0 8 n t ks ns,txB ks.length (kidT 8 ks),txB (j + 1) ((prs (kidT 8 ks)).take (j + 1))]) [.top,.str a,.top,.str b,.ms 2 (j + 1) 0 (j + 1) 1 false]] rfl ?_ ?_
     ·(repeat' with_reducible apply AllP_cons) <;> try exact aC
      ·show ((texts (kidT 8 ks)).drop (((2 * j : Nat) : Int)).toNat)[0]? = _; rw [List.getElem?_drop]; exact g1
      ·show ((texts (kidT 8 ks)).drop (((2 * j : Nat) : Int)).toNat)[0]? = _; rw [List.getElem?_drop]; exact g1
      ·show ((texts (kidT 8 ks)).drop (IntKind.i64.wrap (((2 * j : Nat) : Int) + 1)).toNat)[0]? = _; rw [hw,List.getElem?_drop]; exact g2
      ·show ((texts (kidT 8 ks)).drop (IntKind.i64.wrap (((2 * j : Nat) : Int) + 1)).toNat)[0]? = _; rw [hw,List.getElem?_drop]; exact g2
      ·rw [List.length_append,c58]; omega
      ·rw [List.length_append,c58]; omega
      ·show 0 + j * 1 = (texts ((prs (kidT 8 ks)).take j)).length
       rw [texts_len,List.length_take,hpl]; omega
      ·show (j + 1) * 16 ≤ 140737488355328; omega
      ·show [exB0 8 n t ks ns,txB ks.length (kidT 8 ks),(j + 1,some (Box.cells (texts ((prs (kidT 8 ks)).take j) ++ [.str (a ++ [58,32] ++ b)]) ⟨false,none⟩))] = [exB0 8 n t ks ns,txB ks.length (kidT 8 ks),txB (j + 1) ((prs (kidT 8 ks)).take (j + 1))]
       rw [hpt]
       unfold txB texts
       rw [List.map_append]; rfl
     exact S_round (j + 1) (by show ks.length / 2 - (j + 1) < ks.length / 2 - j; omega) hlt (.cons rfl (.cons rfl (.cons rfl (.cons (by show AV.int .i64 (IntKind.i64.wrap (((2 * j : Nat) : Int) + 2)) = .int .i64 ((2 * (j + 1) : Nat) : Int); rw [wrap64 (k:=2 * j + 2) (by omega) (by omega)]; rfl) (.nil _))))) rfl
    ·have e0 : decide (((2 * j : Nat) : Int) < (ks.length : Int)) = false:=decide_eq_false (by omega)
     obtain rfl : j = ks.length / 2:=by omega
     rw [List.take_of_length_le (by rw [hpl]; exact Nat.le_refl _)]
     have hJ:=Joined_ok (st:=false) (fl:=false) (prs (kidT 8 ks)) [44,32] (by omega) (by omega)
     refine pa [.b false,.v (.str (jnB [44,32] (prs (kidT 8 ks))))] rfl ?_ ?_
     ·(repeat' with_reducible apply AllP_cons) <;> try exact aC
      ·exact ⟨_,hJ,.cons (txFrz _ hpl.symm rfl) (.cons (.refl .str) (.nil _))⟩
      ·rw [List.length_append,c123,c125]; omega
     exact S_retc .str rfl trivial rfl
theorem exs9a (inner : Bool) (n : Nat) (t : List UInt8) (ks : List Ex) (ns : List (List UInt8)) (hz : ks.length ≤ 1000000) (x y : Ex) (hx : ks = [x,y]) (hlen : (exT (.mk 9 n t ks ns) false).length ≤ 70000000000000)
  (hk : ∀ x ∈ ks,∀ b,Calc cx 44 [exA x,.bool b] (.str (exT x b))) : Calc cx 44 [exA (.mk 9 n t ks ns),.bool inner] (.str (exT (.mk 9 n t ks ns) false)) :=
 pure_intro (fun a w => Tryz.call44 a w) Tryz.func44 rfl Tryz.ntmps44 rfl .str fun B => by
  have hkl : (kidT 9 ks).length = ks.length:=by simp [kidT]
  have hll : (exL ks).length = ks.length:=by rw [exL_map]; simp
  cases inner
  case' true =>
   refine pB [.b true,.b false] rfl ?_
  case' false =>
   refine pB [.b false,.b false] rfl ?_
  all_goals
   refine S_ghostF (t:=5) 1 ⟨false,none⟩ rfl rfl ⟨_,_,.inl rfl⟩ ?_
   refine S_while (α:=Nat) (fun i => [(2,.ptr 0 0 0),(5,.ms 1 i 0 i 1 false),(6,.int .i64 (i : Nat))]) (fun i => [exB0 9 n t ks ns,txB i ((kidT 9 ks).take i)]) (fun i => i ≤ ks.length) (fun i => ks.length - i) 0
    (Nat.zero_le _) (.cons rfl (.cons rfl (.cons rfl (.nil _)))) rfl ?_
   intro i hi
   have hi : i ≤ ks.length:=hi
   by_cases hlt : i < ks.length
   ·obtain ⟨y,hy⟩ : ∃ y,ks[i] = y:=⟨_,rfl⟩
    have hc:=hk _ (List.getElem_mem hlt) false
    have he:=exL_get hlt hy
    have hkt:=kidT_take 9 ks i hlt
    have hik : inK 9 i = false:=rfl
    rw [hik] at hkt
    rw [hy] at hc hkt
    obtain ⟨yk,yn,yt,ys,ym⟩:=y
    have e0 : decide ((i : Int) < (((exL ks).length : Nat) : Int)) = true:=decide_eq_true (by omega)
    refine pa [.b true,.d 25 26 [38,42,47] (fun _ => [exB0 9 n t ks ns,txB (i + 1) ((kidT 9 ks).take (i + 1))]) [exA (.mk yk yn yt ys ym),.str (exT (.mk yk yn yt ys ym) false),.ms 1 (i + 1) 0 (i + 1) 1 false]] rfl ?_ ?_
    ·(repeat' with_reducible apply AllP_cons) <;> try exact aC
     ·exact ⟨_,hc,.cons (.refl (exT_free yk yn yt ys ym)) (.cons (.refl .bool) (.nil _))⟩
     ·exact ⟨_,hc,.cons (.refl (exT_free yk yn yt ys ym)) (.cons (.refl .bool) (.nil _))⟩
     ·show 0 + i * 1 = (texts ((kidT 9 ks).take i)).length
      rw [texts_len,List.length_take,hkl]; omega
     ·show (i + 1) * 16 ≤ 140737488355328; omega
     ·show [exB0 9 n t ks ns,(i + 1,some (Box.cells (texts ((kidT 9 ks).take i) ++ [.str (exT (.mk yk yn yt ys ym) false)]) ⟨false,none⟩))] = [exB0 9 n t ks ns,txB (i + 1) ((kidT 9 ks).take (i + 1))]
      rw [hkt]
      unfold txB texts
      rw [List.map_append]; rfl
    exact S_round (i + 1) (by show ks.length - (i + 1) < ks.length - i; omega) hlt (.cons rfl (.cons rfl (.cons (nX (by omega)) (.nil _)))) rfl
   ·have e0 : decide ((i : Int) < (((exL ks).length : Nat) : Int)) = false:=decide_eq_false (by omega)
    obtain rfl : i = ks.length:=by omega
    rw [List.take_of_length_le (by rw [hkl]; exact Nat.le_refl _)]
    subst hx
    rw [hjn9a] at hlen ⊢
    simp only [List.length_append,List.length_cons,List.length_nil] at hlen
    refine pa [.b false,.b false,.b false,.b false,.b false,.b false,.b false,.b false,.b false,.b true,.v .top,.v (.str (exT x false)),.v .top,.v (.str (exT y false)),.b false] rfl ?_ ?_
    ·(repeat' with_reducible apply AllP_cons) <;> try exact aC
     all_goals (repeat rw [List.length_append])
     all_goals (try rw [c91])
     all_goals (try rw [c93])
     all_goals (try rw [c123])
     all_goals (try rw [c125])
     all_goals (try rw [c40])
     all_goals (try rw [c41])
     all_goals (try rw [c61])
     all_goals (try rw [c58])
     all_goals (try rw [c32])
     all_goals (try rw [cFor])
     all_goals (try rw [cIn])
     all_goals (try rw [cIf])
     all_goals omega
    exact S_retc .str rfl trivial rfl
theorem exs9b (inner : Bool) (n : Nat) (t : List UInt8) (ks : List Ex) (ns : List (List UInt8)) (hz : ks.length ≤ 1000000) (x y z : Ex) (hx : ks = [x,y,z]) (hlen : (exT (.mk 9 n t ks ns) false).length ≤ 70000000000000)
  (hk : ∀ x ∈ ks,∀ b,Calc cx 44 [exA x,.bool b] (.str (exT x b))) : Calc cx 44 [exA (.mk 9 n t ks ns),.bool inner] (.str (exT (.mk 9 n t ks ns) false)) :=
 pure_intro (fun a w => Tryz.call44 a w) Tryz.func44 rfl Tryz.ntmps44 rfl .str fun B => by
  have hkl : (kidT 9 ks).length = ks.length:=by simp [kidT]
  have hll : (exL ks).length = ks.length:=by rw [exL_map]; simp
  cases inner
  case' true =>
   refine pB [.b true,.b false] rfl ?_
  case' false =>
   refine pB [.b false,.b false] rfl ?_
  all_goals
   refine S_ghostF (t:=5) 1 ⟨false,none⟩ rfl rfl ⟨_,_,.inl rfl⟩ ?_
   refine S_while (α:=Nat) (fun i => [(2,.ptr 0 0 0),(5,.ms 1 i 0 i 1 false),(6,.int .i64 (i : Nat))]) (fun i => [exB0 9 n t ks ns,txB i ((kidT 9 ks).take i)]) (fun i => i ≤ ks.length) (fun i => ks.length - i) 0
    (Nat.zero_le _) (.cons rfl (.cons rfl (.cons rfl (.nil _)))) rfl ?_
   intro i hi
   have hi : i ≤ ks.length:=hi
   by_cases hlt : i < ks.length
   ·obtain ⟨y,hy⟩ : ∃ y,ks[i] = y:=⟨_,rfl⟩
    have hc:=hk _ (List.getElem_mem hlt) false
    have he:=exL_get hlt hy
    have hkt:=kidT_take 9 ks i hlt
    have hik : inK 9 i = false:=rfl
    rw [hik] at hkt
    rw [hy] at hc hkt
    obtain ⟨yk,yn,yt,ys,ym⟩:=y
    have e0 : decide ((i : Int) < (((exL ks).length : Nat) : Int)) = true:=decide_eq_true (by omega)
    refine pa [.b true,.d 25 26 [38,42,47] (fun _ => [exB0 9 n t ks ns,txB (i + 1) ((kidT 9 ks).take (i + 1))]) [exA (.mk yk yn yt ys ym),.str (exT (.mk yk yn yt ys ym) false),.ms 1 (i + 1) 0 (i + 1) 1 false]] rfl ?_ ?_
    ·(repeat' with_reducible apply AllP_cons) <;> try exact aC
     ·exact ⟨_,hc,.cons (.refl (exT_free yk yn yt ys ym)) (.cons (.refl .bool) (.nil _))⟩
     ·exact ⟨_,hc,.cons (.refl (exT_free yk yn yt ys ym)) (.cons (.refl .bool) (.nil _))⟩
     ·show 0 + i * 1 = (texts ((kidT 9 ks).take i)).length
      rw [texts_len,List.length_take,hkl]; omega
     ·show (i + 1) * 16 ≤ 140737488355328; omega
     ·show [exB0 9 n t ks ns,(i + 1,some (Box.cells (texts ((kidT 9 ks).take i) ++ [.str (exT (.mk yk yn yt ys ym) false)]) ⟨false,none⟩))] = [exB0 9 n t ks ns,txB (i + 1) ((kidT 9 ks).take (i + 1))]
      rw [hkt]
      unfold txB texts
      rw [List.map_append]; rfl
    exact S_round (i + 1) (by show ks.length - (i + 1) < ks.length - i; omega) hlt (.cons rfl (.cons rfl (.cons (nX (by omega)) (.nil _)))) rfl
   ·have e0 : decide ((i : Int) < (((exL ks).length : Nat) : Int)) = false:=decide_eq_false (by omega)
    obtain rfl : i = ks.length:=by omega
    rw [List.take_of_length_le (by rw [hkl]; exact Nat.le_refl _)]
    subst hx
    rw [hjn9b] at hlen ⊢
    simp only [List.length_append,List.length_cons,List.length_nil] at hlen
    refine pa [.b false,.b false,.b false,.b false,.b false,.b false,.b false,.b false,.b false,.b true,.v .top,.v (.str (exT x false)),.v .top,.v (.str (exT y false)),.b true,.v .top,.v (.str (exT z false))] rfl ?_ ?_
    ·(repeat' with_reducible apply AllP_cons) <;> try exact aC
     all_goals (repeat rw [List.length_append])
     all_goals (try rw [c91])
     all_goals (try rw [c93])
     all_goals (try rw [c123])
     all_goals (try rw [c125])
     all_goals (try rw [c40])
     all_goals (try rw [c41])
     all_goals (try rw [c61])
     all_goals (try rw [c58])
     all_goals (try rw [c32])
     all_goals (try rw [cFor])
     all_goals (try rw [cIn])
     all_goals (try rw [cIf])
     all_goals omega
    exact S_retc .str rfl trivial rfl
theorem exs10 (inner : Bool) (n : Nat) (t : List UInt8) (ks : List Ex) (ns : List (List UInt8)) (hz : ks.length ≤ 1000000) (x : Ex) (kr : List Ex) (hx : ks = x :: kr) (hw : Wx 800000 x) (hns : ns.length ≤ kr.length) (hlen : (exT (.mk 10 n t ks ns) false).length ≤ 70000000000000)
  (hk : ∀ x ∈ ks,∀ b,Calc cx 44 [exA x,.bool b] (.str (exT x b))) : Calc cx 44 [exA (.mk 10 n t ks ns),.bool inner] (.str (exT (.mk 10 n t ks ns) false)) :=
 pure_intro (fun a w => Tryz.call44 a w) Tryz.func44 rfl Tryz.ntmps44 rfl .str fun B => by
  have hkl : (kidT 10 ks).length = ks.length:=by simp [kidT]
  have hll : (exL ks).length = ks.length:=by rw [exL_map]; simp
  cases inner
  case' true =>
   refine pB [.b true,.b false] rfl ?_
  case' false =>
   refine pB [.b false,.b false] rfl ?_
  all_goals
   refine S_ghostF (t:=5) 1 ⟨false,none⟩ rfl rfl ⟨_,_,.inl rfl⟩ ?_
   refine S_while (α:=Nat) (fun i => [(2,.ptr 0 0 0),(5,.ms 1 i 0 i 1 false),(6,.int .i64 (i : Nat))]) (fun i => [exB0 10 n t ks ns,txB i ((kidT 10 ks).take i)]) (fun i => i ≤ ks.length) (fun i => ks.length - i) 0
    (Nat.zero_le _) (.cons rfl (.cons rfl (.cons rfl (.nil _)))) rfl ?_
   intro i hi
   have hi : i ≤ ks.length:=hi
   by_cases hlt : i < ks.length
   ·obtain ⟨y,hy⟩ : ∃ y,ks[i] = y:=⟨_,rfl⟩
    cases i with
    | zero =>
     have hc:=hk _ (List.getElem_mem hlt) true
     have he:=exL_get hlt hy
     have hkt:=kidT_take 10 ks 0 hlt
     have hik : inK 10 0 = true:=rfl
     rw [hik] at hkt
     rw [hy] at hc hkt
     obtain ⟨yk,yn,yt,ys,ym⟩:=y
     have e0 : decide (((0 : Nat) : Int) < (((exL ks).length : Nat) : Int)) = true:=decide_eq_true (by omega)
     refine pa [.b true,.d 25 26 [38,42,47] (fun _ => [exB0 10 n t ks ns,txB (0 + 1) ((kidT 10 ks).take (0 + 1))]) [exA (.mk yk yn yt ys ym),.str (exT (.mk yk yn yt ys ym) true),.ms 1 (0 + 1) 0 (0 + 1) 1 false]] rfl ?_ ?_
     ·(repeat' with_reducible apply AllP_cons) <;> try exact aC
      ·exact ⟨_,hc,.cons (.refl (exT_free yk yn yt ys ym)) (.cons (.refl .bool) (.nil _))⟩
      ·exact ⟨_,hc,.cons (.refl (exT_free yk yn yt ys ym)) (.cons (.refl .bool) (.nil _))⟩
      ·show [exB0 10 n t ks ns,(0 + 1,some (Box.cells (texts ((kidT 10 ks).take 0) ++ [.str (exT (.mk yk yn yt ys ym) true)]) ⟨false,none⟩))] = [exB0 10 n t ks ns,txB (0 + 1) ((kidT 10 ks).take (0 + 1))]
       rw [hkt]
       unfold txB texts
       rw [List.map_append]; rfl
     exact S_round (0 + 1) (by show ks.length - (0 + 1) < ks.length - 0; omega) hlt (.cons rfl (.cons rfl (.cons (nX (by omega)) (.nil _)))) rfl
    | succ i =>
     have hc:=hk _ (List.getElem_mem hlt) false
     have he:=exL_get hlt hy
     have hkt:=kidT_take 10 ks (i + 1) hlt
     have hik : inK 10 (i + 1) = false:=rfl
     rw [hik] at hkt
     rw [hy] at hc hkt
     obtain ⟨yk,yn,yt,ys,ym⟩:=y
     have e0 : decide (((i + 1 : Nat) : Int) < (((exL ks).length : Nat) : Int)) = true:=decide_eq_true (by omega)
     have e5 : ((((i + 1 : Nat) : Nat) : Int) == 0) = false:=beq_false_of_ne (by omega)
     refine pa [.b true,.d 25 26 [38,42,47] (fun _ => [exB0 10 n t ks ns,txB (i + 1 + 1) ((kidT 10 ks).take (i + 1 + 1))]) [exA (.mk yk yn yt ys ym),.str (exT (.mk yk yn yt ys ym) false),.ms 1 (i + 1 + 1) 0 (i + 1 + 1) 1 false]] rfl ?_ ?_
     ·(repeat' with_reducible apply AllP_cons) <;> try exact aC
      ·exact ⟨_,hc,.cons (.refl (exT_free yk yn yt ys ym)) (.cons (.refl .bool) (.nil _))⟩
      ·exact ⟨_,hc,.cons (.refl (exT_free yk yn yt ys ym)) (.cons (.refl .bool) (.nil _))⟩
      ·show 0 + (i + 1) * 1 = (texts ((kidT 10 ks).take (i + 1))).length
       rw [texts_len,List.length_take,hkl]; omega
      ·show (i + 1 + 1) * 16 ≤ 140737488355328; omega
      ·show [exB0 10 n t ks ns,(i + 1 + 1,some (Box.cells (texts ((kidT 10 ks).take (i + 1)) ++ [.str (exT (.mk yk yn yt ys ym) false)]) ⟨false,none⟩))] = [exB0 10 n t ks ns,txB (i + 1 + 1) ((kidT 10 ks).take (i + 1 + 1))]
       rw [hkt]
       unfold txB texts
       rw [List.map_append]; rfl
     exact S_round (i + 1 + 1) (by show ks.length - (i + 1 + 1) < ks.length - (i + 1); omega) hlt (.cons rfl (.cons rfl (.cons (by show AV.int .i64 (IntKind.i64.wrap (((i + 1 : Nat) : Int) + 1)) = .int .i64 ((i + 1 + 1 : Nat) : Int); exact ai64 rfl (by omega)) (.nil _)))) rfl
   ·have e0 : decide ((i : Int) < (((exL ks).length : Nat) : Int)) = false:=decide_eq_false (by omega)
    obtain rfl : i = ks.length:=by omega
    rw [List.take_of_length_le (by rw [hkl]; exact Nat.le_refl _)]
    have hj10 : exT (.mk 10 n t ks ns) false = exT x true ++ [40] ++ jnB [44,32] ((calT ns (kidT 10 ks)).drop 1) ++ [41]:=by rw [hx]; exact hjn10 n t x kr ns hw hns
    rw [hj10] at hlen ⊢
    simp only [List.length_append,List.length_cons,List.length_nil] at hlen
    have hksl : ks.length = kr.length + 1:=by rw [hx]; rfl
    have hcl:=calT_len ns (kidT 10 ks)
    rw [hkl] at hcl
    have hpre:=calT_pre ns (kidT 10 ks)
    rw [hkl] at hpre
    have hnl:=texts_len ns
    have hw0 : IntKind.i64.wrap ((ks.length : Int) - (ns.length : Int)) = ((ks.length - ns.length : Nat) : Int):=wrap64 (by omega) (by omega)
    have hw1 : IntKind.i64.wrap ((ks.length : Int) - (((texts ns).length : Nat) : Int)) = ((ks.length - ns.length : Nat) : Int):=by rw [hnl]; exact hw0
    refine pB [.b false,.b false,.b false,.b false,.b false,.b false,.b false,.b false,.b false,.b false,.b true] rfl ?_
    refine S_while (α:=Nat) (fun i => [(2,.ptr 0 0 0),(5,.ms 1 ks.length 0 ks.length 1 false),(10,.int .i64 ((ks.length - ns.length : Nat) : Int)),(11,.int .i64 (i : Nat))]) (fun i => [exB0 10 n t ks ns,txB ks.length ((calT ns (kidT 10 ks)).take i ++ (kidT 10 ks).drop i)]) (fun i => ks.length - ns.length ≤ i ∧ i ≤ ks.length) (fun i => ks.length - i) (ks.length - ns.length)
     ⟨Nat.le_refl _,by omega⟩ (.cons rfl (.cons rfl (.cons (by show AV.int .i64 _ = _; rw [hw1]) (.cons (by show AV.int .i64 _ = _; rw [hw1]) (.nil _))))) (by show [_,txB ks.length (kidT 10 ks)] = _; rw [hpre]) ?_
    intro i hi
    obtain ⟨hi0,hi⟩ : ks.length - ns.length ≤ i ∧ i ≤ ks.length:=hi
    by_cases hlt : i < ks.length
    ·have e0 : decide ((i : Int) < (ks.length : Int)) = true:=decide_eq_true (by omega)
     have hw2 : IntKind.i64.wrap ((i : Int) - ((ks.length - ns.length : Nat) : Int)) = ((i - (ks.length - ns.length) : Nat) : Int):=wrap64 (by omega) (by omega)
     have g1:=texts_get (l:=ns) (i:=i - (ks.length - ns.length)) (by omega)
     have g2:=calT_at ns (kidT 10 ks) i (by omega)
     have g3:=calT_step ns (kidT 10 ks) ks.length i hkl (by omega) (by omega) (by omega)
     have hjl : ((calT ns (kidT 10 ks))[i]'(by omega)).length ≤ _:=jnB_el [44,32] ((calT ns (kidT 10 ks)).drop 1) ((calT ns (kidT 10 ks))[i]'(by omega)) (List.mem_drop_iff_getElem.2 ⟨i - 1,by omega,by congr 1; omega⟩)
     rw [calT_el ns (kidT 10 ks) ks.length i hkl (by omega) (by omega) (by omega)] at hjl
     simp only [List.length_append,List.length_cons,List.length_nil,hkl] at hjl
     generalize hcs : (calT ns (kidT 10 ks)).take i ++ (kidT 10 ks).drop i = cs at g2 g3
     generalize ns[i - (ks.length - ns.length)]'(by omega) = nm at g1 g3 hjl
     generalize (kidT 10 ks)[i]'(by omega) = a at g2 g3 hjl
     refine pa [.b true,.v (.str nm),.v .top,.v (.str a),.v .top] rfl ?_ ?_
     ·(repeat' with_reducible apply AllP_cons) <;> try exact aC
      ·rw [hw2]; exact g1
      ·show ((texts cs).drop ((i : Int)).toNat)[0]? = _; rw [List.getElem?_drop]; exact g2
      ·rw [List.length_append,c61]; omega
      ·show i + 1 ≤ (texts cs).length
       rw [texts_len,← hcs,List.length_append,List.length_take,hcl,List.length_drop,hkl]; omega
     have hsr : setRange (texts cs) i [.str (nm ++ [61] ++ a)] = texts ((calT ns (kidT 10 ks)).take (i + 1) ++ (kidT 10 ks).drop (i + 1)):=g3
     exact S_round (i + 1) (by show ks.length - (i + 1) < ks.length - i; omega) ⟨by omega,hlt⟩ (.cons rfl (.cons rfl (.cons rfl (.cons (nX (by omega)) (.nil _))))) (by show [exB0 10 n t ks ns,(ks.length,some (Box.cells (setRange (texts cs) i [.str (nm ++ [61] ++ a)]) _))] = _; rw [hsr]; rfl)
    ·have e0 : decide ((i : Int) < (ks.length : Int)) = false:=decide_eq_false (by omega)
     obtain rfl : i = ks.length:=by omega
     have hta : (calT ns (kidT 10 ks)).take ks.length ++ (kidT 10 ks).drop ks.length = calT ns (kidT 10 ks):=by rw [List.take_of_length_le (by rw [hcl]; exact Nat.le_refl _),List.drop_of_length_le (by rw [hkl]; exact Nat.le_refl _),List.append_nil]
     rw [hta]
     have hJ:=Joined_ok (st:=false) (fl:=false) ((calT ns (kidT 10 ks)).drop 1) [44,32] (by rw [List.length_drop]; omega) (by omega)
     refine pa [.b false,.v .top,.v (.str (exT x true)),.v (.str (jnB [44,32] ((calT ns (kidT 10 ks)).drop 1)))] rfl ?_ ?_
     ·(repeat' with_reducible apply AllP_cons) <;> try exact aC
      ·show (texts (calT ns (kidT 10 ks)))[0]? = _; rw [hx]; exact calT_0 ns x kr hns
      ·exact ⟨_,hJ,.cons (txFrzO (o:=1) _ (by rw [List.length_drop,hcl]; rfl) rfl (by omega)) (.cons (.refl .str) (.nil _))⟩
      ·rw [List.length_append,c40]; omega
      ·rw [List.length_append,List.length_append,c40,c41]; omega
     exact S_retc .str rfl trivial rfl
theorem exs11 (inner : Bool) (n : Nat) (t : List UInt8) (ks : List Ex) (ns : List (List UInt8)) (hz : ks.length ≤ 1000000) (x y : Ex) (hx : ks = [x,y]) (hw : Wx 800000 x) (hlen : (exT (.mk 11 n t ks ns) false).length ≤ 70000000000000)
  (hk : ∀ x ∈ ks,∀ b,Calc cx 44 [exA x,.bool b] (.str (exT x b))) : Calc cx 44 [exA (.mk 11 n t ks ns),.bool inner] (.str (exT (.mk 11 n t ks ns) false)) :=
 pure_intro (fun a w => Tryz.call44 a w) Tryz.func44 rfl Tryz.ntmps44 rfl .str fun B => by
  have hkl : (kidT 11 ks).length = ks.length:=by simp [kidT]
  have hll : (exL ks).length = ks.length:=by rw [exL_map]; simp
  cases inner
  case' true =>
   refine pB [.b true,.b false] rfl ?_
  case' false =>
   refine pB [.b false,.b false] rfl ?_
  all_goals
   refine S_ghostF (t:=5) 1 ⟨false,none⟩ rfl rfl ⟨_,_,.inl rfl⟩ ?_
   refine S_while (α:=Nat) (fun i => [(2,.ptr 0 0 0),(5,.ms 1 i 0 i 1 false),(6,.int .i64 (i : Nat))]) (fun i => [exB0 11 n t ks ns,txB i ((kidT 11 ks).take i)]) (fun i => i ≤ ks.length) (fun i => ks.length - i) 0
    (Nat.zero_le _) (.cons rfl (.cons rfl (.cons rfl (.nil _)))) rfl ?_
   intro i hi
   have hi : i ≤ ks.length:=hi
   by_cases hlt : i < ks.length
   ·obtain ⟨y,hy⟩ : ∃ y,ks[i] = y:=⟨_,rfl⟩
    cases i with
    | zero =>
     have hc:=hk _ (List.getElem_mem hlt) true
     have he:=exL_get hlt hy
     have hkt:=kidT_take 11 ks 0 hlt
     have hik : inK 11 0 = true:=rfl
     rw [hik] at hkt
     rw [hy] at hc hkt
     obtain ⟨yk,yn,yt,ys,ym⟩:=y
     have e0 : decide (((0 : Nat) : Int) < (((exL ks).length : Nat) : Int)) = true:=decide_eq_true (by omega)
     refine pa [.b true,.d 25 26 [38,42,47] (fun _ => [exB0 11 n t ks ns,txB (0 + 1) ((kidT 11 ks).take (0 + 1))]) [exA (.mk yk yn yt ys ym),.str (exT (.mk yk yn yt ys ym) true),.ms 1 (0 + 1) 0 (0 + 1) 1 false]] rfl ?_ ?_
     ·(repeat' with_reducible apply AllP_cons) <;> try exact aC
      ·exact ⟨_,hc,.cons (.refl (exT_free yk yn yt ys ym)) (.cons (.refl .bool) (.nil _))⟩
      ·exact ⟨_,hc,.cons (.refl (exT_free yk yn yt ys ym)) (.cons (.refl .bool) (.nil _))⟩
      ·show [exB0 11 n t ks ns,(0 + 1,some (Box.cells (texts ((kidT 11 ks).take 0) ++ [.str (exT (.mk yk yn yt ys ym) true)]) ⟨false,none⟩))] = [exB0 11 n t ks ns,txB (0 + 1) ((kidT 11 ks).take (0 + 1))]
       rw [hkt]
       unfold txB texts
       rw [List.map_append]; rfl
     exact S_round (0 + 1) (by show ks.length - (0 + 1) < ks.length - 0; omega) hlt (.cons rfl (.cons rfl (.cons (nX (by omega)) (.nil _)))) rfl
    | succ i =>
     have hc:=hk _ (List.getElem_mem hlt) false
     have he:=exL_get hlt hy
     have hkt:=kidT_take 11 ks (i + 1) hlt
     have hik : inK 11 (i + 1) = false:=rfl
     rw [hik] at hkt
     rw [hy] at hc hkt
     obtain ⟨yk,yn,yt,ys,ym⟩:=y
     have e0 : decide (((i + 1 : Nat) : Int) < (((exL ks).length : Nat) : Int)) = true:=decide_eq_true (by omega)
     have e5 : ((((i + 1 : Nat) : Nat) : Int) == 0) = false:=beq_false_of_ne (by omega)
     refine pa [.b true,.d 25 26 [38,42,47] (fun _ => [exB0 11 n t ks ns,txB (i + 1 + 1) ((kidT 11 ks).take (i + 1 + 1))]) [exA (.mk yk yn yt ys ym),.str (exT (.mk yk yn yt ys ym) false),.ms 1 (i + 1 + 1) 0 (i + 1 + 1) 1 false]] rfl ?_ ?_
     ·(repeat' with_reducible apply AllP_cons) <;> try exact aC
      ·exact ⟨_,hc,.cons (.refl (exT_free yk yn yt ys ym)) (.cons (.refl .bool) (.nil _))⟩
      ·exact ⟨_,hc,.cons (.refl (exT_free yk yn yt ys ym)) (.cons (.refl .bool) (.nil _))⟩
      ·show 0 + (i + 1) * 1 = (texts ((kidT 11 ks).take (i + 1))).length
       rw [texts_len,List.length_take,hkl]; omega
      ·show (i + 1 + 1) * 16 ≤ 140737488355328; omega
      ·show [exB0 11 n t ks ns,(i + 1 + 1,some (Box.cells (texts ((kidT 11 ks).take (i + 1)) ++ [.str (exT (.mk yk yn yt ys ym) false)]) ⟨false,none⟩))] = [exB0 11 n t ks ns,txB (i + 1 + 1) ((kidT 11 ks).take (i + 1 + 1))]
       rw [hkt]
       unfold txB texts
       rw [List.map_append]; rfl
     exact S_round (i + 1 + 1) (by show ks.length - (i + 1 + 1) < ks.length - (i + 1); omega) hlt (.cons rfl (.cons rfl (.cons (by show AV.int .i64 (IntKind.i64.wrap (((i + 1 : Nat) : Int) + 1)) = .int .i64 ((i + 1 + 1 : Nat) : Int); exact ai64 rfl (by omega)) (.nil _)))) rfl
   ·have e0 : decide ((i : Int) < (((exL ks).length : Nat) : Int)) = false:=decide_eq_false (by omega)
    obtain rfl : i = ks.length:=by omega
    rw [List.take_of_length_le (by rw [hkl]; exact Nat.le_refl _)]
    subst hx
    rw [hjn11 _ _ _ _ _ hw] at hlen ⊢
    simp only [List.length_append,List.length_cons,List.length_nil] at hlen
    refine pa [.b false,.b false,.b false,.b false,.b false,.b false,.b false,.b false,.b false,.b false,.b false,.b true,.v .top,.v (.str (exT x true)),.v .top,.v (.str (exT y false))] rfl ?_ ?_
    ·(repeat' with_reducible apply AllP_cons) <;> try exact aC
     all_goals (repeat rw [List.length_append])
     all_goals (try rw [c91])
     all_goals (try rw [c93])
     all_goals (try rw [c123])
     all_goals (try rw [c125])
     all_goals (try rw [c40])
     all_goals (try rw [c41])
     all_goals (try rw [c61])
     all_goals (try rw [c58])
     all_goals (try rw [c32])
     all_goals (try rw [cFor])
     all_goals (try rw [cIn])
     all_goals (try rw [cIf])
     all_goals omega
    exact S_retc .str rfl trivial rfl
theorem exs12 (n : Nat) (t : List UInt8) (ks : List Ex) (ns : List (List UInt8)) (hz : ks.length ≤ 1000000) (x : Ex) (hx : ks = [x]) (hw : Wx 800000 x) (hlen : (exT (.mk 12 n t ks ns) false).length ≤ 70000000000000)
  (hk : ∀ x ∈ ks,∀ b,Calc cx 44 [exA x,.bool b] (.str (exT x b))) : Calc cx 44 [exA (.mk 12 n t ks ns),.bool false] (.str (exT (.mk 12 n t ks ns) false)) :=
 pure_intro (fun a w => Tryz.call44 a w) Tryz.func44 rfl Tryz.ntmps44 rfl .str fun B => by
  have hkl : (kidT 12 ks).length = ks.length:=by simp [kidT]
  have hll : (exL ks).length = ks.length:=by rw [exL_map]; simp
  refine pB [.b false,.b false] rfl ?_
  refine S_ghostF (t:=5) 1 ⟨false,none⟩ rfl rfl ⟨_,_,.inl rfl⟩ ?_
  refine S_while (α:=Nat) (fun i => [(2,.ptr 0 0 0),(5,.ms 1 i 0 i 1 false),(6,.int .i64 (i : Nat))]) (fun i => [exB0 12 n t ks ns,txB i ((kidT 12 ks).take i)]) (fun i => i ≤ ks.length) (fun i => ks.length - i) 0
   (Nat.zero_le _) (.cons rfl (.cons rfl (.cons rfl (.nil _)))) rfl ?_
  intro i hi
  have hi : i ≤ ks.length:=hi
  by_cases hlt : i < ks.length
  ·obtain ⟨y,hy⟩ : ∃ y,ks[i] = y:=⟨_,rfl⟩
   have hc:=hk _ (List.getElem_mem hlt) true
   have he:=exL_get hlt hy
   have hkt:=kidT_take 12 ks i hlt
   have hik : inK 12 i = true:=rfl
   rw [hik] at hkt
   rw [hy] at hc hkt
   obtain ⟨yk,yn,yt,ys,ym⟩:=y
   have e0 : decide ((i : Int) < (((exL ks).length : Nat) : Int)) = true:=decide_eq_true (by omega)
   refine pa [.b true,.d 25 26 [38,42,47] (fun _ => [exB0 12 n t ks ns,txB (i + 1) ((kidT 12 ks).take (i + 1))]) [exA (.mk yk yn yt ys ym),.str (exT (.mk yk yn yt ys ym) true),.ms 1 (i + 1) 0 (i + 1) 1 false]] rfl ?_ ?_
   ·(repeat' with_reducible apply AllP_cons) <;> try exact aC
    ·exact ⟨_,hc,.cons (.refl (exT_free yk yn yt ys ym)) (.cons (.refl .bool) (.nil _))⟩
    ·exact ⟨_,hc,.cons (.refl (exT_free yk yn yt ys ym)) (.cons (.refl .bool) (.nil _))⟩
    ·show 0 + i * 1 = (texts ((kidT 12 ks).take i)).length
     rw [texts_len,List.length_take,hkl]; omega
    ·show (i + 1) * 16 ≤ 140737488355328; omega
    ·show [exB0 12 n t ks ns,(i + 1,some (Box.cells (texts ((kidT 12 ks).take i) ++ [.str (exT (.mk yk yn yt ys ym) true)]) ⟨false,none⟩))] = [exB0 12 n t ks ns,txB (i + 1) ((kidT 12 ks).take (i + 1))]
     rw [hkt]
     unfold txB texts
     rw [List.map_append]; rfl
   exact S_round (i + 1) (by show ks.length - (i + 1) < ks.length - i; omega) hlt (.cons rfl (.cons rfl (.cons (nX (by omega)) (.nil _)))) rfl
  ·have e0 : decide ((i : Int) < (((exL ks).length : Nat) : Int)) = false:=decide_eq_false (by omega)
   obtain rfl : i = ks.length:=by omega
   rw [List.take_of_length_le (by rw [hkl]; exact Nat.le_refl _)]
   subst hx
   rw [hjn12 _ _ _ _ hw] at hlen ⊢
   simp only [List.length_append,List.length_cons,List.length_nil] at hlen
   refine pa [.b false,.b false,.b false,.b false,.b false,.b false,.b false,.b false,.b false,.b false,.b false,.b false,.b true,.v .top,.v (.str (exT x true))] rfl ?_ ?_
   ·(repeat' with_reducible apply AllP_cons) <;> try exact aC
    done
   exact S_retc .str rfl trivial rfl
theorem exs13 (n : Nat) (t : List UInt8) (ks : List Ex) (ns : List (List UInt8)) (hz : ks.length ≤ 1000000) (x : Ex) (hx : ks = [x]) (hw : Wx 800000 x) (hlen : (exT (.mk 13 n t ks ns) false).length ≤ 70000000000000)
  (hk : ∀ x ∈ ks,∀ b,Calc cx 44 [exA x,.bool b] (.str (exT x b))) : Calc cx 44 [exA (.mk 13 n t ks ns),.bool false] (.str (exT (.mk 13 n t ks ns) false)) :=
 pure_intro (fun a w => Tryz.call44 a w) Tryz.func44 rfl Tryz.ntmps44 rfl .str fun B => by
  have hkl : (kidT 13 ks).length = ks.length:=by simp [kidT]
  have hll : (exL ks).length = ks.length:=by rw [exL_map]; simp
  refine pB [.b false,.b false] rfl ?_
  refine S_ghostF (t:=5) 1 ⟨false,none⟩ rfl rfl ⟨_,_,.inl rfl⟩ ?_
  refine S_while (α:=Nat) (fun i => [(2,.ptr 0 0 0),(5,.ms 1 i 0 i 1 false),(6,.int .i64 (i : Nat))]) (fun i => [exB0 13 n t ks ns,txB i ((kidT 13 ks).take i)]) (fun i => i ≤ ks.length) (fun i => ks.length - i) 0
   (Nat.zero_le _) (.cons rfl (.cons rfl (.cons rfl (.nil _)))) rfl ?_
  intro i hi
  have hi : i ≤ ks.length:=hi
  by_cases hlt : i < ks.length
  ·obtain ⟨y,hy⟩ : ∃ y,ks[i] = y:=⟨_,rfl⟩
   have hc:=hk _ (List.getElem_mem hlt) true
   have he:=exL_get hlt hy
   have hkt:=kidT_take 13 ks i hlt
   have hik : inK 13 i = true:=rfl
   rw [hik] at hkt
   rw [hy] at hc hkt
   obtain ⟨yk,yn,yt,ys,ym⟩:=y
   have e0 : decide ((i : Int) < (((exL ks).length : Nat) : Int)) = true:=decide_eq_true (by omega)
   refine pa [.b true,.d 25 26 [38,42,47] (fun _ => [exB0 13 n t ks ns,txB (i + 1) ((kidT 13 ks).take (i + 1))]) [exA (.mk yk yn yt ys ym),.str (exT (.mk yk yn yt ys ym) true),.ms 1 (i + 1) 0 (i + 1) 1 false]] rfl ?_ ?_
   ·(repeat' with_reducible apply AllP_cons) <;> try exact aC
    ·exact ⟨_,hc,.cons (.refl (exT_free yk yn yt ys ym)) (.cons (.refl .bool) (.nil _))⟩
    ·exact ⟨_,hc,.cons (.refl (exT_free yk yn yt ys ym)) (.cons (.refl .bool) (.nil _))⟩
    ·show 0 + i * 1 = (texts ((kidT 13 ks).take i)).length
     rw [texts_len,List.length_take,hkl]; omega
    ·show (i + 1) * 16 ≤ 140737488355328; omega
    ·show [exB0 13 n t ks ns,(i + 1,some (Box.cells (texts ((kidT 13 ks).take i) ++ [.str (exT (.mk yk yn yt ys ym) true)]) ⟨false,none⟩))] = [exB0 13 n t ks ns,txB (i + 1) ((kidT 13 ks).take (i + 1))]
     rw [hkt]
     unfold txB texts
     rw [List.map_append]; rfl
   exact S_round (i + 1) (by show ks.length - (i + 1) < ks.length - i; omega) hlt (.cons rfl (.cons rfl (.cons (nX (by omega)) (.nil _)))) rfl
  ·have e0 : decide ((i : Int) < (((exL ks).length : Nat) : Int)) = false:=decide_eq_false (by omega)
   obtain rfl : i = ks.length:=by omega
   rw [List.take_of_length_le (by rw [hkl]; exact Nat.le_refl _)]
   subst hx
   rw [hjn13 _ _ _ _ hw] at hlen ⊢
   simp only [List.length_append,List.length_cons,List.length_nil] at hlen
   refine pa [.b false,.b false,.b false,.b false,.b false,.b false,.b false,.b false,.b false,.b false,.b false,.b false,.b false,.b true,.v .top,.v (.str (exT x true))] rfl ?_ ?_
   ·(repeat' with_reducible apply AllP_cons) <;> try exact aC
    done
   exact S_retc .str rfl trivial rfl
theorem exs14 (n : Nat) (t : List UInt8) (ks : List Ex) (ns : List (List UInt8)) (hz : ks.length ≤ 1000000) (x y : Ex) (hx : ks = [x,y]) (hw : Wx 800000 x) (hw2 : Wx 800000 y) (hlen : (exT (.mk 14 n t ks ns) false).length ≤ 70000000000000)
  (hk : ∀ x ∈ ks,∀ b,Calc cx 44 [exA x,.bool b] (.str (exT x b))) : Calc cx 44 [exA (.mk 14 n t ks ns),.bool false] (.str (exT (.mk 14 n t ks ns) false)) :=
 pure_intro (fun a w => Tryz.call44 a w) Tryz.func44 rfl Tryz.ntmps44 rfl .str fun B => by
  have hkl : (kidT 14 ks).length = ks.length:=by simp [kidT]
  have hll : (exL ks).length = ks.length:=by rw [exL_map]; simp
  refine pB [.b false,.b false] rfl ?_
  refine S_ghostF (t:=5) 1 ⟨false,none⟩ rfl rfl ⟨_,_,.inl rfl⟩ ?_
  refine S_while (α:=Nat) (fun i => [(2,.ptr 0 0 0),(5,.ms 1 i 0 i 1 false),(6,.int .i64 (i : Nat))]) (fun i => [exB0 14 n t ks ns,txB i ((kidT 14 ks).take i)]) (fun i => i ≤ ks.length) (fun i => ks.length - i) 0
   (Nat.zero_le _) (.cons rfl (.cons rfl (.cons rfl (.nil _)))) rfl ?_
  intro i hi
  have hi : i ≤ ks.length:=hi
  by_cases hlt : i < ks.length
  ·obtain ⟨y,hy⟩ : ∃ y,ks[i] = y:=⟨_,rfl⟩
   have hc:=hk _ (List.getElem_mem hlt) true
   have he:=exL_get hlt hy
   have hkt:=kidT_take 14 ks i hlt
   have hik : inK 14 i = true:=rfl
   rw [hik] at hkt
   rw [hy] at hc hkt
   obtain ⟨yk,yn,yt,ys,ym⟩:=y
   have e0 : decide ((i : Int) < (((exL ks).length : Nat) : Int)) = true:=decide_eq_true (by omega)
   refine pa [.b true,.d 25 26 [38,42,47] (fun _ => [exB0 14 n t ks ns,txB (i + 1) ((kidT 14 ks).take (i + 1))]) [exA (.mk yk yn yt ys ym),.str (exT (.mk yk yn yt ys ym) true),.ms 1 (i + 1) 0 (i + 1) 1 false]] rfl ?_ ?_
   ·(repeat' with_reducible apply AllP_cons) <;> try exact aC
    ·exact ⟨_,hc,.cons (.refl (exT_free yk yn yt ys ym)) (.cons (.refl .bool) (.nil _))⟩
    ·exact ⟨_,hc,.cons (.refl (exT_free yk yn yt ys ym)) (.cons (.refl .bool) (.nil _))⟩
    ·show 0 + i * 1 = (texts ((kidT 14 ks).take i)).length
     rw [texts_len,List.length_take,hkl]; omega
    ·show (i + 1) * 16 ≤ 140737488355328; omega
    ·show [exB0 14 n t ks ns,(i + 1,some (Box.cells (texts ((kidT 14 ks).take i) ++ [.str (exT (.mk yk yn yt ys ym) true)]) ⟨false,none⟩))] = [exB0 14 n t ks ns,txB (i + 1) ((kidT 14 ks).take (i + 1))]
     rw [hkt]
     unfold txB texts
     rw [List.map_append]; rfl
   exact S_round (i + 1) (by show ks.length - (i + 1) < ks.length - i; omega) hlt (.cons rfl (.cons rfl (.cons (nX (by omega)) (.nil _)))) rfl
  ·have e0 : decide ((i : Int) < (((exL ks).length : Nat) : Int)) = false:=decide_eq_false (by omega)
   obtain rfl : i = ks.length:=by omega
   rw [List.take_of_length_le (by rw [hkl]; exact Nat.le_refl _)]
   subst hx
   rw [hjn14 _ _ _ _ _ hw hw2] at hlen ⊢
   simp only [List.length_append,List.length_cons,List.length_nil] at hlen
   refine pa [.b false,.b false,.b false,.b false,.b false,.b false,.b false,.b false,.b false,.b false,.b false,.b false,.b false,.b false,.v .top,.v (.str (exT x true)),.v .top,.v (.str (exT y true))] rfl ?_ ?_
   ·(repeat' with_reducible apply AllP_cons) <;> try exact aC
    all_goals (repeat rw [List.length_append])
    all_goals (try rw [c91])
    all_goals (try rw [c93])
    all_goals (try rw [c123])
    all_goals (try rw [c125])
    all_goals (try rw [c40])
    all_goals (try rw [c41])
    all_goals (try rw [c61])
    all_goals (try rw [c58])
    all_goals (try rw [c32])
    all_goals (try rw [cFor])
    all_goals (try rw [cIn])
    all_goals (try rw [cIf])
    all_goals omega
   exact S_retc .str rfl trivial rfl
theorem exsB (k n : Nat) (t : List UInt8) (ks : List Ex) (ns : List (List UInt8)) (hk : 12 ≤ k) (hk14 : k ≤ 14) (hlen : (exT (.mk k n t ks ns) false).length ≤ 70000000000000)
  (h : Calc cx 44 [exA (.mk k n t ks ns),.bool false] (.str (exT (.mk k n t ks ns) false))) : Calc cx 44 [exA (.mk k n t ks ns),.bool true] (.str (exT (.mk k n t ks ns) true)) :=
 pure_intro (fun a w => Tryz.call44 a w) Tryz.func44 rfl Tryz.ntmps44 rfl .str fun B => by
  have e0 : decide ((k : Int) ≥ 12) = true:=decide_eq_true (by omega)
  rw [exT_brk k n t ks ns hk]
  refine pa [.b true,.b true,.v (.str (exT (.mk k n t ks ns) false))] rfl ?_ ?_
  ·(repeat' with_reducible apply AllP_cons) <;> try exact aC
   ·exact ⟨_,h,.cons (.refl (exT_free k n t ks ns)) (.cons (.refl .bool) (.nil _))⟩
   ·rw [List.length_append,c40,c41]; omega
  exact S_retc .str rfl trivial rfl
theorem exT_le (x : Ex) (b : Bool) : (exT x false).length ≤ (exT x b).length:=by
 rw [exT_false]
 unfold exT
 split
 ·rw [List.length_append,List.length_append]; omega
 ·exact Nat.le_refl _
theorem kid_mem (k : Nat) (ks : List Ex) (x : Ex) (h : x ∈ ks) : ∃ t ∈ kidT k ks,(exT x false).length ≤ t.length:=by
 obtain ⟨i,hi,rfl⟩:=List.getElem_of_mem h
 have hl : i < (kidT k ks).length:=by rw [kidT_len]; exact hi
 refine ⟨(kidT k ks)[i],List.getElem_mem hl,?_⟩
 simp only [kidT,List.getElem_mapIdx]
 exact exT_le _ _
theorem dic_el (l : List (List UInt8)) (t : List UInt8) (h : t ∈ l) : t.length ≤ (dicT l).length:=by
 obtain ⟨i,hi,rfl⟩:=List.getElem_of_mem h
 unfold dicT
 have hm : ((if 0 < i then sepD i else []) ++ l[i]) ∈ l.mapIdx (fun i t => (if 0 < i then sepD i else []) ++ t):=by
  rw [List.mem_mapIdx]; exact ⟨i,hi,rfl⟩
 have:=(List.sublist_flatten_of_mem hm).length_le
 rw [List.length_append] at this
 omega
def Ask (x : Ex) : Prop:=∀ b,Calc cx 44 [exA x,.bool b] (.str (exT x b))
theorem exS (x : Ex) (h : Wx 800000 x) : (exT x false).length ≤ 70000000000000 → Ask x:=by
 induction h with
 | @mk k n t ks ns h1 h2 h3 h4 ih =>
  intro hl
  have hz : ks.length ≤ 1000000:=by omega
  have kids : (∀ x ∈ ks,(exT x false).length ≤ (exT (.mk k n t ks ns) false).length) → ∀ x ∈ ks,∀ b,Calc cx 44 [exA x,.bool b] (.str (exT x b)) :=
   fun hk x hx b => ih x hx (Nat.le_trans (hk x hx) hl) b
  match k,h4,hl,kids with
  | 1,h4,hl,kids =>
   obtain rfl:=List.length_eq_zero_iff.1 h4.2.2.1
   intro b; rw [exT_low _ _ _ _ _ b (by decide)]; exact exs1 b n t ns
  | 2,h4,hl,kids =>
   obtain rfl:=List.length_eq_zero_iff.1 h4.2.2.1
   intro b; rw [exT_low _ _ _ _ _ b (by decide)]; exact exs2 b n t ns
  | 3,h4,hl,kids =>
   obtain rfl:=List.length_eq_zero_iff.1 h4.2.2.1
   intro b; rw [exT_low _ _ _ _ _ b (by decide)]; exact exs3 b n t ns
  | 4,h4,hl,kids =>
   obtain rfl:=List.length_eq_zero_iff.1 h4.2.2.1
   intro b; rw [exT_low _ _ _ _ _ b (by decide)]; exact exs4 b n t ns h4.1
  | 5,h4,hl,kids =>
   obtain rfl:=List.length_eq_zero_iff.1 h4.2.2.1
   have hF : exT (.mk 5 n t [] ns) false = quoT t:=List.append_nil _
   have hq : t.length + 2 ≤ (quoT t).length:=by
    unfold quoT
    have hf : ∀ t : List UInt8,t.length ≤ (t.flatMap quoC).length:=fun t => by
     induction t with
     | nil => exact Nat.zero_le _
     | cons c r ih =>
      rw [List.flatMap_cons,List.length_append,List.length_cons]
      have : 1 ≤ (quoC c).length:=by unfold quoC; split <;> (try split) <;> (try split) <;> (try split) <;> simp
      omega
    have:=hf t
    rw [List.length_append,List.length_append,List.length_singleton]; omega
   rw [hF] at hl
   intro b; rw [exT_low _ _ _ _ _ b (by decide)]; exact exs5 b n t ns (by omega)
  | 6,h4,hl,kids =>
   obtain rfl:=List.length_eq_zero_iff.1 h4.2.2.1
   intro b; rw [exT_low _ _ _ _ _ b (by decide)]; exact exs6 b n t ns
  | 7,h4,hl,kids =>
   have hk:=kids fun x hx => by
    obtain ⟨u,hu,hle⟩:=kid_mem 7 ks x hx
    have:=jnB_el [44,32] _ u hu
    rw [hjn7,List.length_append,List.length_append]; omega
   intro b; rw [exT_low _ _ _ _ _ b (by decide)]; exact exs7 b n t ks ns hz hl hk
  | 8,h4,hl,kids =>
   have hk:=kids fun x hx => by
    obtain ⟨u,hu,hle⟩:=kid_mem 8 ks x hx
    have:=dic_el _ u hu
    rw [dic_prs _ (by rw [kidT_len]; exact h4.2.2.1)] at this
    rw [hjn8 _ _ _ _ h4.2.2.1,List.length_append,List.length_append]; omega
   intro b; rw [exT_low _ _ _ _ _ b (by decide)]; exact exs8 b n t ks ns hz h4.2.2.1 hl hk
  | 9,h4,hl,kids =>
   rcases h4.2.2.1 with hm | hm
   ·obtain ⟨x,y,rfl⟩ : ∃ x y,ks = [x,y]:=len2 hm
    have hk:=kids fun z hz => by
     rw [hjn9a]
     simp only [List.length_append,List.length_cons,List.length_nil]
     rcases List.mem_cons.1 hz with rfl | hz
     ·omega
     ·rw [List.mem_singleton.1 hz]; omega
    intro b; rw [exT_low _ _ _ _ _ b (by decide)]; exact exs9a b n t _ ns hz x y rfl hl hk
   ·obtain ⟨x,y,z,rfl⟩ : ∃ x y z,ks = [x,y,z]:=len3 hm
    have hk:=kids fun w hw => by
     rw [hjn9b]
     simp only [List.length_append,List.length_cons,List.length_nil]
     rcases List.mem_cons.1 hw with rfl | hw
     ·omega
     ·rcases List.mem_cons.1 hw with rfl | hw
      ·omega
      ·rw [List.mem_singleton.1 hw]; omega
    intro b; rw [exT_low _ _ _ _ _ b (by decide)]; exact exs9b b n t _ ns hz x y z rfl hl hk
  | 10,h4,hl,kids =>
   obtain ⟨x,kr,rfl⟩ : ∃ x kr,ks = x :: kr:=by
    cases ks with
    | nil => have:=h4.2.2.1; simp at this
    | cons x kr => exact ⟨x,kr,rfl⟩
   have hns : ns.length ≤ kr.length:=by have:=h4.2.2.1; simp only [List.length_cons] at this; omega
   have hwx:=h3 x (List.mem_cons_self ..)
   have hk:=kids fun y hy => by
    rw [hjn10 n t x kr ns hwx hns]
    simp only [List.length_append,List.length_cons,List.length_nil]
    rcases List.mem_cons.1 hy with rfl | hy
    ·have:=exT_le y true; omega
    ·obtain ⟨i,hi,rfl⟩:=List.getElem_of_mem hy
     have hl1 : (calT ns (kidT 10 (x :: kr))).length = kr.length + 1:=by rw [calT_len,kidT_len]; rfl
     have hm : (calT ns (kidT 10 (x :: kr)))[i + 1]'(by omega) ∈ (calT ns (kidT 10 (x :: kr))).drop 1:=List.mem_drop_iff_getElem.2 ⟨i,by omega,by congr 1; omega⟩
     have h5:=jnB_el [44,32] _ _ hm
     have h6 : (exT kr[i] false).length ≤ ((calT ns (kidT 10 (x :: kr)))[i + 1]'(by omega)).length:=by
      simp only [calT,kidT,List.getElem_mapIdx,List.length_append,List.getElem_cons_succ]
      have:=exT_le kr[i] (inK 10 (i + 1))
      omega
     omega
   intro b; rw [exT_low _ _ _ _ _ b (by decide)]; exact exs10 b n t _ ns hz x kr rfl hwx hns hl hk
  | 11,h4,hl,kids =>
   obtain ⟨x,y,rfl⟩ : ∃ x y,ks = [x,y]:=len2 h4.2.2.1
   have hwx:=h3 x (List.mem_cons_self ..)
   have hk:=kids fun z hz => by
    have:=exT_le x true
    rw [hjn11 _ _ _ _ _ hwx]
    simp only [List.length_append,List.length_cons,List.length_nil]
    rcases List.mem_cons.1 hz with rfl | hz
    ·omega
    ·rw [List.mem_singleton.1 hz]; omega
   intro b; rw [exT_low _ _ _ _ _ b (by decide)]; exact exs11 b n t _ ns hz x y rfl hwx hl hk
  | 12,h4,hl,kids =>
   obtain ⟨x,rfl⟩ : ∃ x,ks = [x]:=List.length_eq_one_iff.1 h4.2.2.1
   have hwx:=h3 x (List.mem_cons_self ..)
   have hk:=kids fun z hz => by
    have:=exT_le x true
    rw [hjn12 _ _ _ _ hwx,List.mem_singleton.1 hz,List.length_append]; omega
   have h:=exs12 n t _ ns hz x rfl hwx hl hk
   intro b
   cases b with
   | false => exact h
   | true => exact exsB 12 n t _ ns (by decide) (by decide) hl h
  | 13,h4,hl,kids =>
   obtain ⟨x,rfl⟩ : ∃ x,ks = [x]:=List.length_eq_one_iff.1 h4.2.2.1
   have hwx:=h3 x (List.mem_cons_self ..)
   have hk:=kids fun z hz => by
    have:=exT_le x true
    rw [hjn13 _ _ _ _ hwx,List.mem_singleton.1 hz,List.length_append]; omega
   have h:=exs13 n t _ ns hz x rfl hwx hl hk
   intro b
   cases b with
   | false => exact h
   | true => exact exsB 13 n t _ ns (by decide) (by decide) hl h
  | 14,h4,hl,kids =>
   obtain ⟨x,y,rfl⟩ : ∃ x y,ks = [x,y]:=len2 h4.2.2.1
   have hwx:=h3 x (List.mem_cons_self ..)
   have hwy:=h3 y (List.mem_cons_of_mem _ (List.mem_cons_self ..))
   have hk:=kids fun z hz => by
    have:=exT_le x true
    have:=exT_le y true
    rw [hjn14 _ _ _ _ _ hwx hwy]
    simp only [List.length_append,List.length_cons,List.length_nil]
    rcases List.mem_cons.1 hz with rfl | hz
    ·omega
    ·rw [List.mem_singleton.1 hz]; omega
   have h:=exs14 n t _ ns hz x y rfl hwx hwy hl hk
   intro b
   cases b with
   | false => exact h
   | true => exact exsB 14 n t _ ns (by decide) (by decide) hl h
  | 0,h4,_,_ => exact h4.elim
  | k + 15,h4,_,_ => exact h4.elim
section
theorem joinT_jn (l : List (List UInt8)) : joinT l = jnB [44,32] l:=by
 cases l with
 | nil => rfl
 | cons s r =>
  unfold jnB
  rw [List.mapIdx_cons,List.flatten_cons]
  show s ++ r.flatMap _ = ([] ++ s) ++ _
  rw [List.nil_append,List.flatMap_def]
  congr 2
  apply List.ext_getElem
  ·simp
  ·intro i h1 h2
   rw [List.getElem_map,List.getElem_mapIdx,if_pos (by omega)]
def outW (l : List St) (i : List UInt8) : List UInt8:=(stWs l i).flatten
theorem outW_snoc (l : List St) (s : St) (i : List UInt8) : outW (l ++ [s]) i = outW l i ++ (i ++ (stW s i).flatten):=by
 unfold outW
 rw [stWs_snoc,List.flatten_append,List.flatten_append]; simp
theorem outW_take (l : List St) (i : List UInt8) (k : Nat) (h : k < l.length) : outW (l.take (k + 1)) i = outW (l.take k) i ++ (i ++ (stW l[k] i).flatten):=by
 rw [List.take_succ_eq_append_getElem h,outW_snoc]
theorem outW_le (l : List St) (i : List UInt8) (k : Nat) (h : k ≤ l.length) : (outW (l.take k) i).length ≤ (outW l i).length:=by
 induction hk : l.length - k generalizing k with
 | zero => rw [List.take_of_length_le (by omega)]; exact Nat.le_refl _
 | succ n ih =>
  have:=ih (k + 1) (by omega) (by omega)
  rw [outW_take _ _ _ (by omega),List.length_append] at this
  omega
section
variable (t : List UInt8) (ns : List (List UInt8)) (x : Ex) (b e : List St) (i : List UInt8)
theorem stq1 : (stW (.mk 1 t ns x b e) i).flatten = [112,97,115,115] ++ [10]:=rfl
theorem stq2 : (stW (.mk 2 t ns x b e) i).flatten = [114,101,116,117,114,110,32] ++ exT x false ++ [10]:=by
 show ([[114,101,116,117,114,110,32]] ++ exW x ++ [nl] : Pcs).flatten = _
 simp only [exT_false,nl,List.flatten_append,List.flatten_cons,List.flatten_nil,List.append_nil,List.append_assoc]
theorem stq3 : (stW (.mk 3 t ns x b e) i).flatten = t ++ [32,61,32] ++ exT x false ++ [10]:=by
 show ([t,[32,61,32]] ++ exW x ++ [nl] : Pcs).flatten = _
 simp only [exT_false,nl,List.flatten_append,List.flatten_cons,List.flatten_nil,List.append_nil,List.append_assoc]
def namT (ns : List (List UInt8)) : List UInt8:=(ns.flatMap ldP).flatten
theorem stq4 : (stW (.mk 4 t ns x b e) i).flatten = [108,111,97,100,40] ++ quoT t ++ namT ns ++ ([41] ++ [10]):=by
 show ([[108,111,97,100,40],quoT t] ++ ns.flatMap ldP ++ [[41,10]] : Pcs).flatten = _
 simp only [namT,List.flatten_append,List.flatten_cons,List.flatten_nil,List.append_nil,List.append_assoc]
 rfl
theorem stq5 : (stW (.mk 5 t ns x b e) i).flatten = exT x false ++ [10]:=by
 show (exW x ++ [nl] : Pcs).flatten = _
 simp only [exT_false,nl,List.flatten_append,List.flatten_cons,List.flatten_nil,List.append_nil,List.append_assoc]
theorem stq6 : (stW (.mk 6 t ns x b e) i).flatten = [100,101,102,32] ++ t ++ [40] ++ jnB [44,32] ns ++ [41] ++ ([58] ++ [10] ++ outW b (i ++ tab4)):=by
 show ([[100,101,102,32],t,[40],joinT ns,[41]] ++ ([[58,10]] ++ stWs b (i ++ tab4)) : Pcs).flatten = _
 simp only [outW,joinT_jn,List.flatten_append,List.flatten_cons,List.flatten_nil,List.append_nil,List.append_assoc]
 rfl
theorem stq7 : (stW (.mk 7 t ns x b e) i).flatten = [105,102,32] ++ exT x false ++ ([58] ++ [10] ++ outW b (i ++ tab4)) ++ (if e.length > 0 then i ++ ([101,108,115,101,58] ++ [10] ++ outW e (i ++ tab4)) else []):=by
 show ([[105,102,32]] ++ exW x ++ ([[58,10]] ++ stWs b (i ++ tab4)) ++ (if e.length > 0 then [i,wElse] ++ ([[58,10]] ++ stWs e (i ++ tab4)) else []) : Pcs).flatten = _
 split
 ·simp only [outW,exT_false,List.flatten_append,List.flatten_cons,List.flatten_nil,List.append_nil,List.append_assoc]
  rfl
 ·simp only [outW,exT_false,List.flatten_append,List.flatten_cons,List.flatten_nil,List.append_nil,List.append_assoc]
  rfl
theorem stq8 : (stW (.mk 8 t ns x b e) i).flatten = [102,111,114,32] ++ t ++ [32,105,110,32] ++ exT x false ++ ([58] ++ [10] ++ outW b (i ++ tab4)):=by
 show ([[102,111,114,32],t,[32,105,110,32]] ++ exW x ++ ([[58,10]] ++ stWs b (i ++ tab4)) : Pcs).flatten = _
 simp only [outW,exT_false,List.flatten_append,List.flatten_cons,List.flatten_nil,List.append_nil,List.append_assoc]
 rfl
end
theorem namT_take (ns : List (List UInt8)) (j : Nat) (h : j < ns.length) : namT (ns.take (j + 1)) = namT (ns.take j) ++ ([44,32] ++ quoT ns[j]):=by
 unfold namT
 rw [List.take_succ_eq_append_getElem h,List.flatMap_append,List.flatten_append]
 simp [ldP]
theorem namT_le (ns : List (List UInt8)) (k : Nat) (h : k ≤ ns.length) : (namT (ns.take k)).length ≤ (namT ns).length:=by
 induction hk : ns.length - k generalizing k with
 | zero => rw [List.take_of_length_le (by omega)]; exact Nat.le_refl _
 | succ n ih =>
  have:=ih (k + 1) (by omega) (by omega)
  rw [namT_take _ _ (by omega),List.length_append] at this
  omega
theorem quo_le (t : List UInt8) : t.length + 2 ≤ (quoT t).length:=by
 unfold quoT
 have hf : ∀ t : List UInt8,t.length ≤ (t.flatMap quoC).length:=fun t => by
  induction t with
  | nil => exact Nat.zero_le _
  | cons c r ih =>
   rw [List.flatMap_cons,List.length_append,List.length_cons]
   have : 1 ≤ (quoC c).length:=by unfold quoC; split <;> (try split) <;> (try split) <;> (try split) <;> simp
   omega
 have:=hf t
 rw [List.length_append,List.length_append,List.length_singleton]; omega
end
theorem cPass : (⟨#[112,97,115,115]⟩ : ByteArray).data.toList.length = 4:=rfl
theorem cRet : (⟨#[114,101,116,117,114,110,32]⟩ : ByteArray).data.toList.length = 7:=rfl
theorem cEq : (⟨#[32,61,32]⟩ : ByteArray).data.toList.length = 3:=rfl
theorem cLoad : (⟨#[108,111,97,100,40]⟩ : ByteArray).data.toList.length = 5:=rfl
theorem cSep : (⟨#[44,32]⟩ : ByteArray).data.toList.length = 2:=rfl
theorem cDef : (⟨#[100,101,102,32]⟩ : ByteArray).data.toList.length = 4:=rfl
theorem cIff : (⟨#[105,102,32]⟩ : ByteArray).data.toList.length = 3:=rfl
theorem cElse : (⟨#[101,108,115,101,58]⟩ : ByteArray).data.toList.length = 5:=rfl
theorem cForr : (⟨#[102,111,114,32]⟩ : ByteArray).data.toList.length = 4:=rfl
theorem cInn : (⟨#[32,105,110,32]⟩ : ByteArray).data.toList.length = 4:=rfl
theorem cCol : (⟨#[58]⟩ : ByteArray).data.toList.length = 1:=rfl
theorem cOpn : (⟨#[40]⟩ : ByteArray).data.toList.length = 1:=rfl
theorem cCls : (⟨#[41]⟩ : ByteArray).data.toList.length = 1:=rfl
theorem cNl : ([10] : List UInt8).length = 1:=rfl
theorem shs_k {k : Nat} {t : List UInt8} {ns : List (List UInt8)} {x : Ex} {b e : List St} {M : Nat} (h : shs M k t ns x b e) : k = 1 ∨ k = 2 ∨ k = 3 ∨ k = 4 ∨ k = 5 ∨ k = 6 ∨ k = 7 ∨ k = 8:=by
 match k,h with
 | 1,_ => simp
 | 2,_ => simp
 | 3,_ => simp
 | 4,_ => simp
 | 5,_ => simp
 | 6,_ => simp
 | 7,_ => simp
 | 8,_ => simp
 | 0,h => exact h.elim
 | k + 9,h => exact h.elim
theorem bodyL {k : Nat} {t : List UInt8} {ns : List (List UInt8)} {x : Ex} {b e : List St} (i : List UInt8) {M B : Nat} (h : shs M k t ns x b e) (hl : (stW (.mk k t ns x b e) i).flatten.length ≤ B) : (outW b (i ++ tab4)).length ≤ B:=by
 have z : (outW [] (i ++ tab4)).length ≤ B:=Nat.zero_le _
 match k,h,hl with
 | 1,h,hl => rw [h.2.2.2.1]; exact z
 | 2,h,hl => rw [h.2.2.2.1]; exact z
 | 3,h,hl => rw [h.2.2.2.1]; exact z
 | 4,h,hl => rw [h.2.2.2.1]; exact z
 | 5,h,hl => rw [h.2.2.2.1]; exact z
 | 6,h,hl => rw [stq6] at hl; simp only [List.length_append] at hl; omega
 | 7,h,hl => rw [stq7] at hl; simp only [List.length_append] at hl; omega
 | 8,h,hl => rw [stq8] at hl; simp only [List.length_append] at hl; omega
 | 0,h,_ => exact h.elim
 | k + 9,h,_ => exact h.elim
def bdS : St → List St | .mk _ _ _ _ b _ => b
def elS : St → List St | .mk _ _ _ _ _ e => e
theorem stepS (l : List St) (i0 : List UInt8) (hn : l.length ≤ 800000) (hz : (outW l i0).length ≤ 70000000000000) (hw : ∀ s ∈ l,Ws 800000 s)
  (hB : ∀ s ∈ l,Calc cx 33 [.sl true false 10 (stL (bdS s)),.str (i0 ++ tab4)] (.str (outW (bdS s) (i0 ++ tab4))))
  (hE : ∀ s ∈ l,Calc cx 33 [.sl true false 10 (stL (elS s)),.str (i0 ++ tab4)] (.str (outW (elS s) (i0 ++ tab4)))) : Calc cx 33 [.sl true false 10 (stL l),.str i0] (.str (outW l i0)) :=
 pure_intro (fun a w => Tryz.call33 a w) Tryz.func33 rfl Tryz.ntmps33 rfl .str fun B => by
  have hll:=stL_len l
  refine pa [] rfl ?_ ?_
  ·(repeat' with_reducible apply AllP_cons) <;> try exact aC
   intro x hx
   rw [List.mem_singleton.1 hx]; trivial
  refine S_dead ?_ ⟨_,_,.inl rfl⟩
  refine S_while (α:=Nat) (fun i => [(0,.sl true false 10 (stL l)),(1,.str i0),(5,.str (outW (l.take i) i0)),(6,.str [10]),(7,.int .i64 (i : Nat))]) (fun i => [(i,none)]) (fun i => i ≤ l.length) (fun i => l.length - i) 0
   (Nat.zero_le _) (.cons rfl (.cons rfl (.cons rfl (.cons rfl (.cons rfl (.nil _)))))) rfl ?_
  intro i hi
  have hi : i ≤ l.length:=hi
  by_cases hlt : i < l.length
  ·obtain ⟨y,hy⟩ : ∃ y,l[i] = y:=⟨_,rfl⟩
   have hw:=hw _ (List.getElem_mem hlt)
   have hB:=hB _ (List.getElem_mem hlt)
   have hE:=hE _ (List.getElem_mem hlt)
   have he:=stL_get hlt hy
   have hle:=outW_le l i0 (i + 1) hlt
   have hst:=outW_take l i0 i hlt
   rw [hy] at hw hB hE hst
   rw [hst] at hle
   obtain ⟨k,t,ns,x,b,e⟩:=y
   have hB : Calc cx 33 [.sl true false 10 (stL b),.str (i0 ++ tab4)] (.str (outW b (i0 ++ tab4))):=hB
   have hE : Calc cx 33 [.sl true false 10 (stL e),.str (i0 ++ tab4)] (.str (outW e (i0 ++ tab4))):=hE
   cases hw with
   | mk h1 h2 h3 h4 h5 h6 =>
   have hBody : (outW b (i0 ++ tab4)).length ≤ 70000000000000:=bodyL i0 h6 (by rw [List.length_append,List.length_append] at hle; omega)
   have e0 : decide ((i : Int) < (((stL l).length : Nat) : Int)) = true:=decide_eq_true (by omega)
   generalize outW (l.take i) i0 = out at hst hle
   have hel : (stL e).length = e.length:=stL_len e
   clear hy
   rcases shs_k h6 with rfl | rfl | rfl | rfl | rfl | rfl | rfl | rfl
   ·
    rw [stq1] at hst hle
    simp only [List.length_append,List.length_cons,List.length_nil] at hle
    obtain ⟨xk,xn,xt,xs,xm⟩:=x
    refine pa [.b true,.v (stA (.mk 1 t ns (.mk xk xn xt xs xm) b e)),.v (.str (outW b (i0 ++ tab4))),.b true,.s] rfl ?_ ?_
    ·(repeat' with_reducible apply AllP_cons) <;> try exact aC
     all_goals (try exact ⟨_,hB,.cons (.refl (.sl (fun h => by cases h) (stL_free b))) (.cons (.refl .str) (.nil _))⟩)
     all_goals (repeat rw [List.length_append])
     all_goals (try rw [cPass])
     all_goals (try rw [cRet])
     all_goals (try rw [cEq])
     all_goals (try rw [cLoad])
     all_goals (try rw [cSep])
     all_goals (try rw [cDef])
     all_goals (try rw [cIff])
     all_goals (try rw [cElse])
     all_goals (try rw [cForr])
     all_goals (try rw [cInn])
     all_goals (try rw [cCol])
     all_goals (try rw [cOpn])
     all_goals (try rw [cCls])
     all_goals (try rw [cTab])
     all_goals (try rw [cNl])
     all_goals omega
    refine S_drop (id:=0) rfl ?_ ⟨.skip,_,.inr ⟨_,_,_,rfl⟩⟩
    refine pa [] rfl ?_ ?_
    ·(repeat' with_reducible apply AllP_cons) <;> try exact aC
     all_goals (repeat rw [List.length_append])
     all_goals (try rw [cPass])
     all_goals (try rw [cRet])
     all_goals (try rw [cEq])
     all_goals (try rw [cLoad])
     all_goals (try rw [cSep])
     all_goals (try rw [cDef])
     all_goals (try rw [cIff])
     all_goals (try rw [cElse])
     all_goals (try rw [cForr])
     all_goals (try rw [cInn])
     all_goals (try rw [cCol])
     all_goals (try rw [cOpn])
     all_goals (try rw [cCls])
     all_goals (try rw [cTab])
     all_goals (try rw [cNl])
     all_goals omega
    refine S_round (i + 1) (by show l.length - (i + 1) < l.length - i; omega) hlt (.cons rfl (.cons rfl (.cons ?_ (.cons rfl (.cons (nX (by omega)) (.nil _)))))) rfl
    show AV.str (out ++ i0 ++ ([112,97,115,115] ++ [10])) = .str (outW (l.take (i + 1)) i0)
    rw [hst]
    simp only [List.append_assoc]
   ·
    rw [stq2] at hst hle
    simp only [List.length_append,List.length_cons,List.length_nil] at hle
    have hX : Calc cx 44 [exA x,.bool false] (.str (exT x false)):=exS x h6.2.2.1 (by omega) false
    obtain ⟨xk,xn,xt,xs,xm⟩:=x
    refine pa [.b true,.v (stA (.mk 2 t ns (.mk xk xn xt xs xm) b e)),.v (.str (outW b (i0 ++ tab4))),.b false,.b true,.v (.str (exT (.mk xk xn xt xs xm) false)),.s] rfl ?_ ?_
    ·(repeat' with_reducible apply AllP_cons) <;> try exact aC
     all_goals (try exact ⟨_,hB,.cons (.refl (.sl (fun h => by cases h) (stL_free b))) (.cons (.refl .str) (.nil _))⟩)
     all_goals (try exact ⟨_,hX,.cons (.refl (exT_free xk xn xt xs xm)) (.cons (.refl .bool) (.nil _))⟩)
     all_goals (repeat rw [List.length_append])
     all_goals (try rw [cPass])
     all_goals (try rw [cRet])
     all_goals (try rw [cEq])
     all_goals (try rw [cLoad])
     all_goals (try rw [cSep])
     all_goals (try rw [cDef])
     all_goals (try rw [cIff])
     all_goals (try rw [cElse])
     all_goals (try rw [cForr])
     all_goals (try rw [cInn])
     all_goals (try rw [cCol])
     all_goals (try rw [cOpn])
     all_goals (try rw [cCls])
     all_goals (try rw [cTab])
     all_goals (try rw [cNl])
     all_goals omega
    refine S_drop (id:=0) rfl ?_ ⟨.skip,_,.inr ⟨_,_,_,rfl⟩⟩
    refine pa [] rfl ?_ ?_
    ·(repeat' with_reducible apply AllP_cons) <;> try exact aC
     all_goals (repeat rw [List.length_append])
     all_goals (try rw [cPass])
     all_goals (try rw [cRet])
     all_goals (try rw [cEq])
     all_goals (try rw [cLoad])
     all_goals (try rw [cSep])
     all_goals (try rw [cDef])
     all_goals (try rw [cIff])
     all_goals (try rw [cElse])
     all_goals (try rw [cForr])
     all_goals (try rw [cInn])
     all_goals (try rw [cCol])
     all_goals (try rw [cOpn])
     all_goals (try rw [cCls])
     all_goals (try rw [cTab])
     all_goals (try rw [cNl])
     all_goals omega
    refine S_round (i + 1) (by show l.length - (i + 1) < l.length - i; omega) hlt (.cons rfl (.cons rfl (.cons ?_ (.cons rfl (.cons (nX (by omega)) (.nil _)))))) rfl
    show AV.str (out ++ i0 ++ ([114,101,116,117,114,110,32] ++ exT (.mk xk xn xt xs xm) false ++ [10])) = .str (outW (l.take (i + 1)) i0)
    rw [hst]
    simp only [List.append_assoc]
   ·
    rw [stq3] at hst hle
    simp only [List.length_append,List.length_cons,List.length_nil] at hle
    have hX : Calc cx 44 [exA x,.bool false] (.str (exT x false)):=exS x h6.2.2.1 (by omega) false
    obtain ⟨xk,xn,xt,xs,xm⟩:=x
    refine pa [.b true,.v (stA (.mk 3 t ns (.mk xk xn xt xs xm) b e)),.v (.str (outW b (i0 ++ tab4))),.b false,.b false,.b true,.v (.str (exT (.mk xk xn xt xs xm) false)),.s] rfl ?_ ?_
    ·(repeat' with_reducible apply AllP_cons) <;> try exact aC
     all_goals (try exact ⟨_,hB,.cons (.refl (.sl (fun h => by cases h) (stL_free b))) (.cons (.refl .str) (.nil _))⟩)
     all_goals (try exact ⟨_,hX,.cons (.refl (exT_free xk xn xt xs xm)) (.cons (.refl .bool) (.nil _))⟩)
     all_goals (repeat rw [List.length_append])
     all_goals (try rw [cPass])
     all_goals (try rw [cRet])
     all_goals (try rw [cEq])
     all_goals (try rw [cLoad])
     all_goals (try rw [cSep])
     all_goals (try rw [cDef])
     all_goals (try rw [cIff])
     all_goals (try rw [cElse])
     all_goals (try rw [cForr])
     all_goals (try rw [cInn])
     all_goals (try rw [cCol])
     all_goals (try rw [cOpn])
     all_goals (try rw [cCls])
     all_goals (try rw [cTab])
     all_goals (try rw [cNl])
     all_goals omega
    refine S_drop (id:=0) rfl ?_ ⟨.skip,_,.inr ⟨_,_,_,rfl⟩⟩
    refine pa [] rfl ?_ ?_
    ·(repeat' with_reducible apply AllP_cons) <;> try exact aC
     all_goals (repeat rw [List.length_append])
     all_goals (try rw [cPass])
     all_goals (try rw [cRet])
     all_goals (try rw [cEq])
     all_goals (try rw [cLoad])
     all_goals (try rw [cSep])
     all_goals (try rw [cDef])
     all_goals (try rw [cIff])
     all_goals (try rw [cElse])
     all_goals (try rw [cForr])
     all_goals (try rw [cInn])
     all_goals (try rw [cCol])
     all_goals (try rw [cOpn])
     all_goals (try rw [cCls])
     all_goals (try rw [cTab])
     all_goals (try rw [cNl])
     all_goals omega
    refine S_round (i + 1) (by show l.length - (i + 1) < l.length - i; omega) hlt (.cons rfl (.cons rfl (.cons ?_ (.cons rfl (.cons (nX (by omega)) (.nil _)))))) rfl
    show AV.str (out ++ i0 ++ (t ++ [32,61,32] ++ exT (.mk xk xn xt xs xm) false ++ [10])) = .str (outW (l.take (i + 1)) i0)
    rw [hst]
    simp only [List.append_assoc]
   ·
    rw [stq4] at hst hle
    simp only [List.length_append,List.length_cons,List.length_nil] at hle
    have hq:=quo_le t
    have hQ:=QuoteText_ok t (by omega)
    have hnl:=texts_len ns
    obtain ⟨xk,xn,xt,xs,xm⟩:=x
    refine pa [.b true,.v (stA (.mk 4 t ns (.mk xk xn xt xs xm) b e)),.v (.str (outW b (i0 ++ tab4))),.b false,.b false,.b false,.b true,.v (.str (quoT t))] rfl ?_ ?_
    ·(repeat' with_reducible apply AllP_cons) <;> try exact aC
     all_goals (try exact ⟨_,hB,.cons (.refl (.sl (fun h => by cases h) (stL_free b))) (.cons (.refl .str) (.nil _))⟩)
     all_goals (try exact ⟨_,hQ,.cons (.refl .str) (.nil _)⟩)
     all_goals (repeat rw [List.length_append])
     all_goals (try rw [cPass])
     all_goals (try rw [cRet])
     all_goals (try rw [cEq])
     all_goals (try rw [cLoad])
     all_goals (try rw [cSep])
     all_goals (try rw [cDef])
     all_goals (try rw [cIff])
     all_goals (try rw [cElse])
     all_goals (try rw [cForr])
     all_goals (try rw [cInn])
     all_goals (try rw [cCol])
     all_goals (try rw [cOpn])
     all_goals (try rw [cCls])
     all_goals (try rw [cTab])
     all_goals (try rw [cNl])
     all_goals omega
    refine S_while (α:=Nat) (fun j => [(0,.sl true false 10 (stL l)),(1,.str i0),(5,.str (out ++ i0 ++ ([108,111,97,100,40] ++ quoT t) ++ namT (ns.take j))),(6,.str [10]),(7,.int .i64 (i : Nat)),(8,.ptr 0 (i + 1) 0),(10,.int .i64 (j : Nat))]) (fun j => [(i + 1,some (.cells (stA (.mk 4 t ns (.mk xk xn xt xs xm) b e)).cells ⟨false,some 56⟩))]) (fun j => j ≤ ns.length) (fun j => ns.length - j) 0
     (Nat.zero_le _) (.cons rfl (.cons rfl (.cons (by show AV.str _ = .str (_ ++ []); rw [List.append_nil]) (.cons rfl (.cons rfl (.cons rfl (.cons rfl (.nil _)))))))) rfl ?_
    intro j hj
    have hj : j ≤ ns.length:=hj
    by_cases hjt : j < ns.length
    ·have hnt:=namT_take ns j hjt
     have hne:=namT_le ns (j + 1) hjt
     have hq2:=quo_le ns[j]
     rw [hnt] at hne
     simp only [List.length_append,List.length_cons,List.length_nil] at hne
     have hQ2:=QuoteText_ok ns[j] (by omega)
     have hge : (texts ns)[(j : Int).toNat]? = some (.str ns[j]):=texts_get hjt
     have e1 : decide ((j : Int) < (((texts ns).length : Nat) : Int)) = true:=decide_eq_true (by omega)
     refine pa [.b true,.v (.str ns[j]),.v (.str (quoT ns[j]))] rfl ?_ ?_
     ·(repeat' with_reducible apply AllP_cons) <;> try exact aC
      all_goals (try exact ⟨_,hQ2,.cons (.refl .str) (.nil _)⟩)
      all_goals (repeat rw [List.length_append])
      all_goals (try rw [cPass])
      all_goals (try rw [cRet])
      all_goals (try rw [cEq])
      all_goals (try rw [cLoad])
      all_goals (try rw [cSep])
      all_goals (try rw [cDef])
      all_goals (try rw [cIff])
      all_goals (try rw [cElse])
      all_goals (try rw [cForr])
      all_goals (try rw [cInn])
      all_goals (try rw [cCol])
      all_goals (try rw [cOpn])
      all_goals (try rw [cCls])
      all_goals (try rw [cTab])
      all_goals (try simp only [List.length_cons,List.length_nil])
      all_goals omega
     refine S_round (j + 1) (by show ns.length - (j + 1) < ns.length - j; omega) hjt (.cons rfl (.cons rfl (.cons ?_ (.cons rfl (.cons rfl (.cons rfl (.cons (nX (by omega)) (.nil _)))))))) rfl
     show AV.str (out ++ i0 ++ ([108,111,97,100,40] ++ quoT t) ++ namT (ns.take j) ++ ([44,32] ++ quoT ns[j])) = .str (out ++ i0 ++ ([108,111,97,100,40] ++ quoT t) ++ namT (ns.take (j + 1)))
     rw [hnt]
     simp only [List.append_assoc]
    ·have e1 : decide ((j : Int) < (((texts ns).length : Nat) : Int)) = false:=decide_eq_false (by omega)
     obtain rfl : j = ns.length:=by omega
     rw [List.take_length]
     refine pB [.b false,.s] rfl ?_
     refine S_drop (id:=0) rfl ?_ ⟨.skip,_,.inr ⟨_,_,_,rfl⟩⟩
     refine pa [] rfl ?_ ?_
     ·(repeat' with_reducible apply AllP_cons) <;> try exact aC
      all_goals (repeat rw [List.length_append])
      all_goals (try rw [cPass])
      all_goals (try rw [cRet])
      all_goals (try rw [cEq])
      all_goals (try rw [cLoad])
      all_goals (try rw [cSep])
      all_goals (try rw [cDef])
      all_goals (try rw [cIff])
      all_goals (try rw [cElse])
      all_goals (try rw [cForr])
      all_goals (try rw [cInn])
      all_goals (try rw [cCol])
      all_goals (try rw [cOpn])
      all_goals (try rw [cCls])
      all_goals (try rw [cTab])
      all_goals (try simp only [List.length_cons,List.length_nil])
      all_goals omega
     refine S_round (i + 1) (by show l.length - (i + 1) < l.length - i; omega) hlt (.cons rfl (.cons rfl (.cons ?_ (.cons rfl (.cons (nX (by omega)) (.nil _)))))) rfl
     show AV.str (out ++ i0 ++ ([108,111,97,100,40] ++ quoT t) ++ namT ns ++ ([41] ++ [10])) = .str (outW (l.take (i + 1)) i0)
     rw [hst]
     simp only [List.append_assoc]
   ·
    rw [stq5] at hst hle
    simp only [List.length_append,List.length_cons,List.length_nil] at hle
    have hX : Calc cx 44 [exA x,.bool false] (.str (exT x false)):=exS x h6.2.2.1 (by omega) false
    obtain ⟨xk,xn,xt,xs,xm⟩:=x
    refine pa [.b true,.v (stA (.mk 5 t ns (.mk xk xn xt xs xm) b e)),.v (.str (outW b (i0 ++ tab4))),.b false,.b false,.b false,.b false,.b true,.v (.str (exT (.mk xk xn xt xs xm) false)),.s] rfl ?_ ?_
    ·(repeat' with_reducible apply AllP_cons) <;> try exact aC
     all_goals (try exact ⟨_,hB,.cons (.refl (.sl (fun h => by cases h) (stL_free b))) (.cons (.refl .str) (.nil _))⟩)
     all_goals (try exact ⟨_,hX,.cons (.refl (exT_free xk xn xt xs xm)) (.cons (.refl .bool) (.nil _))⟩)
     all_goals (repeat rw [List.length_append])
     all_goals (try rw [cPass])
     all_goals (try rw [cRet])
     all_goals (try rw [cEq])
     all_goals (try rw [cLoad])
     all_goals (try rw [cSep])
     all_goals (try rw [cDef])
     all_goals (try rw [cIff])
     all_goals (try rw [cElse])
     all_goals (try rw [cForr])
     all_goals (try rw [cInn])
     all_goals (try rw [cCol])
     all_goals (try rw [cOpn])
     all_goals (try rw [cCls])
     all_goals (try rw [cTab])
     all_goals (try rw [cNl])
     all_goals omega
    refine S_drop (id:=0) rfl ?_ ⟨.skip,_,.inr ⟨_,_,_,rfl⟩⟩
    refine pa [] rfl ?_ ?_
    ·(repeat' with_reducible apply AllP_cons) <;> try exact aC
     all_goals (repeat rw [List.length_append])
     all_goals (try rw [cPass])
     all_goals (try rw [cRet])
     all_goals (try rw [cEq])
     all_goals (try rw [cLoad])
     all_goals (try rw [cSep])
     all_goals (try rw [cDef])
     all_goals (try rw [cIff])
     all_goals (try rw [cElse])
     all_goals (try rw [cForr])
     all_goals (try rw [cInn])
     all_goals (try rw [cCol])
     all_goals (try rw [cOpn])
     all_goals (try rw [cCls])
     all_goals (try rw [cTab])
     all_goals (try rw [cNl])
     all_goals omega
    refine S_round (i + 1) (by show l.length - (i + 1) < l.length - i; omega) hlt (.cons rfl (.cons rfl (.cons ?_ (.cons rfl (.cons (nX (by omega)) (.nil _)))))) rfl
    show AV.str (out ++ i0 ++ (exT (.mk xk xn xt xs xm) false ++ [10])) = .str (outW (l.take (i + 1)) i0)
    rw [hst]
    simp only [List.append_assoc]
   ·
    rw [stq6] at hst hle
    simp only [List.length_append,List.length_cons,List.length_nil] at hle
    have hJ:=Joined_ok (st:=true) (fl:=false) ns [44,32] (by omega) (by omega)
    obtain ⟨xk,xn,xt,xs,xm⟩:=x
    refine pa [.b true,.v (stA (.mk 6 t ns (.mk xk xn xt xs xm) b e)),.v (.str (outW b (i0 ++ tab4))),.b false,.b false,.b false,.b false,.b false,.b true,.v (.str (jnB [44,32] ns)),.s] rfl ?_ ?_
    ·(repeat' with_reducible apply AllP_cons) <;> try exact aC
     all_goals (try exact ⟨_,hB,.cons (.refl (.sl (fun h => by cases h) (stL_free b))) (.cons (.refl .str) (.nil _))⟩)
     all_goals (try exact ⟨_,hJ,.cons (.refl (.sl (fun h => by cases h) (textsF ns))) (.cons (.refl .str) (.nil _))⟩)
     all_goals (repeat rw [List.length_append])
     all_goals (try rw [cPass])
     all_goals (try rw [cRet])
     all_goals (try rw [cEq])
     all_goals (try rw [cLoad])
     all_goals (try rw [cSep])
     all_goals (try rw [cDef])
     all_goals (try rw [cIff])
     all_goals (try rw [cElse])
     all_goals (try rw [cForr])
     all_goals (try rw [cInn])
     all_goals (try rw [cCol])
     all_goals (try rw [cOpn])
     all_goals (try rw [cCls])
     all_goals (try rw [cTab])
     all_goals (try rw [cNl])
     all_goals omega
    refine S_drop (id:=0) rfl ?_ ⟨.skip,_,.inr ⟨_,_,_,rfl⟩⟩
    refine pa [] rfl ?_ ?_
    ·(repeat' with_reducible apply AllP_cons) <;> try exact aC
     all_goals (repeat rw [List.length_append])
     all_goals (try rw [cPass])
     all_goals (try rw [cRet])
     all_goals (try rw [cEq])
     all_goals (try rw [cLoad])
     all_goals (try rw [cSep])
     all_goals (try rw [cDef])
     all_goals (try rw [cIff])
     all_goals (try rw [cElse])
     all_goals (try rw [cForr])
     all_goals (try rw [cInn])
     all_goals (try rw [cCol])
     all_goals (try rw [cOpn])
     all_goals (try rw [cCls])
     all_goals (try rw [cTab])
     all_goals (try rw [cNl])
     all_goals omega
    refine S_round (i + 1) (by show l.length - (i + 1) < l.length - i; omega) hlt (.cons rfl (.cons rfl (.cons ?_ (.cons rfl (.cons (nX (by omega)) (.nil _)))))) rfl
    show AV.str (out ++ i0 ++ ([100,101,102,32] ++ t ++ [40] ++ jnB [44,32] ns ++ [41] ++ ([58] ++ [10] ++ outW b (i0 ++ tab4)))) = .str (outW (l.take (i + 1)) i0)
    rw [hst]
    simp only [List.append_assoc]
   ·
    rw [stq7] at hst hle
    simp only [List.length_append,List.length_cons,List.length_nil] at hle
    have hX : Calc cx 44 [exA x,.bool false] (.str (exT x false)):=exS x h6.2.2 (by omega) false
    obtain ⟨xk,xn,xt,xs,xm⟩:=x
    by_cases hel0 : e.length > 0
    ·rw [if_pos hel0] at hst hle
     simp only [List.length_append,List.length_cons,List.length_nil] at hle
     have e2 : decide ((((stL e).length : Nat) : Int) > 0) = true:=decide_eq_true (by omega)
     refine pa [.b true,.v (stA (.mk 7 t ns (.mk xk xn xt xs xm) b e)),.v (.str (outW b (i0 ++ tab4))),.b false,.b false,.b false,.b false,.b false,.b false,.b true,.v (.str (exT (.mk xk xn xt xs xm) false)),.b true,.v (.str (outW e (i0 ++ tab4))),.s] rfl ?_ ?_
     ·(repeat' with_reducible apply AllP_cons) <;> try exact aC
      all_goals (try exact ⟨_,hB,.cons (.refl (.sl (fun h => by cases h) (stL_free b))) (.cons (.refl .str) (.nil _))⟩)
      all_goals (try exact ⟨_,hX,.cons (.refl (exT_free xk xn xt xs xm)) (.cons (.refl .bool) (.nil _))⟩)
      all_goals (try exact ⟨_,hE,.cons (.refl (.sl (fun h => by cases h) (stL_free e))) (.cons (.refl .str) (.nil _))⟩)
      all_goals (repeat rw [List.length_append])
      all_goals (try rw [cPass])
      all_goals (try rw [cRet])
      all_goals (try rw [cEq])
      all_goals (try rw [cLoad])
      all_goals (try rw [cSep])
      all_goals (try rw [cDef])
      all_goals (try rw [cIff])
      all_goals (try rw [cElse])
      all_goals (try rw [cForr])
      all_goals (try rw [cInn])
      all_goals (try rw [cCol])
      all_goals (try rw [cOpn])
      all_goals (try rw [cCls])
      all_goals (try rw [cTab])
      all_goals (try rw [cNl])
      all_goals omega
     refine S_drop (id:=0) rfl ?_ ⟨.skip,_,.inr ⟨_,_,_,rfl⟩⟩
     refine pa [] rfl ?_ ?_
     ·(repeat' with_reducible apply AllP_cons) <;> try exact aC
      all_goals (repeat rw [List.length_append])
      all_goals (try rw [cPass])
      all_goals (try rw [cRet])
      all_goals (try rw [cEq])
      all_goals (try rw [cLoad])
      all_goals (try rw [cSep])
      all_goals (try rw [cDef])
      all_goals (try rw [cIff])
      all_goals (try rw [cElse])
      all_goals (try rw [cForr])
      all_goals (try rw [cInn])
      all_goals (try rw [cCol])
      all_goals (try rw [cOpn])
      all_goals (try rw [cCls])
      all_goals (try rw [cTab])
      all_goals (try rw [cNl])
      all_goals omega
     refine S_round (i + 1) (by show l.length - (i + 1) < l.length - i; omega) hlt (.cons rfl (.cons rfl (.cons ?_ (.cons rfl (.cons (nX (by omega)) (.nil _)))))) rfl
     show AV.str (out ++ i0 ++ ([105,102,32] ++ exT (.mk xk xn xt xs xm) false ++ ([58] ++ [10] ++ outW b (i0 ++ tab4))) ++ (i0 ++ [101,108,115,101,58] ++ [10] ++ outW e (i0 ++ tab4))) = .str (outW (l.take (i + 1)) i0)
     rw [hst]
     simp only [List.append_assoc]
    ·rw [if_neg hel0] at hst hle
     rw [List.append_nil] at hst
     simp only [List.length_nil] at hle
     have e2 : decide ((((stL e).length : Nat) : Int) > 0) = false:=decide_eq_false (by omega)
     refine pa [.b true,.v (stA (.mk 7 t ns (.mk xk xn xt xs xm) b e)),.v (.str (outW b (i0 ++ tab4))),.b false,.b false,.b false,.b false,.b false,.b false,.b true,.v (.str (exT (.mk xk xn xt xs xm) false)),.b false,.s] rfl ?_ ?_
     ·(repeat' with_reducible apply AllP_cons) <;> try exact aC
      all_goals (try exact ⟨_,hB,.cons (.refl (.sl (fun h => by cases h) (stL_free b))) (.cons (.refl .str) (.nil _))⟩)
      all_goals (try exact ⟨_,hX,.cons (.refl (exT_free xk xn xt xs xm)) (.cons (.refl .bool) (.nil _))⟩)
      all_goals (repeat rw [List.length_append])
      all_goals (try rw [cPass])
      all_goals (try rw [cRet])
      all_goals (try rw [cEq])
      all_goals (try rw [cLoad])
      all_goals (try rw [cSep])
      all_goals (try rw [cDef])
      all_goals (try rw [cIff])
      all_goals (try rw [cElse])
      all_goals (try rw [cForr])
      all_goals (try rw [cInn])
      all_goals (try rw [cCol])
      all_goals (try rw [cOpn])
      all_goals (try rw [cCls])
      all_goals (try rw [cTab])
      all_goals (try rw [cNl])
      all_goals omega
     refine S_drop (id:=0) rfl ?_ ⟨.skip,_,.inr ⟨_,_,_,rfl⟩⟩
     refine pa [] rfl ?_ ?_
     ·(repeat' with_reducible apply AllP_cons) <;> try exact aC
      all_goals (repeat rw [List.length_append])
      all_goals (try rw [cPass])
      all_goals (try rw [cRet])
      all_goals (try rw [cEq])
      all_goals (try rw [cLoad])
      all_goals (try rw [cSep])
      all_goals (try rw [cDef])
      all_goals (try rw [cIff])
      all_goals (try rw [cElse])
      all_goals (try rw [cForr])
      all_goals (try rw [cInn])
      all_goals (try rw [cCol])
      all_goals (try rw [cOpn])
      all_goals (try rw [cCls])
      all_goals (try rw [cTab])
      all_goals (try rw [cNl])
      all_goals omega
     refine S_round (i + 1) (by show l.length - (i + 1) < l.length - i; omega) hlt (.cons rfl (.cons rfl (.cons ?_ (.cons rfl (.cons (nX (by omega)) (.nil _)))))) rfl
     show AV.str (out ++ i0 ++ ([105,102,32] ++ exT (.mk xk xn xt xs xm) false ++ ([58] ++ [10] ++ outW b (i0 ++ tab4)))) = .str (outW (l.take (i + 1)) i0)
     rw [hst]
     simp only [List.append_assoc]
   ·
    rw [stq8] at hst hle
    simp only [List.length_append,List.length_cons,List.length_nil] at hle
    have hX : Calc cx 44 [exA x,.bool false] (.str (exT x false)):=exS x h6.2.2.1 (by omega) false
    obtain ⟨xk,xn,xt,xs,xm⟩:=x
    refine pa [.b true,.v (stA (.mk 8 t ns (.mk xk xn xt xs xm) b e)),.v (.str (outW b (i0 ++ tab4))),.b false,.b false,.b false,.b false,.b false,.b false,.b false,.b true,.v (.str (exT (.mk xk xn xt xs xm) false)),.s] rfl ?_ ?_
    ·(repeat' with_reducible apply AllP_cons) <;> try exact aC
     all_goals (try exact ⟨_,hB,.cons (.refl (.sl (fun h => by cases h) (stL_free b))) (.cons (.refl .str) (.nil _))⟩)
     all_goals (try exact ⟨_,hX,.cons (.refl (exT_free xk xn xt xs xm)) (.cons (.refl .bool) (.nil _))⟩)
     all_goals (repeat rw [List.length_append])
     all_goals (try rw [cPass])
     all_goals (try rw [cRet])
     all_goals (try rw [cEq])
     all_goals (try rw [cLoad])
     all_goals (try rw [cSep])
     all_goals (try rw [cDef])
     all_goals (try rw [cIff])
     all_goals (try rw [cElse])
     all_goals (try rw [cForr])
     all_goals (try rw [cInn])
     all_goals (try rw [cCol])
     all_goals (try rw [cOpn])
     all_goals (try rw [cCls])
     all_goals (try rw [cTab])
     all_goals (try rw [cNl])
     all_goals omega
    refine S_drop (id:=0) rfl ?_ ⟨.skip,_,.inr ⟨_,_,_,rfl⟩⟩
    refine pa [] rfl ?_ ?_
    ·(repeat' with_reducible apply AllP_cons) <;> try exact aC
     all_goals (repeat rw [List.length_append])
     all_goals (try rw [cPass])
     all_goals (try rw [cRet])
     all_goals (try rw [cEq])
     all_goals (try rw [cLoad])
     all_goals (try rw [cSep])
     all_goals (try rw [cDef])
     all_goals (try rw [cIff])
     all_goals (try rw [cElse])
     all_goals (try rw [cForr])
     all_goals (try rw [cInn])
     all_goals (try rw [cCol])
     all_goals (try rw [cOpn])
     all_goals (try rw [cCls])
     all_goals (try rw [cTab])
     all_goals (try rw [cNl])
     all_goals omega
    refine S_round (i + 1) (by show l.length - (i + 1) < l.length - i; omega) hlt (.cons rfl (.cons rfl (.cons ?_ (.cons rfl (.cons (nX (by omega)) (.nil _)))))) rfl
    show AV.str (out ++ i0 ++ ([102,111,114,32] ++ t ++ [32,105,110,32] ++ exT (.mk xk xn xt xs xm) false ++ ([58] ++ [10] ++ outW b (i0 ++ tab4)))) = .str (outW (l.take (i + 1)) i0)
    rw [hst]
    simp only [List.append_assoc]
  ·have e0 : decide ((i : Int) < (((stL l).length : Nat) : Int)) = false:=decide_eq_false (by omega)
   obtain rfl : i = l.length:=by omega
   rw [List.take_length]
   refine pB [.b false] rfl ?_
   exact S_retc .str rfl trivial rfl
section
def bareT (t : Tok) : Tok:=⟨t.kind,t.text,t.num,0⟩
def bareL (l : List Tok) : List Tok:=l.map bareT
section
variable (z z' : List Tok) (Q : Prop) (e : Nat)
def Lf (r r' : List Tok) : Prop:=∃ a,r = a ++ z ∧ bareL r' = bareL (a ++ z')
def Sm {α : Type} (R : α → α → Prop) (m : Nat) (r r' : List Tok) (x x' : Pr α) : Prop :=
 (∀ y u,x = .ok y u → u <:+ r ∧ u.length + m ≤ r.length) ∧
 (Lf z z' r r' → ∀ y u,x = .ok y u → (∃ a,u = a ++ z ∧ (a = [] → Q)) → (∃ y' u',x' = .ok y' u' ∧ R y y' ∧ Lf z z' u u') ∨ (0 < e ∧ ∃ k,x' = .bad 2 k))
end
section
variable {z z' : List Tok} {Q : Prop} {e : Nat} {α β : Type} {R : α → α → Prop} {R' : β → β → Prop} {m m' : Nat} {r r' : List Tok}
theorem Sm.mono {x x' : Pr α} (h : Sm z z' Q e R m r r' x x') (hm : m' ≤ m) : Sm z z' Q e R m' r r' x x':=⟨fun y u hx => by have:=h.1 y u hx; exact ⟨this.1,by omega⟩,h.2⟩
theorem levS_d {F n : Nat} {r : List Tok} : ∀ k,k ≠ 2 → k ≠ 5 → levS (F + 1) k n r = (levS F (k + 1) n r).bind fun x r => loopS F k n x r
 | 0,_,_ => rfl
 | 1,_,_ => rfl
 | 2,h,_ => absurd rfl h
 | 3,_,_ => rfl
 | 4,_,_ => rfl
 | 5,_,h => absurd rfl h
 | k + 6,_,_ => rfl
end
end
end Go.Proofs.YtonjhfeabphaaaaGreatDoor
end
