/-
  Texts of our own, in one file.
-/
import Derived.Test.YtonjhfeabphaaaaGreatDoorGrpC
import Derived.Sort.Grow
import Derived.Deep.Draws
import Derived.Shelf.Strconv.Itoa3
import Derived.Shelf.LaysM
set_option linter.unusedVariables false
set_option linter.unusedSimpArgs false
set_option maxRecDepth 20000
set_option maxHeartbeats 4000000
section
namespace Go.Proofs.YtonjhfeabphaaaaGreatDoor
open Go Go.Ab
section
theorem psB_free (v : Nat) (l r : List Tok) (e b d n : Nat) : ∀ x ∈ [AV.sl true false 4 (l.map tokA),.int .i64 ((l.length - r.length : Nat) : Int),.int .i64 (e : Nat),.int .i64 (b : Nat),.int .i64 (d : Nat),.int .i64 (n : Nat)],Free false x:=by
 intro x hx
 simp only [List.mem_cons,List.not_mem_nil,or_false] at hx
 rcases hx with rfl | rfl | rfl | rfl | rfl | rfl
 ·exact .sl (fun h => by cases h) (toks_free l)
 all_goals exact .int
theorem psH_rn (v : Nat) (l r : List Tok) (e b d n : Nat) : RnH (List.range 1) (psH v l r e b d n) (psH v l r e b d n) :=
 .cons (.live (.cells (.free (psB_free v l r e b d n)))) (.nil _)
theorem psH_low (v : Nat) (l r : List Tok) (e b d n : Nat) (τ : Heap) : LowH 1 (psB v l r e b d n :: τ):=by
 intro id ver x hid hx
 match id,hid with
 | 0,_ =>
  cases hx
  exact .cells fun y hy => Low.free (psB_free v l r e b d n y hy)
def PE {α : Type} (A : α → AV) (v : Nat) (l : List Tok) (e b d n : Nat) (x : Pr α) (τ : Heap) : Out → Heap → Prop:=fun o σ => match x with
 | .out => True
 | .bad k r => o = .panic (flt (k,placeS e r)) ∧ ∃ r' b' d' n',σ = psB v l r' e b' d' n' :: τ
 | .ok y r => o = .ret (A y) ∧ σ = psB v l r e b d n :: τ
theorem fltI_free {st : Bool} (e : Flt) : Free st (flt e):=.iface (flt_free e)
theorem PE.tail {α : Type} {A : α → AV} {f : FuncId} {args : List AV} {v : Nat} {l r : List Tok} {e b d n b1 d1 n1 : Nat} {x : Pr α} (τ : Heap) (h : CallOk cx f args (psH v l r e b d n) (PE A v l e b1 d1 n1 x [])) (hne : x ≠ .out) (ha : Rns (List.range 1) args args) (hA : ∀ y,Free false (A y)) :
  CallOk cx f args (psB v l r e b d n :: τ) (PE A v l e b1 d1 n1 x τ) :=
 (h.pre 1 τ rfl ha (psH_rn ..) (fun o s hR => by
  cases x with
  | out => exact absurd rfl hne
  | bad k u => obtain ⟨rfl,r',b',d',n',rfl⟩:=hR; exact ⟨rfl,psH_rn ..,.free (fltI_free _)⟩
  | ok y u => obtain ⟨rfl,rfl⟩:=hR; exact ⟨rfl,psH_rn ..,.free (hA y)⟩)).mono fun o s hR => by
  obtain ⟨s0,rfl,hR⟩:=hR
  cases x with
  | out => exact absurd rfl hne
  | bad k u => obtain ⟨rfl,r',b',d',n',rfl⟩:=hR; exact ⟨rfl,r',b',d',n',rfl⟩
  | ok y u => obtain ⟨rfl,rfl⟩:=hR; exact ⟨rfl,rfl⟩
theorem PE.ok {α : Type} {A : α → AV} {f : FuncId} {args : List AV} {v : Nat} {l r : List Tok} {e b d n : Nat} {x : Pr α} {y : α} {σ τ : Heap} (h : CallOk cx f args σ (PE A v l e b d n x τ)) (hx : x = .ok y r) : CallOk cx f args σ (fun o s => o = .ret (A y) ∧ s = psB v l r e b d n :: τ):=by
 subst hx; exact h
section
variable {N : Nat} {B : Bs} {k : List AI} {fr : Fr} {σ : Heap}
theorem S_callE {α β : Type} {A : α → AV} {A' : β → AV} {fn : Func} {all : Array Oper} {o : Oper} {L : List Oper} {K : List Nat} {f : FuncId} {args : List AV} {v : Nat} {l : List Tok} {e b d n b1 d1 n1 j : Nat} {r : List Tok} {x : Pr α} {X : Pr β} {τ : Heap}
  (hg : guardA all o K fr = some true) (hc : callA cx fr o.op = some (f,args)) (hd : dstOk N o.dst = true) (hcall : CallOk cx f args σ (PE A v l e b d n x τ)) (hx : x = .bad j r) (hX : X = .bad j r) :
  S cx N B (.ops all (o :: L) K :: k) (retQ cx fn (TR 1 (PE A' v l e b1 d1 n1 X []))) fr σ:=by
 subst hx; subst hX
 refine S_call hg hc hd hcall (fun v s h => by cases h.1) (fun w s h => ?_)
 obtain ⟨h1,r',b',d',n',rfl⟩:=h
 cases h1
 exact ⟨1,Nat.le_refl _,psH_low _ _ _ _ _ _ _ _,Low.free (st:=false) (fltI_free _),rfl,r',b',d',n',rfl⟩
theorem S_drawE {α β : Type} {A : α → AV} {A' : β → AV} {fn : Func} {id : Nat} (jc : Nat) {ops : Array Oper} {vals : List AV} {C : List Prop} {fr' : Fr} (K : List Nat) (rs : List AV) {o : Oper} {f : FuncId} {args : List AV} {v : Nat} {l : List Tok} {e b d n b1 d1 n1 j : Nat} {r : List Tok} {x : Pr α} {X : Pr β} {τ : Heap}
  (hP : cx.P.follows .mixedOrders = true) (hchk : drawOkP ops.toList jc = true) (hrun : normC (runD cx K N ops ops.toList σ (ops.toList.take jc) fr rs) = some (C,vals,fr')) (ho : ops.toList[jc]? = some o) (hg : guardA ops o K (restr ops.toList o fr') = some true) (hc : callA cx (restr ops.toList o fr') o.op = some (f,args)) (hC : AllP C)
  (hcall : CallOk cx f args σ (PE A v l e b d n x τ)) (hx : x = .bad j r) (hX : X = .bad j r) :
  S cx N B (.code (.region id ops true) :: k) (retQ cx fn (TR 1 (PE A' v l e b1 d1 n1 X []))) fr σ:=by
 subst hx; subst hX
 refine S_drawP jc K rs hP hchk hrun ho hg hc hC hcall (fun v s h => by cases h.1) (fun w s fr h => ?_)
 obtain ⟨h1,r',b',d',n',rfl⟩:=h
 cases h1
 exact ⟨1,Nat.le_refl _,psH_low _ _ _ _ _ _ _ _,Low.free (st:=false) (fltI_free _),rfl,r',b',d',n',rfl⟩
end
theorem PE.fin {α : Type} {A : α → AV} {v : Nat} {l r : List Tok} {e b d n : Nat} {X : Pr α} {y : α} {τ : Heap} (hX : X = .ok y r) (hA : Free false (A y)) : TR 1 (PE A v l e b d n X []) (.ret (A y)) (psB v l r e b d n :: τ):=by
 subst hX
 exact ⟨1,Nat.le_refl _,psH_low _ _ _ _ _ _ _ _,A y,.low (Low.free hA),rfl,rfl⟩
theorem PE.finZ {α : Type} {A : α → AV} {v : Nat} {l r : List Tok} {e b d n : Nat} {X : Pr α} {y : α} {z : AV} {τ : Heap} (hX : X = .ok y r) (hA : FzT 1 (psB v l r e b d n :: τ) z (A y)) : TR 1 (PE A v l e b d n X []) (.ret z) (psB v l r e b d n :: τ):=by
 subst hX
 exact ⟨1,Nat.le_refl _,psH_low _ _ _ _ _ _ _ _,A y,hA,rfl,rfl⟩
theorem arg0_rn (v : Nat) (xs : List AV) (h : ∀ x ∈ xs,Free false x) : Rns (List.range 1) (.ptr 0 v 0 :: xs) (.ptr 0 v 0 :: xs):=.cons (.ptr rfl) (.free h)
theorem kindT (v : Nat) (l r : List Tok) (e b d n : Nat) (τ : Heap) (hr : r <:+ l) (hl : l.length ≤ 100000) :
  CallOk cx 81 [.ptr 0 v 0] (psB v l r e b d n :: τ) (fun o σ => o = .ret (.int .i64 (hdK r : Nat)) ∧ σ = psB v l r e b d n :: τ) :=
 (kind_ok v l r e b d n hr hl).pre1 1 τ rfl rfl (arg0_rn v [] (by simp)) (psH_rn ..) (psH_rn ..) (.free .int)
theorem failT {α : Type} (A : α → AV) (v : Nat) (l r : List Tok) (e b d n k : Nat) (τ : Heap) (hr : r <:+ l) (hl : l.length ≤ 100000) :
  CallOk cx 82 [.ptr 0 v 0,.int .i64 (k : Nat)] (psB v l r e b d n :: τ) (PE A v l e b d n (.bad k r) τ) :=
 (PE.tail (A:=fun _ : Unit => AV.tup []) (b1:=b) (d1:=d) (n1:=n) (x:=.bad k r) τ ((pfail_ok v l r e b d n k hr hl).mono fun o s ⟨h1,h2⟩ => ⟨h1,r,b,d,n,h2⟩) (by nofun) (arg0_rn v _ (by intro x hx; simp at hx; subst hx; exact .int)) (fun _ => .tup (by simp))).mono fun o s h => h
theorem is_ok (v : Nat) (l r : List Tok) (e b d n : Nat) (s : List UInt8) (hr : r <:+ l) (hl : l.length ≤ 100000) :
  CallOk cx 50 [.ptr 0 v 0,.str s] (psH v l r e b d n) (fun o σ => o = .ret (.bool (isS s r)) ∧ σ = psH v l r e b d n) :=
 callOk_intro (fun a w => Tryz.call50 a w) Tryz.func50 rfl Tryz.ntmps50 rfl fun B => by
  have hk:=kind_ok v l r e b d n hr hl
  have hml : (l.map tokA).length = l.length:=by simp
  unfold isS
  cases r with
  | nil =>
   refine pB [.k (.int .i64 (0 : Nat)),.b false,.b false] rfl ?_
   exact S_ret ⟨_,_,rfl,trivial,rfl,rfl⟩
  | cons t u =>
   have hg:=suf_get hr
   have ht:=suf_lt hr
   by_cases h4 : t.kind = 4
   ·have e4 : ((t.kind : Int) == 4) = true:=by rw [h4]; rfl
    refine pB [.k (.int .i64 (t.kind : Nat)),.b true,.b true,.v (tokA t)] rfl ?_
    refine S_ret ⟨_,_,rfl,trivial,?_,rfl⟩
    show Out.ret (.bool (t.text == s)) = _
    rw [show hdK (t :: u) = 4 from h4]; rfl
   ·have e4 : ((t.kind : Int) == 4) = false:=beq_false_of_ne (by omega)
    by_cases h5 : t.kind = 5
    ·have e5 : ((t.kind : Int) == 5) = true:=by rw [h5]; rfl
     refine pB [.k (.int .i64 (t.kind : Nat)),.b false,.b true,.v (tokA t)] rfl ?_
     refine S_ret ⟨_,_,rfl,trivial,?_,rfl⟩
     show Out.ret (.bool (t.text == s)) = _
     rw [show hdK (t :: u) = 5 from h5]; rfl
    ·have e5 : ((t.kind : Int) == 5) = false:=beq_false_of_ne (by omega)
     refine pB [.k (.int .i64 (t.kind : Nat)),.b false,.b false] rfl ?_
     refine S_ret ⟨_,_,rfl,trivial,?_,rfl⟩
     show Out.ret (.bool false) = .ret (.bool ((t.kind == 4 || t.kind == 5) && hdT (t :: u) == s))
     rw [beq_false_of_ne h4,beq_false_of_ne h5]; rfl
theorem isT (v : Nat) (l r : List Tok) (e b d n : Nat) (s : List UInt8) (τ : Heap) (hr : r <:+ l) (hl : l.length ≤ 100000) :
  CallOk cx 50 [.ptr 0 v 0,.str s] (psB v l r e b d n :: τ) (fun o σ => o = .ret (.bool (isS s r)) ∧ σ = psB v l r e b d n :: τ) :=
 (is_ok v l r e b d n s hr hl).pre1 1 τ rfl rfl (arg0_rn v _ (by intro x hx; simp at hx; subst hx; exact .str)) (psH_rn ..) (psH_rn ..) (.free .bool)
theorem isS_cons {s : List UInt8} {r : List Tok} (h : isS s r = true) : ∃ t u,r = t :: u:=by
 cases r with
 | nil => cases h
 | cons t u => exact ⟨t,u,rfl⟩
theorem suf_nextI {l r : List Tok} {s : List UInt8} (hr : r <:+ l) (hl : l.length ≤ 100000) (h : isS s r = true) : IntKind.i64.wrap (((l.length - r.length : Nat) : Int) + 1) = ((l.length - r.tail.length : Nat) : Int):=by
 obtain ⟨t,u,rfl⟩:=isS_cons h
 exact suf_next hr hl
theorem isS_suf {l r : List Tok} (hr : r <:+ l) : r.tail <:+ l:=(List.tail_suffix r).trans hr
theorem may_ok (v : Nat) (l r : List Tok) (e b d n : Nat) (s : List UInt8) (hr : r <:+ l) (hl : l.length ≤ 100000) :
  CallOk cx 52 [.ptr 0 v 0,.str s] (psH v l r e b d n) (fun o σ => o = .ret (.bool (isS s r)) ∧ σ = psH v l (if isS s r then r.tail else r) e b d n) :=
 callOk_intro (fun a w => Tryz.call52 a w) Tryz.func52 rfl Tryz.ntmps52 rfl fun B => by
  have hi:=is_ok v l r e b d n s hr hl
  by_cases h : isS s r = true
  ·rw [h] at hi ⊢
   have hw:=suf_nextI hr hl h
   refine pB [.k (.bool true),.b true] rfl ?_
   refine S_ret ⟨_,_,rfl,trivial,rfl,?_⟩
   show [psI v l (IntKind.i64.wrap (((l.length - r.length : Nat) : Int) + 1)) e b d n] = _
   rw [hw]; rfl
  ·rw [Bool.not_eq_true] at h
   rw [h] at hi ⊢
   refine pB [.k (.bool false),.b false] rfl ?_
   exact S_ret ⟨_,_,rfl,trivial,rfl,rfl⟩
theorem may_yes (v : Nat) (l r : List Tok) (e b d n : Nat) (s : List UInt8) (τ : Heap) (hr : r <:+ l) (hl : l.length ≤ 100000) (h : isS s r = true) :
  CallOk cx 52 [.ptr 0 v 0,.str s] (psB v l r e b d n :: τ) (fun o σ => o = .ret (.bool true) ∧ σ = psB v l r.tail e b d n :: τ):=by
 have hm:=may_ok v l r e b d n s hr hl
 rw [h] at hm
 exact hm.pre1 1 τ rfl rfl (arg0_rn v _ (by intro x hx; simp at hx; subst hx; exact .str)) (psH_rn ..) (psH_rn ..) (.free .bool)
theorem may_no (v : Nat) (l r : List Tok) (e b d n : Nat) (s : List UInt8) (τ : Heap) (hr : r <:+ l) (hl : l.length ≤ 100000) (h : ¬ isS s r = true) :
  CallOk cx 52 [.ptr 0 v 0,.str s] (psB v l r e b d n :: τ) (fun o σ => o = .ret (.bool false) ∧ σ = psB v l r e b d n :: τ):=by
 have hm:=may_ok v l r e b d n s hr hl
 rw [Bool.not_eq_true] at h
 rw [h] at hm
 exact hm.pre1 1 τ rfl rfl (arg0_rn v _ (by intro x hx; simp at hx; subst hx; exact .str)) (psH_rn ..) (psH_rn ..) (.free .bool)
def uA (_ : Unit) : AV:=.tup []
theorem mustT (v : Nat) (l r : List Tok) (e b d n : Nat) (s : List UInt8) (τ : Heap) (hr : r <:+ l) (hl : l.length ≤ 100000) :
  CallOk cx 56 [.ptr 0 v 0,.str s] (psB v l r e b d n :: τ) (PE uA v l e b d n (mustS s r) τ) :=
 PE.tail τ (callOk_introT (fun a w => Tryz.call56 a w) Tryz.func56 rfl Tryz.ntmps56 rfl fun B => by
  obtain ⟨X,hX⟩ : ∃ X,X = mustS s r:=⟨_,rfl⟩
  rw [← hX]
  unfold mustS at hX
  by_cases h : isS s r = true
  ·rw [if_pos h] at hX
   have hm:=may_yes v l r e b d n s [] hr hl h
   refine pB [.c (.bool true) (psH v l r.tail e b d n),.b false] rfl ?_
   exact S_nil ⟨_,_,rfl,trivial,PE.fin hX (.tup (by simp))⟩
  ·rw [if_neg h] at hX
   have hm:=may_no v l r e b d n s [] hr hl h
   refine pB [.c (.bool false) (psH v l r e b d n),.b true] rfl ?_
   exact S_callE rfl rfl rfl (failT uA v l r e b d n 1 [] hr hl) rfl hX) (by unfold mustS; split <;> nofun) (arg0_rn v _ (by intro x hx; simp at hx; subst hx; exact .str)) (fun _ => .tup (by simp))
theorem takeT (v : Nat) (l r : List Tok) (e b d n k : Nat) (τ : Heap) (hr : r <:+ l) (hl : l.length ≤ 100000) (hk : k ≠ 0) :
  CallOk cx 55 [.ptr 0 v 0,.int .i64 (k : Nat)] (psB v l r e b d n :: τ) (PE tokA v l e b d n (takeS k r) τ) :=
 PE.tail τ (callOk_introT (fun a w => Tryz.call55 a w) Tryz.func55 rfl Tryz.ntmps55 rfl fun B => by
  obtain ⟨X,hX⟩ : ∃ X,X = takeS k r:=⟨_,rfl⟩
  rw [← hX]
  unfold takeS at hX
  cases r with
  | nil =>
   refine pa [.k (.int .i64 (0 : Nat)),.b true] rfl ?_ ?_
   ·(repeat' with_reducible apply AllP_cons) <;> try exact aC
    ·exact kindT v l [] e b d n _ hr hl
    ·exact bne_iff_ne.2 (by omega)
   exact S_callE rfl rfl rfl (failT uA v l [] e b d n 1 _ hr hl) rfl hX
  | cons t u =>
   have hg:=suf_get hr
   have ht:=suf_lt hr
   have hk1:=kindT v l (t :: u) e b d n
   have hX : X = if t.kind = k then .ok t u else .bad 1 (t :: u):=hX
   by_cases h : t.kind = k
   ·subst h
    rw [if_pos rfl] at hX
    have hw:=suf_next hr hl
    have hw2 : IntKind.i64.wrap (IntKind.i64.wrap (((l.length - (t :: u).length : Nat) : Int) + 1) - 1) = ((l.length - (t :: u).length : Nat) : Int):=by
     have:=hr.length_le
     rw [List.length_cons] at this hw ⊢
     rw [hw,IntWalk.i64_in _ ⟨by omega,by omega⟩]; omega
    refine pa [.k (.int .i64 (t.kind : Nat)),.b false,.v (tokA t)] rfl ?_ ?_
    ·(repeat' with_reducible apply AllP_cons) <;> try exact aC
     ·exact hk1 _ hr hl
     ·exact bne_self_eq_false _
     ·rw [hw2]; exact hg
    refine S_ret ⟨_,_,rfl,⟨rfl,trivial⟩,?_⟩
    show TR 1 _ (.ret (tokA t)) (psI v l (IntKind.i64.wrap (((l.length - (t :: u).length : Nat) : Int) + 1)) e b d n :: _)
    rw [hw]
    exact PE.fin hX (.agg (tokC_free t))
   ·rw [if_neg h] at hX
    refine pa [.k (.int .i64 (t.kind : Nat)),.b true] rfl ?_ ?_
    ·(repeat' with_reducible apply AllP_cons) <;> try exact aC
     ·exact hk1 _ hr hl
     ·exact bne_iff_ne.2 (by omega)
    exact S_callE rfl rfl rfl (failT uA v l _ e b d n 1 _ hr hl) rfl hX) (by unfold takeS; split; nofun; split <;> nofun) (arg0_rn v _ (by intro x hx; simp at hx; subst hx; exact .int)) (fun t => .agg (tokC_free t))
end
section
def Yok (y : Nat × Option Box) : Prop:=∃ v cs g,y = (v,some (.cells cs g)) ∧ ∀ x ∈ cs,Rn (List.range 2) x x ∧ Low 2 x
theorem psY_rn (v : Nat) (l r : List Tok) (e b d n : Nat) {y : Nat × Option Box} (hy : Yok y) : RnH (List.range 2) [psB v l r e b d n,y] [psB v l r e b d n,y]:=by
 obtain ⟨v',cs,g,rfl,hc⟩:=hy
 exact .cons (.live (.cells (.free (psB_free v l r e b d n)))) (.cons (.live (.cells ⟨rfl,fun i h1 h2 => (hc _ (List.getElem_mem h1)).1⟩)) (.nil _))
theorem psY_low (v : Nat) (l r : List Tok) (e b d n : Nat) {y : Nat × Option Box} (hy : Yok y) (τ : Heap) : LowH 2 (psB v l r e b d n :: y :: τ):=by
 obtain ⟨v',cs,g,rfl,hc⟩:=hy
 intro id ver x hid hx
 match id,hid with
 | 0,_ =>
  cases hx
  exact .cells fun y hy => Low.free (psB_free v l r e b d n y hy)
 | 1,_ =>
  cases hx
  exact .cells fun y hy => (hc y hy).2
theorem PE.tail2 {α : Type} {A : α → AV} {f : FuncId} {args : List AV} {v : Nat} {l r : List Tok} {e b d n b1 d1 n1 : Nat} {x : Pr α} {y : Nat × Option Box} (τ : Heap) (hy : Yok y) (h : CallOk cx f args [psB v l r e b d n,y] (PE A v l e b1 d1 n1 x [y])) (hne : x ≠ .out) (ha : Rns (List.range 2) args args) (hA : ∀ y,Free false (A y)) :
  CallOk cx f args (psB v l r e b d n :: y :: τ) (PE A v l e b1 d1 n1 x (y :: τ)) :=
 (h.pre 2 τ rfl ha (psY_rn _ _ _ _ _ _ _ hy) (fun o s hR => by
  cases x with
  | out => exact absurd rfl hne
  | bad k u => obtain ⟨rfl,r',b',d',n',rfl⟩:=hR; exact ⟨rfl,psY_rn _ _ _ _ _ _ _ hy,.free (fltI_free _)⟩
  | ok y u => obtain ⟨rfl,rfl⟩:=hR; exact ⟨rfl,psY_rn _ _ _ _ _ _ _ hy,.free (hA y)⟩)).mono fun o s hR => by
  obtain ⟨s0,rfl,hR⟩:=hR
  cases x with
  | out => exact absurd rfl hne
  | bad k u => obtain ⟨rfl,r',b',d',n',rfl⟩:=hR; exact ⟨rfl,r',b',d',n',rfl⟩
  | ok y u => obtain ⟨rfl,rfl⟩:=hR; exact ⟨rfl,rfl⟩
section
variable {N : Nat} {B : Bs} {k : List AI} {fr : Fr} {σ : Heap}
theorem S_callE2 {α β : Type} {A : α → AV} {A' : β → AV} {fn : Func} {all : Array Oper} {o : Oper} {L : List Oper} {K : List Nat} {f : FuncId} {args : List AV} {v : Nat} {l : List Tok} {e b d n b1 d1 n1 j : Nat} {r : List Tok} {x : Pr α} {X : Pr β} {y : Nat × Option Box} {τ : Heap} (hy : Yok y)
  (hg : guardA all o K fr = some true) (hc : callA cx fr o.op = some (f,args)) (hd : dstOk N o.dst = true) (hcall : CallOk cx f args σ (PE A v l e b d n x (y :: τ))) (hx : x = .bad j r) (hX : X = .bad j r) :
  S cx N B (.ops all (o :: L) K :: k) (retQ cx fn (TR 2 (PE A' v l e b1 d1 n1 X [y]))) fr σ:=by
 subst hx; subst hX
 refine S_call hg hc hd hcall (fun v s h => by cases h.1) (fun w s h => ?_)
 obtain ⟨h1,r',b',d',n',rfl⟩:=h
 cases h1
 exact ⟨2,Nat.le_refl _,psY_low _ _ _ _ _ _ _ hy _,Low.free (st:=false) (fltI_free _),rfl,r',b',d',n',rfl⟩
theorem S_drawE2 {α β : Type} {A : α → AV} {A' : β → AV} {fn : Func} {id : Nat} (jc : Nat) {ops : Array Oper} {vals : List AV} {C : List Prop} {fr' : Fr} (K : List Nat) (rs : List AV) {o : Oper} {f : FuncId} {args : List AV} {v : Nat} {l : List Tok} {e b d n b1 d1 n1 j : Nat} {r : List Tok} {x : Pr α} {X : Pr β} {y : Nat × Option Box} {τ : Heap} (hy : Yok y)
  (hP : cx.P.follows .mixedOrders = true) (hchk : drawOkP ops.toList jc = true) (hrun : normC (runD cx K N ops ops.toList σ (ops.toList.take jc) fr rs) = some (C,vals,fr')) (ho : ops.toList[jc]? = some o) (hg : guardA ops o K (restr ops.toList o fr') = some true) (hc : callA cx (restr ops.toList o fr') o.op = some (f,args)) (hC : AllP C)
  (hcall : CallOk cx f args σ (PE A v l e b d n x (y :: τ))) (hx : x = .bad j r) (hX : X = .bad j r) :
  S cx N B (.code (.region id ops true) :: k) (retQ cx fn (TR 2 (PE A' v l e b1 d1 n1 X [y]))) fr σ:=by
 subst hx; subst hX
 refine S_drawP jc K rs hP hchk hrun ho hg hc hC hcall (fun v s h => by cases h.1) (fun w s fr h => ?_)
 obtain ⟨h1,r',b',d',n',rfl⟩:=h
 cases h1
 exact ⟨2,Nat.le_refl _,psY_low _ _ _ _ _ _ _ hy _,Low.free (st:=false) (fltI_free _),rfl,r',b',d',n',rfl⟩
end
theorem PE.fin2 {α : Type} {A : α → AV} {v : Nat} {l r : List Tok} {e b d n : Nat} {X : Pr α} {x : α} {y : Nat × Option Box} {τ : Heap} (hy : Yok y) (hX : X = .ok x r) (hA : Free false (A x)) : TR 2 (PE A v l e b d n X [y]) (.ret (A x)) (psB v l r e b d n :: y :: τ):=by
 subst hX
 exact ⟨2,Nat.le_refl _,psY_low _ _ _ _ _ _ _ hy _,A x,.low (Low.free hA),rfl,rfl⟩
def exO : Nat × Option Box:=(0,some (.cells [.int .i64 0,.int .i64 0,.str [],.nils,.nils] ⟨false,some 54⟩))
def Of (g : FuncId) (xs : List AV) (v : Nat) (l : List Tok) (e b d n : Nat) (y : Nat × Option Box) (r : List Tok) (x : Pr Ex) : Prop :=
 ∀ τ,CallOk cx g xs (psB v l r e b d n :: y :: τ) (PE exA v l e b d n x (y :: τ))
theorem within_ok (g : FuncId) (fs cs : List AV) (v : Nat) (l r : List Tok) (e b d n : Nat) (y : Nat × Option Box) (hy : Yok y) (x : Pr Ex) (hn : n ≤ 30) (hC : n ≠ 30 → Of g (fs ++ [] ++ cs) v l e b d (n + 1) y r x)
  (hr : r <:+ l) (hl : l.length ≤ 100000) (hne : n ≠ 30 → x ≠ .out) (hs : ∀ z u,x = .ok z u → u <:+ l) :
  CallOk cx 84 [.ptr 0 v 0,.func (.func g) fs cs] [psB v l r e b d n,y] (PE exA v l e b d n (if n = 30 then .bad 2 r else x) [y]):=by
 have hy0:=hy
 obtain ⟨yv,yc,yg,rfl,_⟩:=hy
 exact callOk_introT (fun a w => Tryz.call84 a w) Tryz.func84 rfl Tryz.ntmps84 rfl fun B => by
  obtain ⟨X,hX⟩ : ∃ X,X = (if n = 30 then .bad 2 r else x):=⟨_,rfl⟩
  rw [← hX]
  by_cases h : n = 30
  ·rw [if_pos h] at hX
   subst h
   refine pB [.b true] rfl ?_
   exact S_callE2 hy0 rfl rfl rfl (failT uA v l r e b d 30 2 _ hr hl) rfl hX
  ·rw [if_neg h] at hX
   have hC:=hC h
   have hne:=hne h
   have hw : IntKind.i64.wrap ((n : Nat) + 1) = ((n + 1 : Nat) : Int):=by rw [IntWalk.i64_in _ ⟨by omega,by omega⟩]; omega
   have hw1 : IntKind.i64.wrap (((n + 1 : Nat) : Int) - 1) = (n : Int):=by rw [IntWalk.i64_in _ ⟨by omega,by omega⟩]; omega
   refine pB [.b false] rfl ?_
   refine S_heap (psB v l r e b d (n + 1) :: (yv,some (.cells yc yg)) :: [exO]) ?_ ?_
   ·show psI v l ((l.length - r.length : Nat) : Int) e b d (IntKind.i64.wrap ((n : Nat) + 1)) :: _ = _
    rw [hw]; rfl
   have hC:=hC [exO]
   cases hx : x with
   | out => exact absurd hx hne
   | bad j u =>
    rw [hx] at hX
    exact S_callE2 hy0 rfl rfl rfl hC hx hX
   | ok z u =>
    rw [hx] at hX
    have hu:=hs z u hx
    obtain ⟨zk,zn,zt,zs,zm⟩:=z
    refine pa [.f (exA (.mk zk zn zt zs zm)) (fun σ => psB v l u e b d (n + 1) :: σ.tail)] rfl ?_ ?_
    ·(repeat' with_reducible apply AllP_cons) <;> try exact aC
     exact PE.ok hC hx
    refine S_ret ⟨_,_,rfl,⟨rfl,trivial⟩,?_⟩
    show TR 2 _ (.ret (exA (.mk zk zn zt zs zm))) (psI v l ((l.length - u.length : Nat) : Int) e b d (IntKind.i64.wrap (((n + 1 : Nat) : Int) - 1)) :: (yv,some (.cells yc yg)) :: _)
    rw [hw1]
    exact PE.fin2 hy0 hX (exA_free _)
theorem IndexFuncB_ok {st fl : Bool} {σ : Heap} (F : FuncId) (a : AV) (P : List UInt8 → Bool) (l : List (List UInt8)) (hl : l.length ≤ 1000000) (hF : ∀ x,CallOk cx F [a,.str x] σ (fun e s => e = .ret (.bool (P x)) ∧ s = σ)) :
  CallOk cx 117 [.sl st fl 1 (texts l),.func (.func F) [a] []] σ (fun e s => e = .ret (.int .i64 (firstF l P)) ∧ s = σ) :=
 callOk_intro (fun a w => Tryz.call117 a w) Tryz.func117 rfl Tryz.ntmps117 rfl fun B => by
  have htl:=texts_len l
  refine pB [] rfl ?_
  refine S_while (α:=Nat) (fun i => [(0,.sl st fl 1 (texts l)),(1,.func (.func F) [a] []),(7,.int .i64 (l.length : Nat)),(8,.int .i64 (i : Nat))]) (fun _ => σ) (fun i => i ≤ l.length ∧ ∀ x ∈ l.take i,P x = false) (fun i => l.length - i) 0
   ⟨Nat.zero_le _,by simp⟩ (.cons rfl (.cons rfl (.cons (by show AV.int .i64 ((texts l).length : Nat) = _; rw [htl]) (.cons rfl (.nil _))))) rfl ?_
  rintro i ⟨hi,hN⟩
  have hi : i ≤ l.length:=hi
  by_cases hlt : i < l.length
  ·have e1 : (texts l)[(i : Int).toNat]? = some (.str l[i]):=texts_get hlt
   cases hp : P l[i] with
   | true =>
    refine pa [.b true,.v (.str l[i]),.k (.bool true),.b true] rfl ?_ ?_
    ·(repeat' with_reducible apply AllP_cons) <;> try exact aC
     have:=hF l[i]; rw [hp] at this; exact this
    refine S_ret ⟨_,_,rfl,trivial,?_,rfl⟩
    have : l.findIdx? P = some i:=List.findIdx?_eq_some_iff_getElem.2 ⟨hlt,hp,fun j hj => by
     rw [hN _ (List.mem_take_iff_getElem.2 ⟨j,by omega,rfl⟩)]; decide⟩
    rw [firstF,this]; rfl
   | false =>
    refine pa [.b true,.v (.str l[i]),.k (.bool false),.b false] rfl ?_ ?_
    ·(repeat' with_reducible apply AllP_cons) <;> try exact aC
     have:=hF l[i]; rw [hp] at this; exact this
    refine S_round (i + 1) (by show l.length - (i + 1) < l.length - i; omega) ⟨hlt,fun x hm => ?_⟩ (.cons rfl (.cons rfl (.cons rfl (.cons (ai64 rfl (by omega)) (.nil _))))) rfl
    rw [List.take_succ_eq_append_getElem hlt] at hm
    rcases List.mem_append.1 hm with hm | hm
    ·exact hN x hm
    ·simp at hm; rw [hm]; exact hp
  ·obtain rfl : i = l.length:=by omega
   rw [List.take_length] at hN
   refine pB [.b false] rfl ?_
   refine S_ret ⟨_,_,rfl,trivial,?_,rfl⟩
   have : l.findIdx? P = none:=List.findIdx?_eq_none_iff.2 (fun x hx => by rw [hN x hx])
   rw [firstF,this]; rfl
theorem firstF_is {l : List (List UInt8)} {r : List Tok} : (isOf l r = false ∧ firstF l (fun s => isS s r) = -1) ∨ ∃ (i : Nat) (h : i < l.length),isOf l r = true ∧ firstF l (fun s => isS s r) = (i : Nat) ∧ l[i] = hdT r:=by
 cases hf : l.findIdx? (fun s => isS s r) with
 | none =>
  left
  refine ⟨?_,by rw [firstF,hf]⟩
  rw [List.findIdx?_eq_none_iff] at hf
  unfold isOf
  cases hk : (hdK r == 4 || hdK r == 5) with
  | false => rfl
  | true =>
   cases hc : l.contains (hdT r) with
   | false => rfl
   | true =>
    have:=hf _ (by simpa using hc)
    simp [isS,hk] at this
 | some i =>
  right
  obtain ⟨h1,h2,h3⟩:=List.findIdx?_eq_some_iff_getElem.1 hf
  refine ⟨i,h1,?_,by rw [firstF,hf],?_⟩
  ·simp only [isS,Bool.and_eq_true,beq_iff_eq] at h2
   unfold isOf
   rw [h2.1,h2.2]
   simp
  ·simp only [isS,Bool.and_eq_true,beq_iff_eq] at h2
   exact h2.2.symm
end
def Sx {α : Type} (r : List Tok) (x : Pr α) : Prop:=∀ y u,x = .ok y u → u <:+ r
theorem Sx.out {α : Type} {r : List Tok} : Sx r (.out : Pr α):=nofun
theorem Sx.bad {α : Type} {e : Nat} {r u : List Tok} : Sx r (.bad e u : Pr α):=nofun
theorem Sx.ok {α : Type} {r u : List Tok} {x : α} (h : u <:+ r) : Sx r (.ok x u):=by intro _ _ h'; cases h'; exact h
theorem Sx.bind {α β : Type} {r u : List Tok} {x : Pr α} {f : α → List Tok → Pr β} (h : Sx u x) (hu : u <:+ r) (hf : ∀ y r',Sx r' (f y r')) : Sx r (x.bind f):=by
 cases x with
 | out => exact .out
 | bad e v => exact .bad
 | ok y v => exact fun z w hz => (hf y v z w hz).trans ((h y v rfl).trans hu)
theorem Sx.ite {α : Type} {r : List Tok} {x y : Pr α} {c : Prop} [Decidable c] (h : Sx r x) (h' : Sx r y) : Sx r (if c then x else y):=by
 split
 ·exact h
 ·exact h'
theorem Sx.mono {α : Type} {r u : List Tok} {x : Pr α} (h : Sx u x) (hu : u <:+ r) : Sx r x:=fun y v e => (h y v e).trans hu
theorem suf_tl (r : List Tok) : r.tail <:+ r:=List.tail_suffix r
theorem suf_tl2 (r : List Tok) : r.tail.tail <:+ r:=(List.tail_suffix _).trans (List.tail_suffix r)
theorem mustS_s (s : List UInt8) (r : List Tok) : Sx r (mustS s r):=.ite (.ok (suf_tl r)) .bad
theorem takeS_s (k : Nat) (r : List Tok) : Sx r (takeS k r):=by
 unfold takeS
 split
 ·exact .bad
 ·exact .ite (.ok (List.suffix_cons _ _)) .bad
structure AllS (F : Nat) : Prop where
 expr : ∀ n r,Sx r (exprS F n r)
 lev : ∀ k n r,Sx r (levS F k n r)
 loop : ∀ k n x r,Sx r (loopS F k n x r)
 post : ∀ n x r,Sx r (postS F n x r)
 call : ∀ n ks ns r,Sx r (callS F n ks ns r)
 atom : ∀ n r,Sx r (atomS F n r)
 list : ∀ n r,Sx r (listS F n r)
 item : ∀ n ks r,Sx r (itemS F n ks r)
 dict : ∀ n ks r,Sx r (dictS F n ks r)
theorem allS (F : Nat) : AllS F:=by
 induction F with
 | zero => exact ⟨fun _ _ => .out,fun _ _ _ => .out,fun _ _ _ _ => .out,fun _ _ _ => .out,fun _ _ _ _ => .out,fun _ _ => .out,fun _ _ => .out,fun _ _ _ => .out,fun _ _ _ => .out⟩
 | succ F ih =>
  have bin : ∀ {k n : Nat} {r : List Tok},Sx r ((levS F (k + 1) n r).bind fun x r => loopS F k n x r):=fun {k n r} => (ih.lev (k + 1) n r).bind (List.suffix_refl _) fun y u => ih.loop k n y u
  refine ⟨?_,?_,?_,?_,?_,?_,?_,?_,?_⟩
  ·intro n r
   rw [exprS]
   exact .ite .bad (ih.lev 0 _ r)
  ·intro k n r
   unfold levS
   split
   ·exact .ite (.ite .bad ((ih.lev 2 _ r.tail).bind (suf_tl r) fun y u => .ok (List.suffix_refl _)))
     ((ih.lev 3 n r).bind (List.suffix_refl _) fun y u => .ite ((ih.lev 3 n u.tail).bind (suf_tl u) fun z v => .ok (List.suffix_refl _)) (.ok (List.suffix_refl _)))
   ·exact .ite (.ite .bad ((ih.lev 5 _ r.tail).bind (suf_tl r) fun y u => .ok (List.suffix_refl _)))
     ((ih.atom n r).bind (List.suffix_refl _) fun y u => ih.post n y u)
   ·exact bin
  ·intro k n x r
   rw [loopS]
   exact .ite ((ih.lev (k + 1) n r.tail).bind (suf_tl r) fun y u => ih.loop k n _ u) (.ok (List.suffix_refl _))
  ·intro n x r
   rw [postS]
   exact .ite ((ih.call n _ _ r.tail).bind (suf_tl r) fun y u => ih.post n _ u)
    (.ite ((ih.expr n r.tail).bind (suf_tl r) fun y u => (mustS_s _ u).bind (List.suffix_refl _) fun _ v => ih.post n _ v) (.ok (List.suffix_refl _)))
  ·intro n ks ns r
   rw [callS]
   have hm : Sx r (if ks.length > 1 then mustS [44] r else .ok () r):=.ite (mustS_s _ r) (.ok (List.suffix_refl _))
   exact .ite (.ok (suf_tl r)) (hm.bind (List.suffix_refl _) fun _ u => .ite (.ite .bad ((ih.expr n u.tail.tail).bind (suf_tl2 u) fun y v => ih.call n _ _ v)) (.ite .bad ((ih.expr n u).bind (List.suffix_refl _) fun y v => ih.call n _ _ v)))
  ·intro n r
   cases r with
   | nil => exact .bad
   | cons t u =>
    have hu : u <:+ t :: u:=List.suffix_cons t u
    exact .ite (.ok hu) (.ite (.ok hu) (.ite (.ok hu) (.ite (.ok hu) (.ite (.ok hu) (.ite (.ok hu) (.ite ((ih.expr n u).bind hu fun y v => (mustS_s _ v).bind (List.suffix_refl _) fun _ w => .ok (List.suffix_refl _))
     (.ite ((ih.list n u).mono hu) (.ite ((ih.dict n _ u).mono hu) .bad))))))))
  ·intro n r
   rw [listS]
   exact .ite (.ok (suf_tl r)) ((ih.expr n r).bind (List.suffix_refl _) fun y u => .ite ((takeS_s _ _).bind (suf_tl u) fun t v => (mustS_s _ v).bind (List.suffix_refl _) fun _ w => (ih.expr n w).bind (List.suffix_refl _) fun z x =>
    .ite ((ih.expr n x.tail).bind (suf_tl x) fun q p => (mustS_s _ p).bind (List.suffix_refl _) fun _ o => .ok (List.suffix_refl _)) ((mustS_s _ x).bind (List.suffix_refl _) fun _ o => .ok (List.suffix_refl _))) (ih.item n _ u))
  ·intro n ks r
   rw [itemS]
   exact .ite (.ok (suf_tl r)) ((mustS_s _ r).bind (List.suffix_refl _) fun _ u => (ih.expr n u).bind (List.suffix_refl _) fun y v => ih.item n _ v)
  ·intro n ks r
   rw [dictS]
   have hm : Sx r (if ks.length > 0 then mustS [44] r else .ok () r):=.ite (mustS_s _ r) (.ok (List.suffix_refl _))
   exact .ite (.ok (suf_tl r)) (hm.bind (List.suffix_refl _) fun _ u => (ih.expr n u).bind (List.suffix_refl _) fun y v => (mustS_s _ v).bind (List.suffix_refl _) fun _ w => (ih.expr n w).bind (List.suffix_refl _) fun z x => ih.dict n _ x)
theorem paramS_s (F : Nat) : ∀ ns r,Sx r (paramS F ns r):=by
 induction F with
 | zero => intro _ _; exact .out
 | succ F ih =>
  intro ns r
  rw [paramS]
  exact .ite .bad ((takeS_s 1 r).bind (List.suffix_refl _) fun t u => .ite ((ih _ u.tail).mono (suf_tl u)) (.ok (List.suffix_refl _)))
theorem namesS_s (F : Nat) : ∀ ns r,Sx r (namesS F ns r):=by
 induction F with
 | zero => intro _ _; exact .out
 | succ F ih =>
  intro ns r
  rw [namesS]
  exact .ite .bad ((takeS_s 3 r).bind (List.suffix_refl _) fun t u => .ite ((ih _ u.tail).mono (suf_tl u)) (.ok (List.suffix_refl _)))
theorem loadS_s (F b : Nat) (r : List Tok) : Sx r (loadS F b r):=by
 unfold loadS
 exact .ite .bad ((mustS_s _ _).bind (suf_tl r) fun _ u => (takeS_s _ _).bind (List.suffix_refl _) fun t v => (mustS_s _ _).bind (List.suffix_refl _) fun _ w => (namesS_s F _ w).bind (List.suffix_refl _) fun ns x => (mustS_s _ _).bind (List.suffix_refl _) fun _ y => .ok (List.suffix_refl _))
theorem smallS_s (F b d : Nat) (r : List Tok) : Sx r (smallS F b d r):=by
 unfold smallS
 exact .ite (.ok (suf_tl r)) (.ite (.ite .bad (.ite (((allS F).expr 0 r.tail).bind (suf_tl r) fun x u => .ok (List.suffix_refl _)) (.ok (suf_tl r)))) (.ite (loadS_s F b r) (.ite (((allS F).expr 0 _).bind (suf_tl2 r) fun x u => .ok (List.suffix_refl _)) (((allS F).expr 0 r).bind (List.suffix_refl _) fun x u => .ok (List.suffix_refl _)))))
structure AllW (F : Nat) : Prop where
 stmts : ∀ top b d l r,Sx r (stmtsS F top b d l r)
 block : ∀ b d r,Sx r (blockS F b d r)
 stmt : ∀ b d r,Sx r (stmtS F b d r)
theorem allW (F : Nat) : AllW F:=by
 induction F with
 | zero => exact ⟨fun _ _ _ _ _ => .out,fun _ _ _ => .out,fun _ _ _ => .out⟩
 | succ F ih =>
  refine ⟨?_,?_,?_⟩
  ·intro top b d l r
   rw [stmtsS]
   exact .ite (.ok (List.suffix_refl _)) ((ih.stmt b d r).bind (List.suffix_refl _) fun s u => ih.stmts top b d _ u)
  ·intro b d r
   rw [blockS]
   exact (mustS_s _ _).bind (List.suffix_refl _) fun _ u => (takeS_s _ _).bind (List.suffix_refl _) fun _ v => (takeS_s _ _).bind (List.suffix_refl _) fun _ w => (ih.stmts false _ _ _ w).bind (List.suffix_refl _) fun l x => (takeS_s _ _).bind (List.suffix_refl _) fun _ y => .ok (List.suffix_refl _)
  ·intro b d r
   rw [stmtS]
   refine .ite (.ite .bad ((takeS_s _ _).bind (suf_tl r) fun t u => (mustS_s _ _).bind (List.suffix_refl _) fun _ v => ?_)) (.ite ?_ (.ite ?_ ?_))
   ·have hm : Sx v (if hdK v = 1 then paramS F [] v else .ok [] v):=.ite (paramS_s F _ v) (.ok (List.suffix_refl _))
    exact hm.bind (List.suffix_refl _) fun ns w => (mustS_s _ _).bind (List.suffix_refl _) fun _ x => (ih.block _ _ x).bind (List.suffix_refl _) fun l y => .ok (List.suffix_refl _)
   ·exact ((allS F).expr 0 _).bind (suf_tl r) fun x u => (ih.block _ _ u).bind (List.suffix_refl _) fun l v => .ite ((ih.block _ _ v.tail).bind (suf_tl v) fun m w => .ok (List.suffix_refl _)) (.ok (List.suffix_refl _))
   ·exact (takeS_s _ _).bind (suf_tl r) fun t u => (mustS_s _ _).bind (List.suffix_refl _) fun _ v => ((allS F).expr 0 v).bind (List.suffix_refl _) fun x w => (ih.block _ _ w).bind (List.suffix_refl _) fun l y => .ok (List.suffix_refl _)
   ·exact (smallS_s F b d r).bind (List.suffix_refl _) fun s u => (takeS_s _ _).bind (List.suffix_refl _) fun _ v => .ok (List.suffix_refl _)
structure LeftSt where
 F : Nat
 x : Ex
 r : List Tok
def exC (x : Ex) : List AV:=(exA x).cells
def exB (x : Ex) : Nat × Option Box:=match x with
 | .mk k n t ks ns => (0,some (.cells [.int .i64 (k : Nat),.int .i64 (n : Nat),.str t,.sl true false 5 (exL ks),.sl true false 1 (texts ns)] ⟨false,some 54⟩))
theorem left_ok (F kk : Nat) (sg : List (List UInt8)) (hsg : sg = binS kk) (g : FuncId) (fs cs : List AV) (v : Nat) (l : List Tok) (e b d n : Nat) (y : Nat × Option Box) (hy : Yok y) (hl : l.length ≤ 100000) (st fl : Bool)
  (hC : ∀ F',F' ≤ F → ∀ r,r <:+ l → levS F' (kk + 1) n r ≠ .out → Of g (fs ++ [] ++ cs) v l e b d n y r (levS F' (kk + 1) n r)) (r : List Tok) (hr : r <:+ l)
  (hne : ((levS F (kk + 1) n r).bind fun x r => loopS F kk n x r) ≠ .out) :
  CallOk cx 86 [.ptr 0 v 0,.func (.func g) fs cs,.sl st fl 1 (texts sg)] [psB v l r e b d n,y] (PE exA v l e b d n ((levS F (kk + 1) n r).bind fun x r => loopS F kk n x r) [y]):=by
 have hy0:=hy
 obtain ⟨yv,yc,yg,rfl,_⟩:=hy
 exact callOk_introT (fun a w => Tryz.call86 a w) Tryz.func86 rfl Tryz.ntmps86 rfl fun B => by
  obtain ⟨X,hX⟩ : ∃ X,X = ((levS F (kk + 1) n r).bind fun x r => loopS F kk n x r):=⟨_,rfl⟩
  rw [← hX] at hne ⊢
  cases hx : levS F (kk + 1) n r with
  | out => rw [hx] at hX; exact absurd hX hne
  | bad j u =>
   rw [hx] at hX
   refine pB [] rfl ?_
   exact S_callE2 hy0 rfl rfl rfl (hC F (Nat.le_refl _) r hr (by rw [hx]; nofun) [exO]) hx hX
  | ok z u =>
   have h1:=PE.ok (hC F (Nat.le_refl _) r hr (by rw [hx]; nofun) [exO]) hx
   rw [hx] at hX
   have hX : X = loopS F kk n z u:=hX
   have hu:=((allS F).lev _ _ _ _ _ hx).trans hr
   obtain ⟨zk,zn,zt,zs,zm⟩:=z
   refine pB [.f (exA (.mk zk zn zt zs zm)) (fun σ => psB v l u e b d n :: σ.tail)] rfl ?_
   refine S_while (α:=LeftSt) (fun q => [(0,.ptr 0 v 0),(1,.func (.func g) fs cs),(2,.sl st fl 1 (texts sg)),(6,.ptr 2 0 0),(7,.ptr 3 0 0)]) (fun q => psB v l q.r e b d n :: (yv,some (.cells yc yg)) :: [exO,exB q.x])
    (fun q => q.F ≤ F ∧ q.r <:+ l ∧ loopS q.F kk n q.x q.r = X) (fun q => q.F) ⟨F,.mk zk zn zt zs zm,u⟩ ⟨Nat.le_refl _,hu,hX.symm⟩ (.cons rfl (.cons rfl (.cons rfl (.cons rfl (.cons rfl (.nil _)))))) rfl ?_
   rintro ⟨F1,⟨xk,xn,xt,xs,xm⟩,r1⟩ ⟨hF,hr1,hq⟩
   have hF : F1 ≤ F:=hF
   have hr1 : r1 <:+ l:=hr1
   have hq : loopS F1 kk n (.mk xk xn xt xs xm) r1 = X:=hq
   show S cx _ B _ _ [(0,.ptr 0 v 0),(1,.func (.func g) fs cs),(2,.sl st fl 1 (texts sg)),(6,.ptr 2 0 0),(7,.ptr 3 0 0)] (psB v l r1 e b d n :: (yv,some (.cells yc yg)) :: [exO,exB (.mk xk xn xt xs xm)])
   cases F1 with
   | zero => exact absurd hq.symm hne
   | succ F1 =>
    rw [loopS] at hq
    have hsl : sg.length ≤ 1000000:=by
     rw [hsg]; unfold binS; split <;> decide
    have hI:=IndexFuncB_ok (st:=st) (fl:=fl) (σ:=psB v l r1 e b d n :: (yv,some (.cells yc yg)) :: [exO,exB (.mk xk xn xt xs xm)]) 50 (.ptr 0 v 0) (fun s => isS s r1) sg hsl (fun s => isT v l r1 e b d n s _ hr1 hl)
    rcases firstF_is (l:=sg) (r:=r1) with ⟨h1,h2⟩ | ⟨i,hi,h1,h2,h3⟩
    ·rw [h2] at hI
     rw [if_neg (by rw [← hsg,h1]; decide)] at hq
     refine pB [.k (.int .i64 (-1)),.b true] rfl ?_
     refine S_ret ⟨_,_,rfl,⟨rfl,trivial⟩,?_⟩
     exact PE.fin2 hy0 hq.symm (exA_free _)
    ·rw [h2] at hI
     rw [if_pos (by rw [← hsg,h1])] at hq
     have hof : ∃ t w,r1 = t :: w:=by
      cases r1 with
      | nil => simp [isOf,hdK] at h1
      | cons t w => exact ⟨t,w,rfl⟩
     obtain ⟨t,w,rfl⟩:=hof
     have hw:=suf_next hr1 hl
     have hr2:=suf_tail hr1
     have hel : (texts sg)[(i : Int).toNat]? = some (.str sg[i]):=texts_get hi
     refine pB [.k (.int .i64 (i : Nat)),.b false] rfl ?_
     refine S_heap (psB v l w e b d n :: (yv,some (.cells yc yg)) :: [exO,exB (.mk xk xn xt xs xm)]) ?_ ?_
     ·show psI v l (IntKind.i64.wrap (((l.length - (t :: w).length : Nat) : Int) + 1)) e b d n :: _ = _
      rw [hw]; rfl
     cases hz : levS F1 (kk + 1) n w with
     | out => rw [List.tail_cons,hz] at hq; exact absurd hq.symm hne
     | bad j u2 =>
      rw [List.tail_cons,hz] at hq
      refine S_drawE2 6 [] [.str sg[i]] hy0 rfl rfl rfl rfl rfl rfl ?_ (hC F1 (by omega) w hr2 (by rw [hz]; nofun) _) hz hq.symm
      (repeat' with_reducible apply AllP_cons) <;> try exact aC
     | ok z u2 =>
      rw [List.tail_cons,hz] at hq
      have hC1:=PE.ok (hC F1 (by omega) w hr2 (by rw [hz]; nofun) [exO,exB (.mk xk xn xt xs xm)]) hz
      have hu2:=((allS F1).lev _ _ _ _ _ hz).trans hr2
      obtain ⟨ak,an,at',as',am⟩:=z
      refine pa [.d 6 9 [] (fun σ => psB v l u2 e b d n :: σ.tail) [.str sg[i],exA (.mk ak an at' as' am)],.s] rfl ?_ ?_
      ·(repeat' with_reducible apply AllP_cons) <;> try exact aC
       exact ⟨_,hC1,rfl⟩
      refine S_wkF 33 (exC (binE sg[i] (.mk xk xn xt xs xm) (.mk ak an at' as' am))) rfl (.cons .refl (.cons .refl (.cons .refl (.cons (.sl (fun _ => rfl) nofun) (.cons .nils .nil))))) ⟨.skip,_,.inr ⟨_,_,_,rfl⟩⟩ ?_
      refine pB [] rfl ?_
      refine S_round ⟨F1,binE sg[i] (.mk xk xn xt xs xm) (.mk ak an at' as' am),u2⟩ (Nat.lt_succ_self _) ⟨by show F1 ≤ F; omega,hu2,?_⟩ (.cons rfl (.cons rfl (.cons rfl (.cons rfl (.cons rfl (.nil _)))))) rfl
      show loopS F1 kk n (binE sg[i] _ _) u2 = X
      rw [h3]; exact hq
def Cn (f : FuncId) (x : Nat → Nat → List Tok → Pr Ex) (F : Nat) : Prop:=∀ (v : Nat) (l : List Tok) (e b d n : Nat) (r : List Tok),r <:+ l → l.length ≤ 100000 → n ≤ 30 → x F n r ≠ .out →
 CallOk cx f [.ptr 0 v 0] (psH v l r e b d n) (PE exA v l e b d n (x F n r) [])
def qB (q v : Nat) : Nat × Option Box:=(q,some (.cells [.ptr 0 v 0] ⟨false,none⟩))
theorem qB_ok (q v : Nat) : Yok (qB q v):=⟨q,_,_,rfl,fun x hx => by
 simp only [List.mem_cons,List.not_mem_nil,or_false] at hx
 subst hx
 exact ⟨.ptr rfl,.ptr (by decide)⟩⟩
theorem exO_ok : Yok exO:=⟨_,_,_,rfl,fun x hx => by
 simp only [List.mem_cons,List.not_mem_nil,or_false] at hx
 rcases hx with rfl | rfl | rfl | rfl | rfl
 ·exact ⟨.free .int,.int⟩
 ·exact ⟨.free .int,.int⟩
 ·exact ⟨.free .str,.str⟩
 ·exact ⟨.free .nils,.nils⟩
 ·exact ⟨.free .nils,.nils⟩⟩
def Ccl (g : FuncId) (x : Nat → Nat → List Tok → Pr Ex) (F : Nat) : Prop:=∀ (q v : Nat) (l : List Tok) (e b d n : Nat) (r : List Tok),r <:+ l → l.length ≤ 100000 → n ≤ 30 → x F n r ≠ .out →
 CallOk cx g [.ptr 1 q 0] [psB v l r e b d n,qB q v] (PE exA v l e b d n (x F n r) [qB q v])
theorem Cn.tail {f : FuncId} {x : Nat → Nat → List Tok → Pr Ex} {F : Nat} (h : Cn f x F) (v : Nat) (l : List Tok) (e b d n : Nat) (r : List Tok) (τ : Heap) (hr : r <:+ l) (hl : l.length ≤ 100000) (hn : n ≤ 30) (hne : x F n r ≠ .out) :
  CallOk cx f [.ptr 0 v 0] (psB v l r e b d n :: τ) (PE exA v l e b d n (x F n r) τ) :=
 PE.tail τ (h v l e b d n r hr hl hn hne) hne (arg0_rn v [] (by simp)) exA_free
theorem Cn.of {f : FuncId} {x : Nat → Nat → List Tok → Pr Ex} {F : Nat} (h : Cn f x F) (v : Nat) (l : List Tok) (e b d n : Nat) (r : List Tok) (y : Nat × Option Box) (hr : r <:+ l) (hl : l.length ≤ 100000) (hn : n ≤ 30) (hne : x F n r ≠ .out) :
  Of f ([.ptr 0 v 0] ++ [] ++ []) v l e b d n y r (x F n r):=fun τ => h.tail v l e b d n r (y :: τ) hr hl hn hne
theorem Ccl.of {g : FuncId} {x : Nat → Nat → List Tok → Pr Ex} {F : Nat} (h : Ccl g x F) (q v : Nat) (l : List Tok) (e b d n : Nat) (r : List Tok) (hr : r <:+ l) (hl : l.length ≤ 100000) (hn : n ≤ 30) (hne : x F n r ≠ .out) :
  Of g ([] ++ [] ++ [.ptr 1 q 0]) v l e b d n (qB q v) r (x F n r):=fun τ => PE.tail2 τ (qB_ok q v) (h q v l e b d n r hr hl hn hne) hne (.cons (.ptr rfl) (.nil _)) exA_free
theorem clos_rn (v q : Nat) (g : FuncId) : Rns (List.range 2) [.ptr 0 v 0,.func (.func g) [] [.ptr 1 q 0]] [.ptr 0 v 0,.func (.func g) [] [.ptr 1 q 0]] :=
 .cons (.ptr rfl) (.cons (.func rfl (fun i h => by simp at h) rfl (fun i h _ => by
  have : i = 0:=by simp at h; omega
  subst this; exact .ptr rfl)) (.nil _))
theorem expr_ok (F : Nat) (h0 : Ccl 85 (fun F => levS F 0) F) : Cn 53 exprS (F + 1):=fun v l e b d n r hr hl hn hne =>
 callOk_introT (fun a w => Tryz.call53 a w) Tryz.func53 rfl Tryz.ntmps53 rfl fun B => by
  have hW : CallOk cx 84 [.ptr 0 v 0,.func (.func 85) [] [.ptr 1 0 0]] (psB v l r e b d n :: qB 0 v :: [exO]) (PE exA v l e b d n (exprS (F + 1) n r) (qB 0 v :: [exO])) :=
   PE.tail2 [exO] (qB_ok 0 v) (within_ok _ _ _ v l r e b d n _ (qB_ok 0 v) (levS F 0 (n + 1) r) hn
    (fun h => h0.of 0 v l e b d (n + 1) r hr hl (by omega) (by intro h'; exact hne (by rw [exprS,if_neg h]; exact h'))) hr hl (fun h h' => hne (by rw [exprS,if_neg h]; exact h')) (fun z u h => ((allS F).lev _ _ _ _ _ h).trans hr)) hne (clos_rn v 0 _) exA_free
  cases hx : exprS (F + 1) n r with
  | out => exact absurd hx hne
  | bad j u =>
   refine pB [] rfl ?_
   exact S_callE rfl rfl rfl hW hx rfl
  | ok z u =>
   obtain ⟨zk,zn,zt,zs,zm⟩:=z
   refine pa [.f (exA (.mk zk zn zt zs zm)) (fun σ => psB v l u e b d n :: σ.tail)] rfl ?_ ?_
   ·(repeat' with_reducible apply AllP_cons) <;> try exact aC
    exact PE.ok hW hx
   refine S_ret ⟨_,_,rfl,⟨rfl,trivial⟩,?_⟩
   exact PE.fin rfl (exA_free _)
theorem sgs_rn (st fl : Bool) (sg : List (List UInt8)) : Free false (.sl st fl 1 (texts sg)):=.sl (fun h => by cases h) (textsF sg)
theorem closL_rn (v q : Nat) (g : FuncId) (st fl : Bool) (sg : List (List UInt8)) : Rns (List.range 2) [.ptr 0 v 0,.func (.func g) [] [.ptr 1 q 0],.sl st fl 1 (texts sg)] [.ptr 0 v 0,.func (.func g) [] [.ptr 1 q 0],.sl st fl 1 (texts sg)] :=
 .cons (.ptr rfl) (.cons (.func rfl (fun i h => by simp at h) rfl (fun i h _ => by
  have : i = 0:=by simp at h; omega
  subst this; exact .ptr rfl)) (.cons (.free (sgs_rn ..)) (.nil _)))
theorem boundL_rn (v : Nat) (g : FuncId) (st fl : Bool) (sg : List (List UInt8)) : Rns (List.range 2) [.ptr 0 v 0,.func (.func g) [.ptr 0 v 0] [],.sl st fl 1 (texts sg)] [.ptr 0 v 0,.func (.func g) [.ptr 0 v 0] [],.sl st fl 1 (texts sg)] :=
 .cons (.ptr rfl) (.cons (.func rfl (fun i h _ => by
  have : i = 0:=by simp at h; omega
  subst this; exact .ptr rfl) rfl (fun i h => by simp at h)) (.cons (.free (sgs_rn ..)) (.nil _)))
theorem expr1_ok (F : Nat) (h : ∀ F',F' ≤ F → Ccl 87 (fun F => levS F 1) F') : Ccl 85 (fun F => levS F 0) (F + 1):=fun q v l e b d n r hr hl hn hne =>
 callOk_introT (fun a w => Tryz.call85 a w) Tryz.func85 rfl Tryz.ntmps85 rfl fun B => by
  have hs : levS (F + 1) 0 n r = (levS F 1 n r).bind fun x r => loopS F 0 n x r:=levS_b (by decide)
  have hne : levS (F + 1) 0 n r ≠ .out:=hne
  have hL : ∀ st fl,CallOk cx 86 [.ptr 0 v 0,.func (.func 87) [] [.ptr 1 q 0],.sl st fl 1 (texts (binS 0))] (psB v l r e b d n :: qB q v :: [exO]) (PE exA v l e b d n (levS (F + 1) 0 n r) (qB q v :: [exO])):=fun st fl => by
   rw [hs] at hne ⊢
   exact PE.tail2 [exO] (qB_ok q v) (left_ok F 0 (binS 0) rfl _ _ _ v l e b d n _ (qB_ok q v) hl st fl (fun F' h' r hr hne => (h F' h').of q v l e b d n r hr hl hn hne) r hr hne) hne (closL_rn v q _ _ _ _) exA_free
  cases hx : levS (F + 1) 0 n r with
  | out => exact absurd hx hne
  | bad j u =>
   refine pB [] rfl ?_
   exact S_callE2 (qB_ok q v) rfl rfl rfl (hL _ _) hx hx
  | ok z u =>
   obtain ⟨zk,zn,zt,zs,zm⟩:=z
   refine pa [.f (exA (.mk zk zn zt zs zm)) (fun σ => psB v l u e b d n :: σ.tail)] rfl ?_ ?_
   ·(repeat' with_reducible apply AllP_cons) <;> try exact aC
    exact PE.ok (hL _ _) hx
   refine S_ret ⟨_,_,rfl,⟨rfl,trivial⟩,?_⟩
   exact PE.fin2 (qB_ok q v) hx (exA_free _)
theorem expr11_ok (F : Nat) (h : ∀ F',F' ≤ F → Cn 88 (fun F => levS F 2) F') : Ccl 87 (fun F => levS F 1) (F + 1):=fun q v l e b d n r hr hl hn hne =>
 callOk_introT (fun a w => Tryz.call87 a w) Tryz.func87 rfl Tryz.ntmps87 rfl fun B => by
  have hs : levS (F + 1) 1 n r = (levS F 2 n r).bind fun x r => loopS F 1 n x r:=levS_b (by decide)
  have hne : levS (F + 1) 1 n r ≠ .out:=hne
  have hL : ∀ st fl,CallOk cx 86 [.ptr 0 v 0,.func (.func 88) [.ptr 0 v 0] [],.sl st fl 1 (texts (binS 1))] (psB v l r e b d n :: qB q v :: [exO]) (PE exA v l e b d n (levS (F + 1) 1 n r) (qB q v :: [exO])):=fun st fl => by
   rw [hs] at hne ⊢
   exact PE.tail2 [exO] (qB_ok q v) (left_ok F 1 (binS 1) rfl _ _ _ v l e b d n _ (qB_ok q v) hl st fl (fun F' h' r hr hne => (h F' h').of v l e b d n r _ hr hl hn hne) r hr hne) hne (boundL_rn v _ _ _ _) exA_free
  cases hx : levS (F + 1) 1 n r with
  | out => exact absurd hx hne
  | bad j u =>
   refine pB [] rfl ?_
   exact S_callE2 (qB_ok q v) rfl rfl rfl (hL _ _) hx hx
  | ok z u =>
   obtain ⟨zk,zn,zt,zs,zm⟩:=z
   refine pa [.f (exA (.mk zk zn zt zs zm)) (fun σ => psB v l u e b d n :: σ.tail)] rfl ?_ ?_
   ·(repeat' with_reducible apply AllP_cons) <;> try exact aC
    exact PE.ok (hL _ _) hx
   refine S_ret ⟨_,_,rfl,⟨rfl,trivial⟩,?_⟩
   exact PE.fin2 (qB_ok q v) hx (exA_free _)
theorem sum1_ok (F : Nat) (h : ∀ F',F' ≤ F → Cn 127 (fun F => levS F 5) F') : Ccl 126 (fun F => levS F 4) (F + 1):=fun q v l e b d n r hr hl hn hne =>
 callOk_introT (fun a w => Tryz.call126 a w) Tryz.func126 rfl Tryz.ntmps126 rfl fun B => by
  have hs : levS (F + 1) 4 n r = (levS F 5 n r).bind fun x r => loopS F 4 n x r:=levS_b (by decide)
  have hne : levS (F + 1) 4 n r ≠ .out:=hne
  have hL : ∀ st fl,CallOk cx 86 [.ptr 0 v 0,.func (.func 127) [.ptr 0 v 0] [],.sl st fl 1 (texts (binS 4))] (psB v l r e b d n :: qB q v :: [exO]) (PE exA v l e b d n (levS (F + 1) 4 n r) (qB q v :: [exO])):=fun st fl => by
   rw [hs] at hne ⊢
   exact PE.tail2 [exO] (qB_ok q v) (left_ok F 4 (binS 4) rfl _ _ _ v l e b d n _ (qB_ok q v) hl st fl (fun F' h' r hr hne => (h F' h').of v l e b d n r _ hr hl hn hne) r hr hne) hne (boundL_rn v _ _ _ _) exA_free
  cases hx : levS (F + 1) 4 n r with
  | out => exact absurd hx hne
  | bad j u =>
   refine pB [] rfl ?_
   exact S_callE2 (qB_ok q v) rfl rfl rfl (hL _ _) hx hx
  | ok z u =>
   obtain ⟨zk,zn,zt,zs,zm⟩:=z
   refine pa [.f (exA (.mk zk zn zt zs zm)) (fun σ => psB v l u e b d n :: σ.tail)] rfl ?_ ?_
   ·(repeat' with_reducible apply AllP_cons) <;> try exact aC
    exact PE.ok (hL _ _) hx
   refine S_ret ⟨_,_,rfl,⟨rfl,trivial⟩,?_⟩
   exact PE.fin2 (qB_ok q v) hx (exA_free _)
theorem sum_ok (F : Nat) (h : ∀ F',F' ≤ F → Ccl 126 (fun F => levS F 4) F') : Cn 118 (fun F => levS F 3) (F + 1):=fun v l e b d n r hr hl hn hne =>
 callOk_introT (fun a w => Tryz.call118 a w) Tryz.func118 rfl Tryz.ntmps118 rfl fun B => by
  have hs : levS (F + 1) 3 n r = (levS F 4 n r).bind fun x r => loopS F 3 n x r:=levS_b (by decide)
  have hne : levS (F + 1) 3 n r ≠ .out:=hne
  have hL : ∀ st fl,CallOk cx 86 [.ptr 0 v 0,.func (.func 126) [] [.ptr 1 0 0],.sl st fl 1 (texts (binS 3))] (psB v l r e b d n :: qB 0 v :: [exO]) (PE exA v l e b d n (levS (F + 1) 3 n r) (qB 0 v :: [exO])):=fun st fl => by
   rw [hs] at hne ⊢
   exact PE.tail2 [exO] (qB_ok 0 v) (left_ok F 3 (binS 3) rfl _ _ _ v l e b d n _ (qB_ok 0 v) hl st fl (fun F' h' r hr hne => (h F' h').of 0 v l e b d n r hr hl hn hne) r hr hne) hne (closL_rn v 0 _ _ _ _) exA_free
  cases hx : levS (F + 1) 3 n r with
  | out => exact absurd hx hne
  | bad j u =>
   refine pB [] rfl ?_
   exact S_callE rfl rfl rfl (hL _ _) hx hx
  | ok z u =>
   obtain ⟨zk,zn,zt,zs,zm⟩:=z
   refine pa [.f (exA (.mk zk zn zt zs zm)) (fun σ => psB v l u e b d n :: σ.tail)] rfl ?_ ?_
   ·(repeat' with_reducible apply AllP_cons) <;> try exact aC
    exact PE.ok (hL _ _) hx
   refine S_ret ⟨_,_,rfl,⟨rfl,trivial⟩,?_⟩
   exact PE.fin hx (exA_free _)
theorem isOf_of {sg : List (List UInt8)} {r : List Tok} {i : Nat} (hi : i < sg.length) (h : isS sg[i] r = true) : isOf sg r = true ∧ hdT r = sg[i]:=by
 simp only [isS,Bool.and_eq_true,beq_iff_eq] at h
 refine ⟨?_,h.2⟩
 unfold isOf
 rw [h.1,h.2]
 simp
theorem isOf_no {sg : List (List UInt8)} {r : List Tok} (h : ∀ s ∈ sg,isS s r = false) : isOf sg r = false:=by
 unfold isOf
 cases hk : (hdK r == 4 || hdK r == 5) with
 | false => rfl
 | true =>
  cases hc : sg.contains (hdT r) with
  | false => rfl
  | true =>
   have:=h _ (by simpa using hc)
   simp [isS,hk] at this
theorem not_ok (F : Nat) (h2 : Cn 88 (fun F => levS F 2) F) (h3 : Cn 118 (fun F => levS F 3) F) : Cn 88 (fun F => levS F 2) (F + 1):=fun v l e b d n r hr hl hn hne =>
 callOk_introT (fun a w => Tryz.call88 a w) Tryz.func88 rfl Tryz.ntmps88 rfl fun B => by
  obtain ⟨X,hX⟩ : ∃ X,X = levS (F + 1) 2 n r:=⟨_,rfl⟩
  have hne : X ≠ .out:=by rw [hX]; exact hne
  show S cx _ B _ (retQ cx _ (TR 1 (PE exA v l e b d n (levS (F + 1) 2 n r) []))) _ _
  rw [← hX]
  rw [levS_2] at hX
  by_cases c1 : isS wNot r = true
  ·rw [if_pos c1] at hX
   have hm:=may_yes v l r e b d n wNot [exO] hr hl c1
   have hr1:=isS_suf hr
   have hW : CallOk cx 84 [.ptr 0 v 0,.func (.func 88) [.ptr 0 v 0] []] (psB v l r.tail e b d n :: exO :: []) (PE exA v l e b d n (if n = 30 then .bad 2 r.tail else levS F 2 (n + 1) r.tail) [exO]) :=
    within_ok _ _ _ v l r.tail e b d n _ exO_ok (levS F 2 (n + 1) r.tail) hn
     (fun h => h2.of v l e b d (n + 1) r.tail _ hr1 hl (by omega) (by intro h'; have h' : levS F 2 (n + 1) r.tail = .out:=h'; rw [if_neg h,h'] at hX; exact hne hX)) hr1 hl (fun h h' => by rw [if_neg h,h'] at hX; exact hne hX) (fun z u h => ((allS F).lev _ _ _ _ _ h).trans hr1)
   cases hx : (if n = 30 then (.bad 2 r.tail : Pr Ex) else levS F 2 (n + 1) r.tail) with
   | out =>
    by_cases h : n = 30
    ·rw [if_pos h] at hx; cases hx
    ·rw [if_neg h] at hx hX; rw [hx] at hX; exact absurd hX hne
   | bad j u =>
    refine pB [.f (.bool true) (fun σ => psB v l r.tail e b d n :: σ.tail),.b true] rfl ?_
    refine S_callE rfl rfl rfl hW hx ?_
    by_cases h : n = 30
    ·rw [if_pos h] at hx hX; rw [hX,hx]
    ·rw [if_neg h] at hx hX; rw [hX,hx]; rfl
   | ok z u =>
    have hn30 : n ≠ 30:=fun h => by rw [if_pos h] at hx; cases hx
    have hW1:=PE.ok hW hx
    rw [if_neg hn30] at hx hX
    rw [hx] at hX
    obtain ⟨zk,zn,zt,zs,zm⟩:=z
    refine pB [.f (.bool true) (fun σ => psB v l r.tail e b d n :: σ.tail),.b true,.f (exA (.mk zk zn zt zs zm)) (fun σ => psB v l u e b d n :: σ.tail)] rfl ?_
    refine S_wkB 1 (exC (.mk 12 0 [] [.mk zk zn zt zs zm] [])) rfl (.cons .refl (.cons .refl (.cons .refl (.cons (.sl (fun _ => rfl) nofun) (.cons .nils .nil))))) ⟨_,_,.inl rfl⟩ ?_
    refine S_ret ⟨_,_,rfl,⟨rfl,trivial⟩,?_⟩
    exact PE.fin hX (exA_free (.mk 12 0 [] [.mk zk zn zt zs zm] []))
  ·rw [if_neg c1] at hX
   have hm:=may_no v l r e b d n wNot [exO] hr hl c1
   cases hx : levS F 3 n r with
   | out => rw [hx] at hX; exact absurd hX hne
   | bad j u =>
    have hS:=h3.tail v l e b d n r [exO] hr hl hn (by show levS F 3 n r ≠ .out; rw [hx]; nofun)
    rw [hx] at hX
    refine pB [.k (.bool false),.b false] rfl ?_
    exact S_callE rfl rfl rfl hS hx hX
   | ok z u =>
    have hS:=PE.ok (h3.tail v l e b d n r [exO] hr hl hn (by show levS F 3 n r ≠ .out; rw [hx]; nofun)) hx
    rw [hx] at hX
    have hu:=((allS F).lev _ _ _ _ _ hx).trans hr
    have hX : X = if isOf (binS 2) u then (levS F 3 n u.tail).bind fun y r' => .ok (binE (hdT u) z y) r' else .ok z u:=hX
    obtain ⟨zk,zn,zt,zs,zm⟩:=z
    refine pB [.k (.bool false),.b false,.f (exA (.mk zk zn zt zs zm)) (fun σ => psB v l u e b d n :: σ.tail)] rfl ?_
    refine S_while (α:=Nat) (fun i => [(0,.ptr 0 v 0),(2,.ptr 1 0 0),(3,.ptr 2 0 0),(16,.sl true true 1 (texts (binS 2))),(17,.int .i64 5),(18,.int .i64 (i : Nat))]) (fun _ => [psB v l u e b d n,exO,exB (.mk zk zn zt zs zm)])
     (fun i => i ≤ 5 ∧ ∀ s ∈ (binS 2).take i,isS s u = false) (fun i => 5 - i) 0 ⟨Nat.zero_le _,by simp⟩ (.cons rfl (.cons rfl (.cons rfl (.cons rfl (.cons rfl (.cons rfl (.nil _))))))) rfl ?_
    rintro i ⟨hi,hN⟩
    have hi : i ≤ 5:=hi
    have hsl : (binS 2).length = 5:=rfl
    by_cases hlt : i < 5
    ·have hel : (texts (binS 2))[(i : Int).toNat]? = some (.str ((binS 2)[i]'hlt)):=texts_get (l:=binS 2) hlt
     by_cases c2 : isS ((binS 2)[i]'hlt) u = true
     ·obtain ⟨o1,o2⟩:=isOf_of (sg:=binS 2) hlt c2
      rw [if_pos o1,o2] at hX
      have hm2:=may_yes v l u e b d n ((binS 2)[i]'hlt) [exO,exB (.mk zk zn zt zs zm)] hu hl c2
      have hu2:=isS_suf hu
      refine pB [.b true,.v (.str ((binS 2)[i]'hlt)),.f (.bool true) (fun σ => psB v l u.tail e b d n :: σ.tail),.b true] rfl ?_
      cases hy : levS F 3 n u.tail with
      | out => rw [hy] at hX; exact absurd hX hne
      | bad j w =>
       have hS2:=h3.tail v l e b d n u.tail [exO,exB (.mk zk zn zt zs zm)] hu2 hl hn (by show levS F 3 n u.tail ≠ .out; rw [hy]; nofun)
       rw [hy] at hX
       refine S_drawE 3 [] [] rfl rfl rfl rfl rfl rfl ?_ hS2 hy hX
       (repeat' with_reducible apply AllP_cons) <;> try exact aC
      | ok y w =>
       have hS2:=PE.ok (h3.tail v l e b d n u.tail [exO,exB (.mk zk zn zt zs zm)] hu2 hl hn (by show levS F 3 n u.tail ≠ .out; rw [hy]; nofun)) hy
       rw [hy] at hX
       obtain ⟨yk,yn,yt,ys,ym⟩:=y
       refine pa [.d 3 6 [] (fun σ => psB v l w e b d n :: σ.tail) [exA (.mk yk yn yt ys ym)]] rfl ?_ ?_
       ·(repeat' with_reducible apply AllP_cons) <;> try exact aC
        exact ⟨_,hS2,rfl⟩
       refine S_wkB 1 (exC (binE ((binS 2)[i]'hlt) (.mk zk zn zt zs zm) (.mk yk yn yt ys ym))) rfl (.cons .refl (.cons .refl (.cons .refl (.cons (.sl (fun _ => rfl) nofun) (.cons .nils .nil))))) ⟨_,_,.inl rfl⟩ ?_
       refine S_ret ⟨_,_,rfl,⟨rfl,trivial⟩,?_⟩
       exact PE.fin hX (exA_free (binE _ _ _))
     ·have hm2:=may_no v l u e b d n ((binS 2)[i]'hlt) [exO,exB (.mk zk zn zt zs zm)] hu hl c2
      refine pB [.b true,.v (.str ((binS 2)[i]'hlt)),.k (.bool false),.b false] rfl ?_
      refine S_round (i + 1) (by show 5 - (i + 1) < 5 - i; omega) ⟨hlt,fun s hs => ?_⟩ (.cons rfl (.cons rfl (.cons rfl (.cons rfl (.cons rfl (.cons (ai64 rfl (by omega)) (.nil _))))))) rfl
      rw [List.take_succ_eq_append_getElem (show i < (binS 2).length from hlt)] at hs
      rcases List.mem_append.1 hs with hs | hs
      ·exact hN s hs
      ·rw [List.mem_singleton] at hs; rw [hs]; exact (Bool.not_eq_true _).mp c2
    ·obtain rfl : i = 5:=by omega
     rw [isOf_no (sg:=binS 2) hN,if_neg (by decide)] at hX
     refine pB [.b false] rfl ?_
     refine S_ret ⟨_,_,rfl,⟨rfl,trivial⟩,?_⟩
     exact PE.fin hX (exA_free _)
def Cc (F : Nat) : Prop:=∀ (v : Nat) (l : List Tok) (e b d n : Nat) (r : List Tok) (x : Ex),r <:+ l → l.length ≤ 100000 → n ≤ 30 → callS F n [x] [] r ≠ .out →
 CallOk cx 135 [.ptr 0 v 0,exA x] (psH v l r e b d n) (PE exA v l e b d n (callS F n [x] [] r) [])
theorem Cc.tail {F : Nat} (h : Cc F) (v : Nat) (l : List Tok) (e b d n : Nat) (r : List Tok) (x : Ex) (τ : Heap) (hr : r <:+ l) (hl : l.length ≤ 100000) (hn : n ≤ 30) (hne : callS F n [x] [] r ≠ .out) :
  CallOk cx 135 [.ptr 0 v 0,exA x] (psB v l r e b d n :: τ) (PE exA v l e b d n (callS F n [x] [] r) τ) :=
 PE.tail τ (h v l e b d n r x hr hl hn hne) hne (arg0_rn v _ (by intro y hy; simp at hy; subst hy; exact exA_free x)) exA_free
theorem unary_ok (F : Nat) (h5 : Cn 127 (fun F => levS F 5) F) (ha : Cn 134 atomS F) (hc : ∀ F',F' ≤ F → Cc F') (he : ∀ F',F' ≤ F → Cn 53 exprS F') :
  Cn 127 (fun F => levS F 5) (F + 1):=fun v l e b d n r hr hl hn hne =>
 callOk_introT (fun a w => Tryz.call127 a w) Tryz.func127 rfl Tryz.ntmps127 rfl fun B => by
  obtain ⟨X,hX⟩ : ∃ X,X = levS (F + 1) 5 n r:=⟨_,rfl⟩
  have hne : X ≠ .out:=by rw [hX]; exact hne
  show S cx _ B _ (retQ cx _ (TR 1 (PE exA v l e b d n (levS (F + 1) 5 n r) []))) _ _
  rw [← hX]
  rw [levS_5] at hX
  by_cases c1 : isS [45] r = true
  ·rw [if_pos c1] at hX
   have hm:=may_yes v l r e b d n [45] [exO] hr hl c1
   have hr1:=isS_suf hr
   have hW : CallOk cx 84 [.ptr 0 v 0,.func (.func 127) [.ptr 0 v 0] []] (psB v l r.tail e b d n :: exO :: []) (PE exA v l e b d n (if n = 30 then .bad 2 r.tail else levS F 5 (n + 1) r.tail) [exO]) :=
    within_ok _ _ _ v l r.tail e b d n _ exO_ok (levS F 5 (n + 1) r.tail) hn
     (fun h => h5.of v l e b d (n + 1) r.tail _ hr1 hl (by omega) (by intro h'; have h' : levS F 5 (n + 1) r.tail = .out:=h'; rw [if_neg h,h'] at hX; exact hne hX)) hr1 hl (fun h h' => by rw [if_neg h,h'] at hX; exact hne hX) (fun z u h => ((allS F).lev _ _ _ _ _ h).trans hr1)
   cases hx : (if n = 30 then (.bad 2 r.tail : Pr Ex) else levS F 5 (n + 1) r.tail) with
   | out =>
    by_cases h : n = 30
    ·rw [if_pos h] at hx; cases hx
    ·rw [if_neg h] at hx hX; rw [hx] at hX; exact absurd hX hne
   | bad j u =>
    refine pB [.f (.bool true) (fun σ => psB v l r.tail e b d n :: σ.tail),.b true] rfl ?_
    refine S_callE rfl rfl rfl hW hx ?_
    by_cases h : n = 30
    ·rw [if_pos h] at hx hX; rw [hX,hx]
    ·rw [if_neg h] at hx hX; rw [hX,hx]; rfl
   | ok z u =>
    have hn30 : n ≠ 30:=fun h => by rw [if_pos h] at hx; cases hx
    have hW1:=PE.ok hW hx
    rw [if_neg hn30] at hx hX
    rw [hx] at hX
    obtain ⟨zk,zn,zt,zs,zm⟩:=z
    refine pB [.f (.bool true) (fun σ => psB v l r.tail e b d n :: σ.tail),.b true,.f (exA (.mk zk zn zt zs zm)) (fun σ => psB v l u e b d n :: σ.tail)] rfl ?_
    refine S_wkB 1 (exC (.mk 13 0 [] [.mk zk zn zt zs zm] [])) rfl (.cons .refl (.cons .refl (.cons .refl (.cons (.sl (fun _ => rfl) nofun) (.cons .nils .nil))))) ⟨_,_,.inl rfl⟩ ?_
    refine S_ret ⟨_,_,rfl,⟨rfl,trivial⟩,?_⟩
    exact PE.fin hX (exA_free (.mk 13 0 [] [.mk zk zn zt zs zm] []))
  ·rw [if_neg c1] at hX
   have hm:=may_no v l r e b d n [45] [exO] hr hl c1
   cases hx : atomS F n r with
   | out => rw [hx] at hX; exact absurd hX hne
   | bad j u =>
    have hS:=ha.tail v l e b d n r [exO] hr hl hn (by rw [hx]; nofun)
    rw [hx] at hX
    refine pB [.k (.bool false),.b false] rfl ?_
    exact S_callE rfl rfl rfl hS hx hX
   | ok z u =>
    have hS:=PE.ok (ha.tail v l e b d n r [exO] hr hl hn (by rw [hx]; nofun)) hx
    rw [hx] at hX
    have hu:=((allS F).atom _ _ _ _ hx).trans hr
    have hX : X = postS F n z u:=hX
    obtain ⟨zk,zn,zt,zs,zm⟩:=z
    refine pB [.k (.bool false),.b false,.f (exA (.mk zk zn zt zs zm)) (fun σ => psB v l u e b d n :: σ.tail)] rfl ?_
    refine S_while (α:=LeftSt) (fun q => [(0,.ptr 0 v 0),(2,.ptr 1 0 0),(3,.ptr 2 0 0)]) (fun q => [psB v l q.r e b d n,exO,exB q.x])
     (fun q => q.F ≤ F ∧ q.r <:+ l ∧ postS q.F n q.x q.r = X) (fun q => q.F) ⟨F,.mk zk zn zt zs zm,u⟩ ⟨Nat.le_refl _,hu,hX.symm⟩ (.cons rfl (.cons rfl (.cons rfl (.nil _)))) rfl ?_
    rintro ⟨F1,⟨xk,xn,xt,xs,xm⟩,r1⟩ ⟨hF,hr1,hq⟩
    have hF : F1 ≤ F:=hF
    have hr1 : r1 <:+ l:=hr1
    have hq : postS F1 n (.mk xk xn xt xs xm) r1 = X:=hq
    show S cx _ B _ _ [(0,.ptr 0 v 0),(2,.ptr 1 0 0),(3,.ptr 2 0 0)] [psB v l r1 e b d n,exO,exB (.mk xk xn xt xs xm)]
    cases F1 with
    | zero => exact absurd hq.symm hne
    | succ F1 =>
     rw [postS] at hq
     have hr2:=isS_suf hr1
     by_cases c2 : isS [40] r1 = true
     ·rw [if_pos c2] at hq
      have hm1:=may_yes v l r1 e b d n [40] [exO,exB (.mk xk xn xt xs xm)] hr1 hl c2
      cases hy : callS F1 n [.mk xk xn xt xs xm] [] r1.tail with
      | out => rw [hy] at hq; exact absurd hq.symm hne
      | bad j w =>
       have hK:=(hc F1 (by omega)).tail v l e b d n r1.tail (.mk xk xn xt xs xm) [exO,exB (.mk xk xn xt xs xm)] hr2 hl hn (by rw [hy]; nofun)
       rw [hy] at hq
       refine pB [.f (.bool true) (fun σ => psB v l r1.tail e b d n :: σ.tail),.b true] rfl ?_
       exact S_callE rfl rfl rfl hK hy hq.symm
      | ok y w =>
       have hK:=PE.ok ((hc F1 (by omega)).tail v l e b d n r1.tail (.mk xk xn xt xs xm) [exO,exB (.mk xk xn xt xs xm)] hr2 hl hn (by rw [hy]; nofun)) hy
       rw [hy] at hq
       have hw:=((allS F1).call _ _ _ _ _ _ hy).trans hr2
       obtain ⟨yk,yn,yt,ys,ym⟩:=y
       refine pB [.f (.bool true) (fun σ => psB v l r1.tail e b d n :: σ.tail),.b true,.f (exA (.mk yk yn yt ys ym)) (fun σ => psB v l w e b d n :: σ.tail)] rfl ?_
       exact S_round ⟨F1,.mk yk yn yt ys ym,w⟩ (Nat.lt_succ_self _) ⟨by show F1 ≤ F; omega,hw,hq⟩ (.cons rfl (.cons rfl (.cons rfl (.nil _)))) rfl
     ·rw [if_neg c2] at hq
      have hm1:=may_no v l r1 e b d n [40] [exO,exB (.mk xk xn xt xs xm)] hr1 hl c2
      by_cases c3 : isS [91] r1 = true
      ·rw [if_pos c3] at hq
       have hm2:=may_yes v l r1 e b d n [91] [exO,exB (.mk xk xn xt xs xm)] hr1 hl c3
       refine pB [.k (.bool false),.b false,.f (.bool true) (fun σ => psB v l r1.tail e b d n :: σ.tail),.b true] rfl ?_
       cases hy : exprS F1 n r1.tail with
       | out => rw [hy] at hq; exact absurd hq.symm hne
       | bad j w =>
        have hK:=(he F1 (by omega)).tail v l e b d n r1.tail [exO,exB (.mk xk xn xt xs xm)] hr2 hl hn (by rw [hy]; nofun)
        rw [hy] at hq
        refine S_drawE 2 [] [] rfl rfl rfl rfl rfl rfl ?_ hK hy hq.symm
        (repeat' with_reducible apply AllP_cons) <;> try exact aC
       | ok y w =>
        have hK:=PE.ok ((he F1 (by omega)).tail v l e b d n r1.tail [exO,exB (.mk xk xn xt xs xm)] hr2 hl hn (by rw [hy]; nofun)) hy
        rw [hy] at hq
        have hw:=((allS F1).expr _ _ _ _ hy).trans hr2
        obtain ⟨yk,yn,yt,ys,ym⟩:=y
        have hM:=mustT v l w e b d n [93] [exO,exB (.mk 11 0 [] [.mk xk xn xt xs xm,.mk yk yn yt ys ym] [])] hw hl
        refine pa [.d 2 5 [] (fun σ => psB v l w e b d n :: σ.tail) [exA (.mk yk yn yt ys ym)],.s] rfl ?_ ?_
        ·(repeat' with_reducible apply AllP_cons) <;> try exact aC
         exact ⟨_,hK,rfl⟩
        refine S_wkF 28 (exC (.mk 11 0 [] [.mk xk xn xt xs xm,.mk yk yn yt ys ym] [])) rfl (.cons .refl (.cons .refl (.cons .refl (.cons (.sl (fun _ => rfl) nofun) (.cons .nils .nil))))) ⟨.skip,_,.inr ⟨_,_,_,rfl⟩⟩ ?_
        refine pB [] rfl ?_
        have hq : (mustS [93] w).bind (fun _ r => postS F1 n (.mk 11 0 [] [.mk xk xn xt xs xm,.mk yk yn yt ys ym] []) r) = X:=hq
        cases hz : mustS [93] w with
        | out => rw [hz] at hq; exact absurd hq.symm hne
        | bad j w2 =>
         rw [hz] at hq
         exact S_callE rfl rfl rfl hM hz hq.symm
        | ok _ w2 =>
         have hM:=PE.ok hM hz
         rw [hz] at hq
         have hw2:=(mustS_s _ _ _ _ hz).trans hw
         refine pB [.f (.tup []) (fun σ => psB v l w2 e b d n :: σ.tail)] rfl ?_
         exact S_round ⟨F1,.mk 11 0 [] [.mk xk xn xt xs xm,.mk yk yn yt ys ym] [],w2⟩ (Nat.lt_succ_self _) ⟨by show F1 ≤ F; omega,hw2,hq⟩ (.cons rfl (.cons rfl (.cons rfl (.nil _)))) rfl
      ·rw [if_neg c3] at hq
       have hm2:=may_no v l r1 e b d n [91] [exO,exB (.mk xk xn xt xs xm)] hr1 hl c3
       refine pB [.k (.bool false),.b false,.k (.bool false),.b false] rfl ?_
       refine S_ret ⟨_,_,rfl,⟨rfl,trivial⟩,?_⟩
       exact PE.fin hq.symm (exA_free _)
theorem exFz {k : Nat} {σ : Heap} {a b : AV} {kd nm : Nat} {t : List UInt8} {ks : List Ex} {ns : List (List UInt8)} (ha : FzT k σ a (.sl true false 5 (exL ks))) (hb : FzT k σ b (.sl true false 1 (texts ns))) :
  FzT k σ (.agg [.int .i64 (kd : Nat),.int .i64 (nm : Nat),.str t,a,b]) (exA (.mk kd nm t ks ns)):=by
 refine .agg rfl (fun i h h' => ?_)
 match i,h with
 | 0,_ => exact .low .int
 | 1,_ => exact .low .int
 | 2,_ => exact .low .str
 | 3,_ => exact ha
 | 4,_ => exact hb
theorem exL_snoc (l : List Ex) (y : Ex) : exL (l ++ [y]) = exL l ++ [exA y]:=by
 rw [exL_map,exL_map,List.map_append]; rfl
theorem exL_len (l : List Ex) : (exL l).length = l.length:=by rw [exL_map]; simp
theorem exL_sz (l : List Ex) : ∀ x ∈ exL l,x.cells.length = 5:=by
 intro x hx; rw [exL_map] at hx; obtain ⟨y,_,rfl⟩:=List.mem_map.1 hx; exact exA_cells y
def exF (l : List Ex) : List AV:=(exL l).flatMap AV.cells
theorem exF_len (l : List Ex) : (exF l).length = l.length * 5:=by
 unfold exF
 induction l with
 | nil => rfl
 | cons x r ih =>
  rw [exL,List.flatMap_cons,List.length_append,ih,exA_cells,List.length_cons]; omega
theorem exF_snoc (l : List Ex) (y : Ex) : exF (l ++ [y]) = exF l ++ (exA y).cells:=by
 unfold exF; rw [exL_snoc,List.flatMap_append,List.flatMap_cons,List.flatMap_nil,List.append_nil]
def kidB (w : Nat) (ks : List Ex) : Nat × Option Box:=(w,some (.cells (exF ks) ⟨false,none⟩))
theorem kidFz {k : Nat} {σ : Heap} {id w : Nat} {ks : List Ex} (hk : k ≤ id) (hb : σ[id]? = some (kidB w ks)) : FzT k σ (.ms id w 0 ks.length 5 false) (.sl true false 5 (exL ks)) :=
 .msN hk (by unfold boxAt; rw [hb]; rfl) (exL_sz ks) (exL_len ks) (fun x hx => Low.free (exL_free (st:=false) ks x hx))
def words3 : List (List UInt8):=[wNone,wTrue,wFalse]
structure DictSt where
 F : Nat
 ks : List Ex
 r : List Tok
 w : Nat
def dictB (w : Nat) (ks : List Ex) : Nat × Option Box:=(0,some (.cells [.int .i64 8,.int .i64 0,.str [],.ms 3 w 0 ks.length 5 false,.nils] ⟨false,some 54⟩))
theorem atom_ok (F : Nat) (hF : F ≤ 10000000) (he : ∀ F',F' ≤ F → Cn 53 exprS F') (hli : Cn 142 listS F) : Cn 134 atomS (F + 1):=fun v l e b d n r hr hl hn hne =>
 callOk_introT (fun a w => Tryz.call134 a w) Tryz.func134 rfl Tryz.ntmps134 rfl fun B => by
  obtain ⟨X,hX⟩ : ∃ X,X = atomS (F + 1) n r:=⟨_,rfl⟩
  rw [← hX] at hne ⊢
  have hk:=kindT v l r e b d n [exO] hr hl
  by_cases k1 : hdK r = 1
  ·obtain ⟨t,u,rfl⟩ : ∃ t u,r = t :: u:=by
    cases r with
    | nil => cases k1
    | cons t u => exact ⟨t,u,rfl⟩
   have k1 : t.kind = 1:=k1
   have hX : X = if t.kind = 1 then .ok (.mk 6 0 t.text [] []) u else _:=hX
   rw [if_pos k1] at hX
   have hT:=PE.ok (takeT v l (t :: u) e b d n 1 [exO] hr hl (by decide)) (if_pos k1)
   refine pB [.k (.int .i64 (hdK (t :: u) : Nat)),.b true,.f (tokA t) (fun σ => psB v l u e b d n :: σ.tail)] rfl ?_
   refine S_wkB 1 (exC (.mk 6 0 t.text [] [])) rfl (.cons .refl (.cons .refl (.cons .refl (.cons .nils (.cons .nils .nil))))) ⟨_,_,.inl rfl⟩ ?_
   refine S_ret ⟨_,_,rfl,⟨rfl,trivial⟩,?_⟩
   exact PE.fin hX (exA_free (.mk 6 0 t.text [] []))
  have e1 : (((hdK r : Nat) : Int) == 1) = false:=beq_false_of_ne (by omega)
  by_cases k2 : hdK r = 2
  ·obtain ⟨t,u,rfl⟩ : ∃ t u,r = t :: u:=by
    cases r with
    | nil => cases k2
    | cons t u => exact ⟨t,u,rfl⟩
   have k2 : t.kind = 2:=k2
   have hX : X = if t.kind = 1 then _ else if t.kind = 2 then .ok (.mk 4 t.num [] [] []) u else _:=hX
   rw [if_neg (show ¬ t.kind = 1 from k1),if_pos k2] at hX
   have hT:=PE.ok (takeT v l (t :: u) e b d n 2 [exO] hr hl (by decide)) (if_pos k2)
   have e2 : (((hdK (t :: u) : Nat) : Int) == 2) = true:=by rw [show hdK (t :: u) = t.kind from rfl,k2]; rfl
   refine pB [.k (.int .i64 (hdK (t :: u) : Nat)),.b false,.b true,.f (tokA t) (fun σ => psB v l u e b d n :: σ.tail)] rfl ?_
   refine S_wkB 1 (exC (.mk 4 t.num [] [] [])) rfl (.cons .refl (.cons .refl (.cons .refl (.cons .nils (.cons .nils .nil))))) ⟨_,_,.inl rfl⟩ ?_
   refine S_ret ⟨_,_,rfl,⟨rfl,trivial⟩,?_⟩
   exact PE.fin hX (exA_free (.mk 4 t.num [] [] []))
  have e2 : (((hdK r : Nat) : Int) == 2) = false:=beq_false_of_ne (by omega)
  by_cases k3 : hdK r = 3
  ·obtain ⟨t,u,rfl⟩ : ∃ t u,r = t :: u:=by
    cases r with
    | nil => cases k3
    | cons t u => exact ⟨t,u,rfl⟩
   have k3 : t.kind = 3:=k3
   have hX : X = if t.kind = 1 then _ else if t.kind = 2 then _ else if t.kind = 3 then .ok (.mk 5 0 t.text [] []) u else _:=hX
   rw [if_neg (show ¬ t.kind = 1 from k1),if_neg (show ¬ t.kind = 2 from k2),if_pos k3] at hX
   have hT:=PE.ok (takeT v l (t :: u) e b d n 3 [exO] hr hl (by decide)) (if_pos k3)
   have e3 : (((hdK (t :: u) : Nat) : Int) == 3) = true:=by rw [show hdK (t :: u) = t.kind from rfl,k3]; rfl
   refine pB [.k (.int .i64 (hdK (t :: u) : Nat)),.b false,.b false,.b true,.f (tokA t) (fun σ => psB v l u e b d n :: σ.tail)] rfl ?_
   refine S_wkB 1 (exC (.mk 5 0 t.text [] [])) rfl (.cons .refl (.cons .refl (.cons .refl (.cons .nils (.cons .nils .nil))))) ⟨_,_,.inl rfl⟩ ?_
   refine S_ret ⟨_,_,rfl,⟨rfl,trivial⟩,?_⟩
   exact PE.fin hX (exA_free (.mk 5 0 t.text [] []))
  have e3 : (((hdK r : Nat) : Int) == 3) = false:=beq_false_of_ne (by omega)
  have hX : X = if isS wNone r then .ok (.mk 1 0 [] [] []) r.tail
   else if isS wTrue r then .ok (.mk 2 0 [] [] []) r.tail
   else if isS wFalse r then .ok (.mk 3 0 [] [] []) r.tail
   else if isS [40] r then (exprS F n r.tail).bind fun x r => (mustS [41] r).bind fun _ r => .ok x r
   else if isS [91] r then listS F n r.tail
   else if isS [123] r then dictS F n [] r.tail
   else .bad 1 r:=by
   cases r with
   | nil => exact hX
   | cons t u =>
    rw [atomS] at hX
    rw [if_neg (show ¬ t.kind = 1 from k1),if_neg (show ¬ t.kind = 2 from k2),if_neg (show ¬ t.kind = 3 from k3)] at hX
    exact hX
  refine pB [.k (.int .i64 (hdK r : Nat)),.b false,.b false,.b false] rfl ?_
  refine S_while (α:=Nat) (fun i => [(0,.ptr 0 v 0),(2,.ptr 1 0 0),(27,.sl true true 1 (texts words3)),(28,.int .i64 3),(29,.int .i64 (i : Nat))]) (fun _ => [psB v l r e b d n,exO])
   (fun i => i ≤ 3 ∧ ∀ s ∈ words3.take i,isS s r = false) (fun i => 3 - i) 0 ⟨Nat.zero_le _,by simp⟩ (.cons rfl (.cons rfl (.cons rfl (.cons rfl (.cons rfl (.nil _)))))) rfl ?_
  rintro i ⟨hi,hN⟩
  have hi : i ≤ 3:=hi
  have hsl : words3.length = 3:=rfl
  by_cases hlt : i < 3
  ·have hel : (texts words3)[(i : Int).toNat]? = some (.str (words3[i]'hlt)):=texts_get (l:=words3) hlt
   by_cases c2 : isS (words3[i]'hlt) r = true
   ·have hX : X = .ok (.mk (i + 1) 0 [] [] []) r.tail:=by
     match i,hlt,c2,hN with
     | 0,_,c2,_ => rw [hX,if_pos (show isS wNone r = true from c2)]
     | 1,_,c2,hN => rw [hX,if_neg (by rw [hN wNone (by decide)]; decide),if_pos (show isS wTrue r = true from c2)]
     | 2,_,c2,hN => rw [hX,if_neg (by rw [hN wNone (by decide)]; decide),if_neg (by rw [hN wTrue (by decide)]; decide),if_pos (show isS wFalse r = true from c2)]
    have hm2:=may_yes v l r e b d n (words3[i]'hlt) [exO] hr hl c2
    have hw : IntKind.i64.wrap (1 + (i : Nat)) = ((i + 1 : Nat) : Int):=by rw [IntWalk.i64_in _ ⟨by omega,by omega⟩]; omega
    refine pB [.b true,.v (.str (words3[i]'hlt)),.f (.bool true) (fun σ => psB v l r.tail e b d n :: σ.tail),.b true] rfl ?_
    refine S_wkB 1 [.int .i64 (IntKind.i64.wrap (1 + (i : Nat))),.int .i64 0,.str [],.sl true false 5 [],.sl true false 1 []] rfl (.cons .refl (.cons .refl (.cons .refl (.cons .nils (.cons .nils .nil))))) ⟨_,_,.inl rfl⟩ ?_
    rw [hw]
    refine S_ret ⟨_,_,rfl,⟨rfl,trivial⟩,?_⟩
    exact PE.fin hX (exA_free (.mk (i + 1) 0 [] [] []))
   ·have hm2:=may_no v l r e b d n (words3[i]'hlt) [exO] hr hl c2
    refine pB [.b true,.v (.str (words3[i]'hlt)),.k (.bool false),.b false] rfl ?_
    refine S_round (i + 1) (by show 3 - (i + 1) < 3 - i; omega) ⟨hlt,fun s hs => ?_⟩ (.cons rfl (.cons rfl (.cons rfl (.cons rfl (.cons (ai64 rfl (by omega)) (.nil _)))))) rfl
    rw [List.take_succ_eq_append_getElem (show i < words3.length from hlt)] at hs
    rcases List.mem_append.1 hs with hs | hs
    ·exact hN s hs
    ·rw [List.mem_singleton] at hs; rw [hs]; exact (Bool.not_eq_true _).mp c2
  obtain rfl : i = 3:=by omega
  rw [if_neg (by rw [hN wNone (by decide)]; decide),if_neg (by rw [hN wTrue (by decide)]; decide),if_neg (by rw [hN wFalse (by decide)]; decide)] at hX
  have hr2:=isS_suf hr
  by_cases c4 : isS [40] r = true
  ·rw [if_pos c4] at hX
   have hm4:=may_yes v l r e b d n [40] [exO] hr hl c4
   cases hx : exprS F n r.tail with
   | out => rw [hx] at hX; exact absurd hX hne
   | bad j u =>
    have hS:=(he F (Nat.le_refl _)).tail v l e b d n r.tail [exO] hr2 hl hn (by rw [hx]; nofun)
    rw [hx] at hX
    refine pB [.b false,.f (.bool true) (fun σ => psB v l r.tail e b d n :: σ.tail),.b true] rfl ?_
    exact S_callE rfl rfl rfl hS hx hX
   | ok z u =>
    have hS:=PE.ok ((he F (Nat.le_refl _)).tail v l e b d n r.tail [exO] hr2 hl hn (by rw [hx]; nofun)) hx
    rw [hx] at hX
    have hX : X = (mustS [41] u).bind fun _ r => .ok z r:=hX
    have hu:=((allS F).expr _ _ _ _ hx).trans hr2
    obtain ⟨zk,zn,zt,zs,zm⟩:=z
    have hM:=mustT v l u e b d n [41] [exO,exB (.mk zk zn zt zs zm)] hu hl
    refine pB [.b false,.f (.bool true) (fun σ => psB v l r.tail e b d n :: σ.tail),.b true,.f (exA (.mk zk zn zt zs zm)) (fun σ => psB v l u e b d n :: σ.tail)] rfl ?_
    cases hz : mustS [41] u with
    | out => rw [hz] at hX; exact absurd hX hne
    | bad j w =>
     rw [hz] at hX
     exact S_callE rfl rfl rfl hM hz hX
    | ok _ w =>
     have hM:=PE.ok hM hz
     rw [hz] at hX
     refine pB [.f (.tup []) (fun σ => psB v l w e b d n :: σ.tail)] rfl ?_
     refine S_ret ⟨_,_,rfl,⟨rfl,trivial⟩,?_⟩
     exact PE.fin hX (exA_free _)
  rw [if_neg c4] at hX
  have hm4:=may_no v l r e b d n [40] [exO] hr hl c4
  by_cases c5 : isS [91] r = true
  ·rw [if_pos c5] at hX
   have hm5:=may_yes v l r e b d n [91] [exO] hr hl c5
   have hS:=hli.tail v l e b d n r.tail [exO] hr2 hl hn (by rw [← hX]; exact hne)
   rw [← hX] at hS
   cases hx : X with
   | out => exact absurd hx hne
   | bad j u =>
    refine pB [.b false,.k (.bool false),.b false,.f (.bool true) (fun σ => psB v l r.tail e b d n :: σ.tail),.b true] rfl ?_
    exact S_callE rfl rfl rfl hS hx rfl
   | ok z u =>
    have hS:=PE.ok hS hx
    obtain ⟨zk,zn,zt,zs,zm⟩:=z
    refine pB [.b false,.k (.bool false),.b false,.f (.bool true) (fun σ => psB v l r.tail e b d n :: σ.tail),.b true,.f (exA (.mk zk zn zt zs zm)) (fun σ => psB v l u e b d n :: σ.tail)] rfl ?_
    refine S_ret ⟨_,_,rfl,⟨rfl,trivial⟩,?_⟩
    exact PE.fin rfl (exA_free _)
  rw [if_neg c5] at hX
  have hm5:=may_no v l r e b d n [91] [exO] hr hl c5
  by_cases c6 : isS [123] r = true
  ·rw [if_pos c6] at hX
   have hm6:=may_yes v l r e b d n [123] [exO] hr hl c6
   refine pB [.b false,.k (.bool false),.b false,.k (.bool false),.b false,.f (.bool true) (fun σ => psB v l r.tail e b d n :: σ.tail),.b true] rfl ?_
   refine S_ghost (id:=2) (j:=3) 5 ⟨false,none⟩ rfl rfl rfl (Nat.ne_of_lt (lble rfl)) ⟨_,_,.inl rfl⟩ ?_
   refine S_while (α:=DictSt) (fun q => [(0,.ptr 0 v 0),(2,.ptr 1 0 0),(6,.ptr 2 0 0)]) (fun q => [psB v l q.r e b d n,exO,dictB q.w q.ks,kidB q.w q.ks])
    (fun q => q.F ≤ F ∧ q.r <:+ l ∧ dictS q.F n q.ks q.r = X ∧ q.ks.length + 2 * q.F ≤ 2 * F) (fun q => q.F) ⟨F,[],r.tail,0⟩ ⟨Nat.le_refl _,hr2,hX.symm,by show 0 + 2 * F ≤ 2 * F; omega⟩ (.cons rfl (.cons rfl (.cons rfl (.nil _)))) rfl ?_
   rintro ⟨F1,ks,r1,w⟩ ⟨hF1,hr1,hq,hks⟩
   have hF1 : F1 ≤ F:=hF1
   have hr1 : r1 <:+ l:=hr1
   have hq : dictS F1 n ks r1 = X:=hq
   have hks : ks.length + 2 * F1 ≤ 2 * F:=hks
   clear hX hm6 hm5 hm4 hN hk
   show S cx _ B _ _ [(0,.ptr 0 v 0),(2,.ptr 1 0 0),(6,.ptr 2 0 0)] [psB v l r1 e b d n,exO,dictB w ks,kidB w ks]
   cases F1 with
   | zero => exact absurd hq.symm hne
   | succ F1 =>
    rw [dictS] at hq
    by_cases c7 : isS [125] r1 = true
    ·rw [if_pos c7] at hq
     have hm7:=may_yes v l r1 e b d n [125] [exO,dictB w ks,kidB w ks] hr1 hl c7
     refine pB [.f (.bool true) (fun σ => psB v l r1.tail e b d n :: σ.tail),.b false] rfl ?_
     refine S_ret ⟨_,_,rfl,⟨rfl,trivial⟩,?_⟩
     exact PE.finZ hq.symm (exFz (kidFz (by decide) rfl) .nils)
    ·rw [if_neg c7] at hq
     have hm7:=may_no v l r1 e b d n [125] [exO,dictB w ks,kidB w ks] hr1 hl c7
     cases hmm : (if ks.length > 0 then mustS [44] r1 else (.ok () r1 : Pr Unit)) with
     | out => rw [hmm] at hq; exact absurd hq.symm hne
     | bad j u =>
      rw [hmm] at hq
      have hk0 : ks.length > 0:=by
       by_cases h : ks.length > 0
       ·exact h
       ·rw [if_neg h] at hmm; cases hmm
      rw [if_pos hk0] at hmm
      refine pB [.k (.bool false),.b true,.b true] rfl ?_
      exact S_callE rfl rfl rfl (mustT v l r1 e b d n [44] _ hr1 hl) hmm hq.symm
     | ok _ r3 =>
      rw [hmm] at hq
      have hq : (exprS F1 n r3).bind (fun y r => (mustS [58] r).bind fun _ r => (exprS F1 n r).bind fun z r => dictS F1 n (ks ++ [y] ++ [z]) r) = X:=hq
      have hr3 : r3 <:+ l:=by
       by_cases h : ks.length > 0
       ·rw [if_pos h] at hmm; exact (mustS_s _ _ _ _ hmm).trans hr1
       ·rw [if_neg h] at hmm; cases hmm; exact hr1
      refine' S_share [(0,.ptr 0 v 0),(2,.ptr 1 0 0),(6,.ptr 2 0 0)] [psB v l r3 e b d n,exO,dictB w ks,kidB w ks] (fun cont => ?main) ?rest
      case main =>
       by_cases h : ks.length > 0
       ·rw [if_pos h] at hmm
        have hM:=PE.ok (mustT v l r1 e b d n [44] [exO,dictB w ks,kidB w ks] hr1 hl) hmm
        refine pB [.k (.bool false),.b true,.b true,.f (.tup []) (fun σ => psB v l r3 e b d n :: σ.tail)] rfl ?_
        exact cont _ (.cons rfl (.cons rfl (.cons rfl (.nil _))))
       ·rw [if_neg h] at hmm
        cases hmm
        refine pB [.k (.bool false),.b true,.b false] rfl ?_
        exact cont _ (.cons rfl (.cons rfl (.cons rfl (.nil _))))
      case rest =>
       have hbx : 0 + ks.length * 5 = (exF ks).length:=by rw [exF_len]; omega
       cases hy : exprS F1 n r3 with
       | out => rw [hy] at hq; exact absurd hq.symm hne
       | bad j u =>
        have hS:=(he F1 (by omega)).tail v l e b d n r3 [exO,dictB w ks,kidB w ks] hr3 hl hn (by rw [hy]; nofun)
        rw [hy] at hq
        refine S_drawE 3 [] [] rfl rfl rfl rfl rfl rfl ?_ hS hy hq.symm
        (repeat' with_reducible apply AllP_cons) <;> try exact aC
       | ok y r4 =>
        have hS:=PE.ok ((he F1 (by omega)).tail v l e b d n r3 [exO,dictB w ks,kidB w ks] hr3 hl hn (by rw [hy]; nofun)) hy
        rw [hy] at hq
        have hq : (mustS [58] r4).bind (fun _ r => (exprS F1 n r).bind fun z r => dictS F1 n (ks ++ [y] ++ [z]) r) = X:=hq
        have hr4:=((allS F1).expr _ _ _ _ hy).trans hr3
        obtain ⟨yk,yn,yt,ys,ym⟩:=y
        refine pa [.d 3 5 [] (fun σ => psB v l r4 e b d n :: σ.tail) [exA (.mk yk yn yt ys ym)]] rfl ?_ ?_
        ·(repeat' with_reducible apply AllP_cons) <;> try exact aC
         ·exact ⟨_,hS,rfl⟩
         ·show (ks.length + 1) * 80 ≤ 140737488355328
          omega
        refine S_heap [psB v l r4 e b d n,exO,dictB (w + 1) (ks ++ [.mk yk yn yt ys ym]),kidB (w + 1) (ks ++ [.mk yk yn yt ys ym])] ?_ ?_
        ·unfold dictB kidB
         rw [exF_snoc,List.length_append]; rfl
        cases hz : mustS [58] r4 with
        | out => rw [hz] at hq; exact absurd hq.symm hne
        | bad j u =>
         rw [hz] at hq
         exact S_callE rfl rfl rfl (mustT v l r4 e b d n [58] _ hr4 hl) hz hq.symm
        | ok _ r5 =>
         have hM2:=PE.ok (mustT v l r4 e b d n [58] [exO,dictB (w + 1) (ks ++ [.mk yk yn yt ys ym]),kidB (w + 1) (ks ++ [.mk yk yn yt ys ym])] hr4 hl) hz
         rw [hz] at hq
         have hq : (exprS F1 n r5).bind (fun z r => dictS F1 n (ks ++ [.mk yk yn yt ys ym] ++ [z]) r) = X:=hq
         have hr5:=(mustS_s _ _ _ _ hz).trans hr4
         have hln : (ks ++ [Ex.mk yk yn yt ys ym]).length = ks.length + 1:=by simp
         refine pB [.f (.tup []) (fun σ => psB v l r5 e b d n :: σ.tail)] rfl ?_
         generalize ks ++ [Ex.mk yk yn yt ys ym] = ks2 at hq hln ⊢
         have hbx2 : 0 + ks2.length * 5 = (exF ks2).length:=by rw [exF_len]; omega
         cases hy2 : exprS F1 n r5 with
         | out => rw [hy2] at hq; exact absurd hq.symm hne
         | bad j u =>
          have hS2:=(he F1 (by omega)).tail v l e b d n r5 [exO,dictB (w + 1) ks2,kidB (w + 1) ks2] hr5 hl hn (by rw [hy2]; nofun)
          rw [hy2] at hq
          refine S_drawE 3 [] [] rfl rfl rfl rfl rfl rfl ?_ hS2 hy2 hq.symm
          (repeat' with_reducible apply AllP_cons) <;> try exact aC
         | ok z r6 =>
          have hS2:=PE.ok ((he F1 (by omega)).tail v l e b d n r5 [exO,dictB (w + 1) ks2,kidB (w + 1) ks2] hr5 hl hn (by rw [hy2]; nofun)) hy2
          rw [hy2] at hq
          have hq : dictS F1 n (ks2 ++ [z]) r6 = X:=hq
          have hr6:=((allS F1).expr _ _ _ _ hy2).trans hr5
          obtain ⟨zk,zn,zt,zs,zm⟩:=z
          refine pa [.d 3 5 [] (fun σ => psB v l r6 e b d n :: σ.tail) [exA (.mk zk zn zt zs zm)]] rfl ?_ ?_
          ·(repeat' with_reducible apply AllP_cons) <;> try exact aC
           ·exact ⟨_,hS2,rfl⟩
           ·show (ks2.length + 1) * 80 ≤ 140737488355328
            omega
          refine S_round ⟨F1,ks2 ++ [.mk zk zn zt zs zm],r6,w + 1 + 1⟩ (Nat.lt_succ_self _) ⟨by show F1 ≤ F; omega,hr6,hq,by show (ks2 ++ [_]).length + 2 * F1 ≤ 2 * F; rw [List.length_append,List.length_singleton]; omega⟩ (.cons rfl (.cons rfl (.cons rfl (.nil _)))) ?_
          show _ = [psB v l r6 e b d n,exO,dictB (w + 1 + 1) (ks2 ++ [.mk zk zn zt zs zm]),kidB (w + 1 + 1) (ks2 ++ [.mk zk zn zt zs zm])]
          unfold dictB kidB
          rw [exF_snoc,List.length_append]; rfl
  ·rw [if_neg c6] at hX
   have hm6:=may_no v l r e b d n [123] [exO] hr hl c6
   refine pB [.b false,.k (.bool false),.b false,.k (.bool false),.b false,.k (.bool false),.b false] rfl ?_
   exact S_callE rfl rfl rfl (failT uA v l r e b d n 1 _ hr hl) rfl hX
def kidX (kd : Nat) (tx : List UInt8) (w : Nat) (ks : List Ex) : Nat × Option Box:=(0,some (.cells [.int .i64 (kd : Nat),.int .i64 0,.str tx,.ms 3 w 0 ks.length 5 false,.nils] ⟨false,some 54⟩))
def kidI (kd : Int) (tx : List UInt8) (w m : Nat) : Nat × Option Box:=(0,some (.cells [.int .i64 kd,.int .i64 0,.str tx,.ms 3 w 0 m 5 false,.nils] ⟨false,some 54⟩))
def kidBI (w : Nat) (ks : List Ex) (y : AV) : Nat × Option Box:=(w,some (.cells (exF ks ++ y.cells) ⟨false,none⟩))
theorem kid_snoc (p : Nat × Option Box) (kd : Nat) (tx : List UInt8) (w : Nat) (ks : List Ex) (y : Ex) :
  [p,exO,kidI kd tx w (ks.length + 1),kidBI w ks (exA y)] = [p,exO,kidX kd tx w (ks ++ [y]),kidB w (ks ++ [y])]:=by
 unfold kidX kidB kidI kidBI
 rw [exF_snoc,List.length_append]; rfl
structure ItemSt where
 F : Nat
 ks : List Ex
 r : List Tok
 w : Nat
theorem list_ok (F : Nat) (hF : F ≤ 10000000) (he : ∀ F',F' ≤ F → Cn 53 exprS F') : Cn 142 listS (F + 1):=fun v l e b d n r hr hl hn hne =>
 callOk_introT (fun a w => Tryz.call142 a w) Tryz.func142 rfl Tryz.ntmps142 rfl fun B => by
  obtain ⟨X,hX⟩ : ∃ X,X = listS (F + 1) n r:=⟨_,rfl⟩
  rw [← hX] at hne ⊢
  rw [listS] at hX
  by_cases c1 : isS [93] r = true
  ·rw [if_pos c1] at hX
   have hm:=fun τ => may_yes v l r e b d n [93] τ hr hl c1
   refine pa [.f (.bool true) (fun σ => psB v l r.tail e b d n :: σ.tail),.b true] rfl ?_ ?_
   ·(repeat' with_reducible apply AllP_cons) <;> try exact aC
    exact hm _
   refine S_wkB 1 (exC (.mk 7 0 [] [] [])) rfl (.cons .refl (.cons .refl (.cons .refl (.cons .nils (.cons .nils .nil))))) ⟨_,_,.inl rfl⟩ ?_
   refine S_ret ⟨_,_,rfl,⟨rfl,trivial⟩,?_⟩
   exact PE.fin hX (exA_free (.mk 7 0 [] [] []))
  rw [if_neg c1] at hX
  have hm:=fun τ => may_no v l r e b d n [93] τ hr hl c1
  refine pa [.k (.bool false),.b false] rfl ?_ ?_
  ·(repeat' with_reducible apply AllP_cons) <;> try exact aC
   exact hm _
  refine S_ghost (id:=2) (j:=3) 5 ⟨false,none⟩ rfl rfl rfl (Nat.ne_of_lt (lble rfl)) ⟨_,_,.inl rfl⟩ ?_
  refine S_heap [psB v l r e b d n,exO,kidX 7 [] 0 [],kidB 0 []] rfl ?_
  clear hm
  have hE:=he F (Nat.le_refl _)
  cases hy : exprS F n r with
  | out => rw [hy] at hX; exact absurd hX hne
  | bad j u =>
   have hS:=hE.tail v l e b d n r [exO,kidX 7 [] 0 [],kidB 0 []] hr hl hn (by rw [hy]; nofun)
   rw [hy] at hX
   refine S_drawE 3 [] [] rfl rfl rfl rfl rfl rfl ?_ hS hy hX
   (repeat' with_reducible apply AllP_cons) <;> try exact aC
  | ok y r1 =>
  have hS:=PE.ok (hE.tail v l e b d n r [exO,kidX 7 [] 0 [],kidB 0 []] hr hl hn (by rw [hy]; nofun)) hy
  rw [hy] at hX
  have hr1:=((allS F).expr _ _ _ _ hy).trans hr
  obtain ⟨yk,yn,yt,ys,ym⟩:=y
  refine pa [.d 3 5 [] (fun σ => psB v l r1 e b d n :: σ.tail) [exA (.mk yk yn yt ys ym)]] rfl ?_ ?_
  ·(repeat' with_reducible apply AllP_cons) <;> try exact aC
   exact ⟨_,hS,rfl⟩
  refine S_heap [psB v l r1 e b d n,exO,kidX 7 [] 1 [.mk yk yn yt ys ym],kidB 1 [.mk yk yn yt ys ym]] rfl ?_
  generalize Ex.mk yk yn yt ys ym = y at hX
  clear hS hy
  by_cases c2 : isS wFor r1 = true
  ·have hX : X = if isS wFor r1 then (takeS 1 r1.tail).bind fun t r => (mustS wIn r).bind fun _ r => (exprS F n r).bind fun z r =>
     if isS wIf r then (exprS F n r.tail).bind fun z2 r => (mustS [93] r).bind fun _ r => .ok (.mk 9 0 t.text [y,z,z2] []) r
     else (mustS [93] r).bind fun _ r => .ok (.mk 9 0 t.text [y,z] []) r else _:=hX
   rw [if_pos c2] at hX
   have hm:=may_yes v l r1 e b d n wFor [exO,kidX 7 [] 1 [y],kidB 1 [y]] hr1 hl c2
   have hr2:=isS_suf hr1
   refine pB [.f (.bool true) (fun σ => psB v l r1.tail e b d n :: σ.tail),.b true] rfl ?_
   clear hm
   cases ht : takeS 1 r1.tail with
   | out => rw [ht] at hX; exact absurd hX hne
   | bad j u =>
    rw [ht] at hX
    exact S_callE rfl rfl rfl (takeT v l r1.tail e b d n 1 _ hr2 hl (by decide)) ht hX
   | ok t r3 =>
   have hT:=PE.ok (takeT v l r1.tail e b d n 1 [exO,kidX 7 [] 1 [y],kidB 1 [y]] hr2 hl (by decide)) ht
   rw [ht] at hX
   have hr3:=(takeS_s _ _ _ _ ht).trans hr2
   refine pB [.f (tokA t) (fun σ => psB v l r3 e b d n :: σ.tail)] rfl ?_
   refine S_heap [psB v l r3 e b d n,exO,kidX 9 t.text 1 [y],kidB 1 [y]] rfl ?_
   clear hT
   have hX : X = (mustS wIn r3).bind fun _ r => (exprS F n r).bind fun z r =>
     if isS wIf r then (exprS F n r.tail).bind fun z2 r => (mustS [93] r).bind fun _ r => .ok (.mk 9 0 t.text [y,z,z2] []) r
     else (mustS [93] r).bind fun _ r => .ok (.mk 9 0 t.text [y,z] []) r:=hX
   cases hz : mustS wIn r3 with
   | out => rw [hz] at hX; exact absurd hX hne
   | bad j u =>
    rw [hz] at hX
    exact S_callE rfl rfl rfl (mustT v l r3 e b d n wIn _ hr3 hl) hz hX
   | ok _ r4 =>
   have hM:=PE.ok (mustT v l r3 e b d n wIn [exO,kidX 9 t.text 1 [y],kidB 1 [y]] hr3 hl) hz
   rw [hz] at hX
   have hr4:=(mustS_s _ _ _ _ hz).trans hr3
   refine pB [.f (.tup []) (fun σ => psB v l r4 e b d n :: σ.tail)] rfl ?_
   clear hM
   have hX : X = (exprS F n r4).bind fun z r =>
     if isS wIf r then (exprS F n r.tail).bind fun z2 r => (mustS [93] r).bind fun _ r => .ok (.mk 9 0 t.text [y,z,z2] []) r
     else (mustS [93] r).bind fun _ r => .ok (.mk 9 0 t.text [y,z] []) r:=hX
   cases hy : exprS F n r4 with
   | out => rw [hy] at hX; exact absurd hX hne
   | bad j u =>
    have hS:=hE.tail v l e b d n r4 [exO,kidX 9 t.text 1 [y],kidB 1 [y]] hr4 hl hn (by rw [hy]; nofun)
    rw [hy] at hX
    refine S_drawE 3 [] [] rfl rfl rfl rfl rfl rfl ?_ hS hy hX
    (repeat' with_reducible apply AllP_cons) <;> try exact aC
   | ok z r5 =>
   have hS:=PE.ok (hE.tail v l e b d n r4 [exO,kidX 9 t.text 1 [y],kidB 1 [y]] hr4 hl hn (by rw [hy]; nofun)) hy
   rw [hy] at hX
   have hr5:=((allS F).expr _ _ _ _ hy).trans hr4
   have hbx : 0 + [y].length * 5 = (exF [y]).length:=by rw [exF_len]; omega
   obtain ⟨yk,yn,yt,ys,ym⟩:=z
   refine pa [.d 3 5 [] (fun σ => psB v l r5 e b d n :: σ.tail) [exA (.mk yk yn yt ys ym)]] rfl ?_ ?_
   ·(repeat' with_reducible apply AllP_cons) <;> try exact aC
    exact ⟨_,hS,rfl⟩
   refine S_heap [psB v l r5 e b d n,exO,kidX 9 t.text 2 [y,.mk yk yn yt ys ym],kidB 2 [y,.mk yk yn yt ys ym]] (kid_snoc _ 9 t.text 2 [y] (.mk yk yn yt ys ym)) ?_
   generalize Ex.mk yk yn yt ys ym = z at hX
   have hX : X = if isS wIf r5 then (exprS F n r5.tail).bind fun z2 r => (mustS [93] r).bind fun _ r => .ok (.mk 9 0 t.text [y,z,z2] []) r
     else (mustS [93] r5).bind fun _ r => .ok (.mk 9 0 t.text [y,z] []) r:=hX
   clear hS hy hbx
   by_cases c3 : isS wIf r5 = true
   ·rw [if_pos c3] at hX
    have hm:=may_yes v l r5 e b d n wIf [exO,kidX 9 t.text 2 [y,z],kidB 2 [y,z]] hr5 hl c3
    have hr6:=isS_suf hr5
    refine pB [.f (.bool true) (fun σ => psB v l r5.tail e b d n :: σ.tail),.b true] rfl ?_
    clear hm
    cases hy : exprS F n r5.tail with
    | out => rw [hy] at hX; exact absurd hX hne
    | bad j u =>
     have hS:=hE.tail v l e b d n r5.tail [exO,kidX 9 t.text 2 [y,z],kidB 2 [y,z]] hr6 hl hn (by rw [hy]; nofun)
     rw [hy] at hX
     refine S_drawE 3 [] [] rfl rfl rfl rfl rfl rfl ?_ hS hy hX
     (repeat' with_reducible apply AllP_cons) <;> try exact aC
    | ok z2 r7 =>
    have hS:=PE.ok (hE.tail v l e b d n r5.tail [exO,kidX 9 t.text 2 [y,z],kidB 2 [y,z]] hr6 hl hn (by rw [hy]; nofun)) hy
    rw [hy] at hX
    have hr7:=((allS F).expr _ _ _ _ hy).trans hr6
    have hbx : 0 + [y,z].length * 5 = (exF [y,z]).length:=by rw [exF_len]; omega
    obtain ⟨yk,yn,yt,ys,ym⟩:=z2
    refine pa [.d 3 5 [] (fun σ => psB v l r7 e b d n :: σ.tail) [exA (.mk yk yn yt ys ym)]] rfl ?_ ?_
    ·(repeat' with_reducible apply AllP_cons) <;> try exact aC
     exact ⟨_,hS,rfl⟩
    refine S_heap [psB v l r7 e b d n,exO,kidX 9 t.text 3 [y,z,.mk yk yn yt ys ym],kidB 3 [y,z,.mk yk yn yt ys ym]] (kid_snoc _ 9 t.text 3 [y,z] (.mk yk yn yt ys ym)) ?_
    generalize Ex.mk yk yn yt ys ym = z2 at hX
    have hX : X = (mustS [93] r7).bind fun _ r => .ok (.mk 9 0 t.text [y,z,z2] []) r:=hX
    cases hz2 : mustS [93] r7 with
    | out => rw [hz2] at hX; exact absurd hX hne
    | bad j u =>
     rw [hz2] at hX
     exact S_callE rfl rfl rfl (mustT v l r7 e b d n [93] _ hr7 hl) hz2 hX
    | ok _ r9 =>
    have hM9:=PE.ok (mustT v l r7 e b d n [93] [exO,kidX 9 t.text 3 [y,z,z2],kidB 3 [y,z,z2]] hr7 hl) hz2
    rw [hz2] at hX
    refine pB [.f (.tup []) (fun σ => psB v l r9 e b d n :: σ.tail)] rfl ?_
    refine S_ret ⟨_,_,rfl,⟨rfl,trivial⟩,?_⟩
    exact PE.finZ hX (exFz (kidFz (by decide) rfl) .nils)
   ·rw [if_neg c3] at hX
    have hm:=may_no v l r5 e b d n wIf [exO,kidX 9 t.text 2 [y,z],kidB 2 [y,z]] hr5 hl c3
    refine pB [.k (.bool false),.b false] rfl ?_
    cases hz2 : mustS [93] r5 with
    | out => rw [hz2] at hX; exact absurd hX hne
    | bad j u =>
     rw [hz2] at hX
     exact S_callE rfl rfl rfl (mustT v l r5 e b d n [93] _ hr5 hl) hz2 hX
    | ok _ r9 =>
    have hM9:=PE.ok (mustT v l r5 e b d n [93] [exO,kidX 9 t.text 2 [y,z],kidB 2 [y,z]] hr5 hl) hz2
    rw [hz2] at hX
    refine pB [.f (.tup []) (fun σ => psB v l r9 e b d n :: σ.tail)] rfl ?_
    refine S_ret ⟨_,_,rfl,⟨rfl,trivial⟩,?_⟩
    exact PE.finZ hX (exFz (kidFz (by decide) rfl) .nils)
  have hX : X = if isS wFor r1 then _ else itemS F n [y] r1:=hX
  rw [if_neg c2] at hX
  have hm:=may_no v l r1 e b d n wFor [exO,kidX 7 [] 1 [y],kidB 1 [y]] hr1 hl c2
  refine pB [.k (.bool false),.b false] rfl ?_
  refine S_while (α:=ItemSt) (fun q => [(0,.ptr 0 v 0),(2,.ptr 1 0 0),(3,.ptr 2 0 0)]) (fun q => [psB v l q.r e b d n,exO,kidX 7 [] q.w q.ks,kidB q.w q.ks])
   (fun q => q.F ≤ F ∧ q.r <:+ l ∧ itemS q.F n q.ks q.r = X ∧ q.ks.length + q.F ≤ F + 1) (fun q => q.F) ⟨F,[y],r1,1⟩ ⟨Nat.le_refl _,hr1,hX.symm,by show 1 + F ≤ F + 1; omega⟩ (.cons rfl (.cons rfl (.cons rfl (.nil _)))) rfl ?_
  clear hm hX
  rintro ⟨F1,ks,r2,w⟩ ⟨hF1,hr2,hX,hks⟩
  have hF1 : F1 ≤ F:=hF1
  have hr2 : r2 <:+ l:=hr2
  have hX : X = itemS F1 n ks r2:=hX.symm
  have hks : ks.length + F1 ≤ F + 1:=hks
  show S cx _ B _ _ [(0,.ptr 0 v 0),(2,.ptr 1 0 0),(3,.ptr 2 0 0)] [psB v l r2 e b d n,exO,kidX 7 [] w ks,kidB w ks]
  cases F1 with
  | zero => exact absurd hX hne
  | succ F1 =>
  rw [itemS] at hX
  by_cases c7 : isS [93] r2 = true
  ·rw [if_pos c7] at hX
   have hm7:=may_yes v l r2 e b d n [93] [exO,kidX 7 [] w ks,kidB w ks] hr2 hl c7
   refine pB [.f (.bool true) (fun σ => psB v l r2.tail e b d n :: σ.tail),.b false] rfl ?_
   refine S_ret ⟨_,_,rfl,⟨rfl,trivial⟩,?_⟩
   exact PE.finZ hX (exFz (kidFz (by decide) rfl) .nils)
  rw [if_neg c7] at hX
  have hm7:=may_no v l r2 e b d n [93] [exO,kidX 7 [] w ks,kidB w ks] hr2 hl c7
  refine pB [.k (.bool false),.b true] rfl ?_
  cases hz : mustS [44] r2 with
  | out => rw [hz] at hX; exact absurd hX hne
  | bad j u =>
   rw [hz] at hX
   exact S_callE rfl rfl rfl (mustT v l r2 e b d n [44] _ hr2 hl) hz hX
  | ok _ r3 =>
  have hM:=PE.ok (mustT v l r2 e b d n [44] [exO,kidX 7 [] w ks,kidB w ks] hr2 hl) hz
  rw [hz] at hX
  have hX : X = (exprS F1 n r3).bind fun y r => itemS F1 n (ks ++ [y]) r:=hX
  have hr3:=(mustS_s _ _ _ _ hz).trans hr2
  refine pB [.f (.tup []) (fun σ => psB v l r3 e b d n :: σ.tail)] rfl ?_
  have hE:=he F1 (by omega)
  cases hy : exprS F1 n r3 with
  | out => rw [hy] at hX; exact absurd hX hne
  | bad j u =>
   have hS:=hE.tail v l e b d n r3 [exO,kidX 7 [] w ks,kidB w ks] hr3 hl hn (by rw [hy]; nofun)
   rw [hy] at hX
   refine S_drawE 3 [] [] rfl rfl rfl rfl rfl rfl ?_ hS hy hX
   (repeat' with_reducible apply AllP_cons) <;> try exact aC
  | ok z r4 =>
  have hS:=PE.ok (hE.tail v l e b d n r3 [exO,kidX 7 [] w ks,kidB w ks] hr3 hl hn (by rw [hy]; nofun)) hy
  rw [hy] at hX
  have hX : X = itemS F1 n (ks ++ [z]) r4:=hX
  have hr4:=((allS F1).expr _ _ _ _ hy).trans hr3
  have hbx : 0 + ks.length * 5 = (exF ks).length:=by rw [exF_len]; omega
  obtain ⟨yk,yn,yt,ys,ym⟩:=z
  refine pa [.d 3 5 [] (fun σ => psB v l r4 e b d n :: σ.tail) [exA (.mk yk yn yt ys ym)]] rfl ?_ ?_
  ·(repeat' with_reducible apply AllP_cons) <;> try exact aC
   ·exact ⟨_,hS,rfl⟩
   ·show (ks.length + 1) * 80 ≤ 140737488355328
    omega
  refine S_round ⟨F1,ks ++ [.mk yk yn yt ys ym],r4,w + 1⟩ (Nat.lt_succ_self _) ⟨by show F1 ≤ F; omega,hr4,hX.symm,by show (ks ++ [_]).length + F1 ≤ F + 1; rw [List.length_append,List.length_singleton]; omega⟩ (.cons rfl (.cons rfl (.cons rfl (.nil _)))) ?_
  exact kid_snoc _ 7 [] (w + 1) ks (.mk yk yn yt ys ym)
def callX (w : Nat) (ks : List Ex) (u : Nat) (ns : List (List UInt8)) : Nat × Option Box:=(0,some (.cells [.int .i64 10,.int .i64 0,.str [],.ms 3 w 0 ks.length 5 false,.ms 4 u 0 ns.length 1 false] ⟨false,some 54⟩))
def namB (u : Nat) (ns : List (List UInt8)) : Nat × Option Box:=(u,some (.cells (texts ns) ⟨false,none⟩))
structure CallSt where
 F : Nat
 ks : List Ex
 ns : List (List UInt8)
 r : List Tok
 w : Nat
 u : Nat
theorem namFz {k : Nat} {σ : Heap} {id u : Nat} {ns : List (List UInt8)} (hk : k ≤ id) (hb : σ[id]? = some (namB u ns)) : FzT k σ (.ms id u 0 ns.length 1 false) (.sl true false 1 (texts ns)) :=
 .ms1 hk (by unfold boxAt; rw [hb]; rfl) (fun x hx => by obtain ⟨t,_,rfl⟩:=List.mem_map.1 hx; rfl) (by simp [texts]) (fun x hx => Low.free (textsF (st:=false) ns x hx))
theorem call_ok (F : Nat) (hF : F ≤ 900000) (he : ∀ F',F' ≤ F → Cn 53 exprS F') : Cc (F + 1):=fun v l e b d n r x hr hl hn hne =>
 callOk_introT (fun a w => Tryz.call135 a w) Tryz.func135 rfl Tryz.ntmps135 rfl fun B => by
  obtain ⟨X,hX⟩ : ∃ X,X = callS (F + 1) n [x] [] r:=⟨_,rfl⟩
  rw [← hX] at hne ⊢
  obtain ⟨xk,xn,xt,xs,xm⟩:=x
  refine go (M:=[7]) 9 rfl ⟨rfl,trivial⟩ ?_
  refine S_unfull (t:=7) rfl ⟨.skip,_,.inr ⟨_,_,_,rfl⟩⟩ ?_
  refine pB [] rfl ?_
  refine S_ghost (id:=1) (j:=4) 1 ⟨false,none⟩ rfl rfl rfl (Nat.ne_of_lt (lble rfl)) ⟨_,_,.inl rfl⟩ ?_
  refine S_while (α:=CallSt) (fun q => [(0,.ptr 0 v 0),(3,.ptr 1 0 0),(4,.ptr 2 0 0)]) (fun q => [psB v l q.r e b d n,callX q.w q.ks q.u q.ns,exO,kidB q.w q.ks,namB q.u q.ns])
   (fun q => q.F ≤ F + 1 ∧ q.r <:+ l ∧ callS q.F n q.ks q.ns q.r = X ∧ q.ks.length + q.F ≤ F + 2 ∧ q.ns.length + q.F ≤ F + 2) (fun q => q.F) ⟨F + 1,[.mk xk xn xt xs xm],[],r,0,0⟩
   ⟨Nat.le_refl _,hr,hX.symm,by show 1 + (F + 1) ≤ F + 2; omega,by show 0 + (F + 1) ≤ F + 2; omega⟩ (.cons rfl (.cons rfl (.cons rfl (.nil _)))) rfl ?_
  clear hX hr
  rintro ⟨F1,ks,ns,r,w,u⟩ ⟨hF1,hr,hX,hks,hns⟩
  have hF1 : F1 ≤ F + 1:=hF1
  have hr : r <:+ l:=hr
  have hX : X = callS F1 n ks ns r:=hX.symm
  have hks : ks.length + F1 ≤ F + 2:=hks
  have hns : ns.length + F1 ≤ F + 2:=hns
  show S cx _ B _ _ [(0,.ptr 0 v 0),(3,.ptr 1 0 0),(4,.ptr 2 0 0)] [psB v l r e b d n,callX w ks u ns,exO,kidB w ks,namB u ns]
  cases F1 with
  | zero => exact absurd hX hne
  | succ F1 =>
  rw [callS] at hX
  by_cases c1 : isS [41] r = true
  ·rw [if_pos c1] at hX
   have hm:=may_yes v l r e b d n [41] [callX w ks u ns,exO,kidB w ks,namB u ns] hr hl c1
   refine pB [.f (.bool true) (fun σ => psB v l r.tail e b d n :: σ.tail),.b false] rfl ?_
   refine S_ret ⟨_,_,rfl,⟨rfl,trivial⟩,?_⟩
   exact PE.finZ hX (exFz (kidFz (by decide) rfl) (namFz (by decide) rfl))
  rw [if_neg c1] at hX
  have hm:=may_no v l r e b d n [41] [callX w ks u ns,exO,kidB w ks,namB u ns] hr hl c1
  cases hmm : (if ks.length > 1 then mustS [44] r else (.ok () r : Pr Unit)) with
  | out => rw [hmm] at hX; exact absurd hX hne
  | bad j w2 =>
   rw [hmm] at hX
   have hk0 : ks.length > 1:=by
    by_cases h : ks.length > 1
    ·exact h
    ·rw [if_neg h] at hmm; cases hmm
   rw [if_pos hk0] at hmm
   refine pB [.k (.bool false),.b true,.b true] rfl ?_
   exact S_callE rfl rfl rfl (mustT v l r e b d n [44] _ hr hl) hmm hX
  | ok _ r3 =>
  rw [hmm] at hX
  have hX : X = if nameS r3 then (if ns.contains (hdT r3) then .bad 6 r3 else (exprS F1 n r3.tail.tail).bind fun y r' => callS F1 n (ks ++ [y]) (ns ++ [hdT r3]) r')
   else if ns.length > 0 then .bad 1 r3 else (exprS F1 n r3).bind fun y r => callS F1 n (ks ++ [y]) ns r:=hX
  have hr3 : r3 <:+ l:=by
   by_cases h : ks.length > 1
   ·rw [if_pos h] at hmm; exact (mustS_s _ _ _ _ hmm).trans hr
   ·rw [if_neg h] at hmm; cases hmm; exact hr
  refine' S_share [(0,.ptr 0 v 0),(3,.ptr 1 0 0),(4,.ptr 2 0 0)] [psB v l r3 e b d n,callX w ks u ns,exO,kidB w ks,namB u ns] (fun cont => ?main) ?rest
  case main =>
   by_cases h : ks.length > 1
   ·rw [if_pos h] at hmm
    have hM:=PE.ok (mustT v l r e b d n [44] [callX w ks u ns,exO,kidB w ks,namB u ns] hr hl) hmm
    refine pB [.k (.bool false),.b true,.b true,.f (.tup []) (fun σ => psB v l r3 e b d n :: σ.tail)] rfl ?_
    exact cont _ (.cons rfl (.cons rfl (.cons rfl (.nil _))))
   ·rw [if_neg h] at hmm
    cases hmm
    refine pB [.k (.bool false),.b true,.b false] rfl ?_
    exact cont _ (.cons rfl (.cons rfl (.cons rfl (.nil _))))
  case rest =>
  clear hmm hm c1 hr
  have hk:=kindT v l r3 e b d n [callX w ks u ns,exO,kidB w ks,namB u ns] hr3 hl
  have hml : (l.map tokA).length = l.length:=by simp
  refine' S_shareG (ι:=CallSt) [(0,.ptr 0 v 0),(3,.ptr 1 0 0),(4,.ptr 2 0 0)] (fun q => [psB v l q.r e b d n,callX w ks q.u q.ns,exO,kidB w ks,namB q.u q.ns])
   (fun q => q.r <:+ l ∧ q.ns.length + F1 ≤ F + 2 ∧ X = (exprS F1 n q.r).bind fun y r => callS F1 n (ks ++ [y]) q.ns r) (fun cont => ?main) ?rest
  case main =>
   by_cases c2 : nameS r3 = true
   ·rw [if_pos c2] at hX
    obtain ⟨t,t2,u4,rfl⟩ : ∃ t t2 u4,r3 = t :: t2 :: u4:=by
     match r3,c2 with
     | [],h => simp [nameS,hdK] at h
     | [t],h => simp [nameS,hdK] at h
     | t :: t2 :: u4,_ => exact ⟨t,t2,u4,rfl⟩
    have c2' : ((t.kind == 1) && (t2.kind == 4) && (t2.text == [61])) = true:=c2
    simp only [Bool.and_eq_true] at c2'
    obtain ⟨⟨k1,k4⟩,e5⟩:=c2'
    have k1 : t.kind = 1:=beq_iff_eq.1 k1
    have k4 : t2.kind = 4:=beq_iff_eq.1 k4
    have e1 : (((hdK (t :: t2 :: u4) : Nat) : Int) == 1) = true:=by rw [show hdK (t :: t2 :: u4) = t.kind from rfl,k1]; rfl
    have hw:=suf_next hr3 hl
    have hr4:=suf_tail hr3
    have hr5:=suf_tail hr4
    have hg1:=suf_get hr3
    have hg2 : (l.map tokA)[(IntKind.i64.wrap (((l.length - (t :: t2 :: u4).length : Nat) : Int) + 1)).toNat]? = some (tokA t2):=by
     rw [hw]; exact suf_get hr4
    have h0 : (0 : Int) ≤ IntKind.i64.wrap (((l.length - (t :: t2 :: u4).length : Nat) : Int) + 1):=by rw [hw]; omega
    have e2 : decide (IntKind.i64.wrap (((l.length - (t :: t2 :: u4).length : Nat) : Int) + 1) < (((l.map tokA).length : Nat) : Int)) = true:=by
     have:=suf_lt hr4
     rw [hw,hml]; exact decide_eq_true (by omega)
    have e4 : ((t2.kind : Int) == 4) = true:=by rw [k4]; rfl
    have e6 : (!(t2.text == [61])) = false:=by rw [e5]; rfl
    have hw2 : IntKind.i64.wrap (((l.length - (t :: t2 :: u4).length : Nat) : Int) + 2) = ((l.length - u4.length : Nat) : Int):=by
     have:=hr3.length_le
     simp only [List.length_cons] at this ⊢
     rw [IntWalk.i64_in _ ⟨by omega,by omega⟩]; omega
    have hX : X = if ns.contains t.text then .bad 6 (t :: t2 :: u4) else (exprS F1 n u4).bind fun y r' => callS F1 n (ks ++ [y]) (ns ++ [t.text]) r':=hX
    have hCo:=ContainsS_ok (st:=false) (fl:=false) ns t.text (by omega)
    have hFz : Frzs [psB v l (t :: t2 :: u4) e b d n,callX w ks u ns,exO,kidB w ks,namB u ns] [.ms 4 u 0 ns.length 1 false,.str t.text] [.sl false false 1 (texts ns),.str t.text]:=.cons (.ms1 rfl (fun x hx => by obtain ⟨y,_,rfl⟩:=List.mem_map.1 hx; rfl) (texts_len ns) (textsF ns)) (.cons (.refl .str) (.nil _))
    by_cases c3 : t.text ∈ ns
    ·rw [if_pos (by simpa using c3)] at hX
     rw [decide_eq_true c3] at hCo
     refine pa [.k (.int .i64 (hdK (t :: t2 :: u4) : Nat)),.b true,.b true,.v (tokA t2),.b true,.v (tokA t2),.b false,.b false,.b true,.v (tokA t),.v (.bool true),.b true] rfl ?_ ?_
     ·(repeat' with_reducible apply AllP_cons) <;> try exact aC
      exact ⟨_,hCo,hFz⟩
     exact S_callE rfl rfl rfl (failT uA v l _ e b d n 6 _ hr3 hl) rfl hX
    ·rw [if_neg (by simpa using c3)] at hX
     rw [decide_eq_false c3] at hCo
     have hbx : 0 + ns.length * 1 = (texts ns).length:=by rw [texts_len]; omega
     refine pa [.k (.int .i64 (hdK (t :: t2 :: u4) : Nat)),.b true,.b true,.v (tokA t2),.b true,.v (tokA t2),.b false,.b false,.b true,.v (tokA t),.v (.bool false),.b false,.v (tokA t)] rfl ?_ ?_
     ·(repeat' with_reducible apply AllP_cons) <;> try exact aC
      ·exact ⟨_,hCo,hFz⟩
      ·show (ns.length + 1) * 16 ≤ 140737488355328
       omega
     refine S_heap [psB v l u4 e b d n,callX w ks (u + 1) (ns ++ [t.text]),exO,kidB w ks,namB (u + 1) (ns ++ [t.text])] ?_ ?_
     ·show [psI v l (IntKind.i64.wrap (((l.length - (t :: t2 :: u4).length : Nat) : Int) + 2)) e b d n,(0,some (.cells [.int .i64 10,.int .i64 0,.str [],.ms 3 w 0 ks.length 5 false,.ms 4 (u + 1) 0 (ns.length + 1) 1 false] ⟨false,some 54⟩)),exO,kidB w ks,(u + 1,some (.cells (texts ns ++ [.str t.text]) ⟨false,none⟩))] = _
      rw [hw2]
      unfold callX namB
      rw [List.length_append,show texts (ns ++ [t.text]) = texts ns ++ [.str t.text] by simp [texts]]; rfl
     exact cont ⟨0,[],ns ++ [t.text],u4,0,u + 1⟩ _ ⟨hr5,by show (ns ++ [_]).length + F1 ≤ F + 2; rw [List.length_append,List.length_singleton]; omega,hX⟩ (.cons rfl (.cons rfl (.cons rfl (.nil _))))
   rw [if_neg c2] at hX
   refine' S_shareR [(0,.ptr 0 v 0),(3,.ptr 1 0 0),(4,.ptr 2 0 0),(5,.bool false),(66,.bool true)] [psB v l r3 e b d n,callX w ks u ns,exO,kidB w ks,namB u ns] (fun cont2 => ?main2) ?rest2
   case main2 =>
    by_cases k1 : hdK r3 = 1
    ·obtain ⟨t,u3,rfl⟩ : ∃ t u3,r3 = t :: u3:=by
      cases r3 with
      | nil => cases k1
      | cons t u3 => exact ⟨t,u3,rfl⟩
     have e1 : (((hdK (t :: u3) : Nat) : Int) == 1) = true:=by rw [k1]; rfl
     have hw:=suf_next hr3 hl
     cases u3 with
     | nil =>
      have e2 : decide (IntKind.i64.wrap (((l.length - [t].length : Nat) : Int) + 1) < (((l.map tokA).length : Nat) : Int)) = false:=by
       rw [hw,hml]; exact decide_eq_false (by simp)
      refine pB [.k (.int .i64 (hdK [t] : Nat)),.b true,.b false,.b false] rfl ?_
      exact cont2 _ (.cons rfl (.cons rfl (.cons rfl (.cons rfl (.cons rfl (.nil _))))))
     | cons t2 u4 =>
      have hr4:=suf_tail hr3
      have hg2 : (l.map tokA)[(IntKind.i64.wrap (((l.length - (t :: t2 :: u4).length : Nat) : Int) + 1)).toNat]? = some (tokA t2):=by
       rw [hw]; exact suf_get hr4
      have h0 : (0 : Int) ≤ IntKind.i64.wrap (((l.length - (t :: t2 :: u4).length : Nat) : Int) + 1):=by rw [hw]; omega
      have e2 : decide (IntKind.i64.wrap (((l.length - (t :: t2 :: u4).length : Nat) : Int) + 1) < (((l.map tokA).length : Nat) : Int)) = true:=by
       have:=suf_lt hr4
       rw [hw,hml]; exact decide_eq_true (by omega)
      by_cases k4 : t2.kind = 4
      ·have e4 : ((t2.kind : Int) == 4) = true:=by rw [k4]; rfl
       have e5 : (t2.text == [61]) = false:=by
        cases hh : (t2.text == [61]) with
        | false => rfl
        | true => exact absurd (by unfold nameS; rw [k1]; show (true && (t2.kind == 4) && (t2.text == [61])) = true; rw [k4,hh]; rfl) c2
       refine pB [.k (.int .i64 (hdK (t :: t2 :: u4) : Nat)),.b true,.b true,.v (tokA t2),.b true,.v (tokA t2)] rfl ?_
       exact cont2 _ (.cons rfl (.cons rfl (.cons rfl (.cons (by show AV.bool (t2.text == [61]) = _; rw [e5]) (.cons (by show AV.bool (!(t2.text == [61])) = _; rw [e5]; rfl) (.nil _))))))
      ·have e4 : ((t2.kind : Int) == 4) = false:=beq_false_of_ne (by omega)
       refine pB [.k (.int .i64 (hdK (t :: t2 :: u4) : Nat)),.b true,.b true,.v (tokA t2),.b false] rfl ?_
       exact cont2 _ (.cons rfl (.cons rfl (.cons rfl (.cons rfl (.cons rfl (.nil _))))))
    ·have e1 : (((hdK r3 : Nat) : Int) == 1) = false:=beq_false_of_ne (by omega)
     refine pB [.k (.int .i64 (hdK r3 : Nat)),.b false,.b false,.b false] rfl ?_
     exact cont2 _ (.cons rfl (.cons rfl (.cons rfl (.cons rfl (.cons rfl (.nil _))))))
   case rest2 =>
    by_cases c3 : ns.length > 0
    ·rw [if_pos c3] at hX
     refine pB [.b true,.b true] rfl ?_
     exact S_callE rfl rfl rfl (failT uA v l r3 e b d n 1 _ hr3 hl) rfl hX
    ·rw [if_neg c3] at hX
     refine pB [.b true,.b false,.b false] rfl ?_
     exact cont ⟨0,[],ns,r3,0,u⟩ _ ⟨hr3,by show ns.length + F1 ≤ F + 2; omega,hX⟩ (.cons rfl (.cons rfl (.cons rfl (.nil _))))
  case rest =>
   rintro ⟨_,_,ns2,r4,_,u2⟩ ⟨hr4,hns2,hX⟩
   have hr4 : r4 <:+ l:=hr4
   have hns2 : ns2.length + F1 ≤ F + 2:=hns2
   have hX : X = (exprS F1 n r4).bind fun y r => callS F1 n (ks ++ [y]) ns2 r:=hX
   show S cx _ B _ _ [(0,.ptr 0 v 0),(3,.ptr 1 0 0),(4,.ptr 2 0 0)] [psB v l r4 e b d n,callX w ks u2 ns2,exO,kidB w ks,namB u2 ns2]
   have hE:=he F1 (by omega)
   cases hy : exprS F1 n r4 with
   | out => rw [hy] at hX; exact absurd hX hne
   | bad j w2 =>
    have hS:=hE.tail v l e b d n r4 [callX w ks u2 ns2,exO,kidB w ks,namB u2 ns2] hr4 hl hn (by rw [hy]; nofun)
    rw [hy] at hX
    refine S_drawE 3 [] [] rfl rfl rfl rfl rfl rfl ?_ hS hy hX
    (repeat' with_reducible apply AllP_cons) <;> try exact aC
   | ok z r5 =>
    have hS:=PE.ok (hE.tail v l e b d n r4 [callX w ks u2 ns2,exO,kidB w ks,namB u2 ns2] hr4 hl hn (by rw [hy]; nofun)) hy
    rw [hy] at hX
    have hX : X = callS F1 n (ks ++ [z]) ns2 r5:=hX
    have hr5:=((allS F1).expr _ _ _ _ hy).trans hr4
    have hbx : 0 + ks.length * 5 = (exF ks).length:=by rw [exF_len]; omega
    obtain ⟨yk,yn,yt,ys,ym⟩:=z
    refine pa [.d 3 5 [] (fun σ => psB v l r5 e b d n :: σ.tail) [exA (.mk yk yn yt ys ym)]] rfl ?_ ?_
    ·(repeat' with_reducible apply AllP_cons) <;> try exact aC
     ·exact ⟨_,hS,rfl⟩
     ·show (ks.length + 1) * 80 ≤ 140737488355328
      omega
    refine S_round ⟨F1,ks ++ [.mk yk yn yt ys ym],ns2,r5,w + 1,u2⟩ (Nat.lt_succ_self _) ⟨by show F1 ≤ F + 1; omega,hr5,hX.symm,by show (ks ++ [_]).length + F1 ≤ F + 2; rw [List.length_append,List.length_singleton]; omega,hns2⟩ (.cons rfl (.cons rfl (.cons rfl (.nil _)))) ?_
    show _ = [psB v l r5 e b d n,callX (w + 1) (ks ++ [.mk yk yn yt ys ym]) u2 ns2,exO,kidB (w + 1) (ks ++ [.mk yk yn yt ys ym]),namB u2 ns2]
    unfold callX kidB
    rw [exF_snoc,List.length_append]; rfl
structure AllC (F : Nat) : Prop where
 expr : Cn 53 exprS F
 e1 : Ccl 85 (fun F => levS F 0) F
 e11 : Ccl 87 (fun F => levS F 1) F
 not : Cn 88 (fun F => levS F 2) F
 sum : Cn 118 (fun F => levS F 3) F
 s1 : Ccl 126 (fun F => levS F 4) F
 unary : Cn 127 (fun F => levS F 5) F
 atom : Cn 134 atomS F
 list : Cn 142 listS F
 call : Cc F
theorem allC (F : Nat) : F ≤ 900000 → ∀ F',F' ≤ F → AllC F':=by
 induction F with
 | zero =>
  intro _ F' h
  obtain rfl : F' = 0:=by omega
  exact ⟨fun _ _ _ _ _ _ _ _ _ _ h => absurd rfl h,fun _ _ _ _ _ _ _ _ _ _ _ h => absurd rfl h,fun _ _ _ _ _ _ _ _ _ _ _ h => absurd rfl h,fun _ _ _ _ _ _ _ _ _ _ h => absurd rfl h,fun _ _ _ _ _ _ _ _ _ _ h => absurd rfl h,
   fun _ _ _ _ _ _ _ _ _ _ _ h => absurd rfl h,fun _ _ _ _ _ _ _ _ _ _ h => absurd rfl h,fun _ _ _ _ _ _ _ _ _ _ h => absurd rfl h,fun _ _ _ _ _ _ _ _ _ _ h => absurd rfl h,fun _ _ _ _ _ _ _ _ _ _ _ h => absurd rfl h⟩
 | succ F ih =>
  intro hF F' h
  rcases Nat.lt_or_ge F' (F + 1) with h' | h'
  ·exact ih (by omega) F' (by omega)
  obtain rfl : F' = F + 1:=by omega
  have ih:=ih (by omega)
  have hF : F ≤ 900000:=by omega
  have ihF:=ih F (Nat.le_refl _)
  exact ⟨expr_ok F ihF.e1,expr1_ok F fun F' h => (ih F' h).e11,expr11_ok F fun F' h => (ih F' h).not,not_ok F ihF.not ihF.sum,sum_ok F fun F' h => (ih F' h).s1,sum1_ok F fun F' h => (ih F' h).unary,
   unary_ok F ihF.unary ihF.atom (fun F' h => (ih F' h).call) (fun F' h => (ih F' h).expr),atom_ok F (by omega) (fun F' h => (ih F' h).expr) ihF.list,list_ok F (by omega) (fun F' h => (ih F' h).expr),call_ok F hF (fun F' h => (ih F' h).expr)⟩
theorem exprT (F : Nat) (hF : F ≤ 900000) (v : Nat) (l : List Tok) (e b d n : Nat) (r : List Tok) (τ : Heap) (hr : r <:+ l) (hl : l.length ≤ 100000) (hn : n ≤ 30) (hne : exprS F n r ≠ .out) :
  CallOk cx 53 [.ptr 0 v 0] (psB v l r e b d n :: τ) (PE exA v l e b d n (exprS F n r) τ) :=
 (allC F hF F (Nat.le_refl _)).expr.tail v l e b d n r τ hr hl hn hne
section
section
variable {N : Nat} {B : Bs} {k : List AI} {fr : Fr} {σ : Heap}
theorem S_callB {α β : Type} {A : α → AV} {A' : β → AV} {fn : Func} {all : Array Oper} {o : Oper} {L : List Oper} {K : List Nat} {f : FuncId} {args : List AV} {v : Nat} {l : List Tok} {e b d n b1 d1 n1 : Nat} {x : Pr α} {X : Pr β} {f0 : α → List Tok → Pr β} {τ : Heap}
  (hg : guardA all o K fr = some true) (hc : callA cx fr o.op = some (f,args)) (hd : dstOk N o.dst = true) (hcall : CallOk cx f args σ (PE A v l e b d n x τ)) (hX : X = x.bind f0) (hne : X ≠ .out)
  (hk : ∀ y u,x = .ok y u → X = f0 y u → S cx N B (.ops all L K :: k) (retQ cx fn (TR 1 (PE A' v l e b1 d1 n1 X []))) (setA o.dst (A y) fr) (psB v l u e b d n :: τ)) :
  S cx N B (.ops all (o :: L) K :: k) (retQ cx fn (TR 1 (PE A' v l e b1 d1 n1 X []))) fr σ:=by
 cases hx : x with
 | out => rw [hx] at hX; exact absurd hX hne
 | bad j u => rw [hx] at hX; exact S_callE hg hc hd hcall hx hX
 | ok y u =>
  refine S_call hg hc hd (PE.ok hcall hx) (fun v s h => ?_) (fun w s h => by cases h.1)
  obtain ⟨h1,rfl⟩:=h
  cases h1
  exact hk y u hx (by rw [hX,hx]; rfl)
theorem S_callB2 {α β : Type} {A : α → AV} {A' : β → AV} {fn : Func} {all : Array Oper} {o : Oper} {L : List Oper} {K : List Nat} {f : FuncId} {args : List AV} {v : Nat} {l : List Tok} {e b d n b1 d1 n1 : Nat} {x : Pr α} {X : Pr β} {f0 : α → List Tok → Pr β} {y0 : Nat × Option Box} {τ : Heap} (hy : Yok y0)
  (hg : guardA all o K fr = some true) (hc : callA cx fr o.op = some (f,args)) (hd : dstOk N o.dst = true) (hcall : CallOk cx f args σ (PE A v l e b d n x (y0 :: τ))) (hX : X = x.bind f0) (hne : X ≠ .out)
  (hk : ∀ y u,x = .ok y u → X = f0 y u → S cx N B (.ops all L K :: k) (retQ cx fn (TR 2 (PE A' v l e b1 d1 n1 X [y0]))) (setA o.dst (A y) fr) (psB v l u e b d n :: y0 :: τ)) :
  S cx N B (.ops all (o :: L) K :: k) (retQ cx fn (TR 2 (PE A' v l e b1 d1 n1 X [y0]))) fr σ:=by
 cases hx : x with
 | out => rw [hx] at hX; exact absurd hX hne
 | bad j u => rw [hx] at hX; exact S_callE2 hy hg hc hd hcall hx hX
 | ok y u =>
  refine S_call hg hc hd (PE.ok hcall hx) (fun v s h => ?_) (fun w s h => by cases h.1)
  obtain ⟨h1,rfl⟩:=h
  cases h1
  exact hk y u hx (by rw [hX,hx]; rfl)
end
theorem PE.finZ2 {α : Type} {A : α → AV} {v : Nat} {l r : List Tok} {e b d n : Nat} {X : Pr α} {x : α} {z : AV} {y : Nat × Option Box} {τ : Heap} (hy : Yok y) (hX : X = .ok x r) (hA : FzT 2 (psB v l r e b d n :: y :: τ) z (A x)) : TR 2 (PE A v l e b d n X [y]) (.ret z) (psB v l r e b d n :: y :: τ):=by
 subst hX
 exact ⟨2,Nat.le_refl _,psY_low _ _ _ _ _ _ _ hy _,A x,hA,rfl,rfl⟩
def stsA (l : List St) : AV:=.sl true false 10 (stL l)
theorem stsA_free {st : Bool} (l : List St) : Free st (stsA l):=.sl (fun _ => rfl) (stL_free l)
def stF (l : List St) : List AV:=(stL l).flatMap AV.cells
theorem stA_cells (x : St) : (stA x).cells.length = 10:=by
 obtain ⟨k,t,ns,x,b,e⟩:=x
 obtain ⟨_,_,_,_,_⟩:=x
 rfl
theorem stL_len (l : List St) : (stL l).length = l.length:=by rw [stL_map]; simp
theorem stL_sz (l : List St) : ∀ x ∈ stL l,x.cells.length = 10:=by
 intro x hx; rw [stL_map] at hx; obtain ⟨y,_,rfl⟩:=List.mem_map.1 hx; exact stA_cells y
theorem stF_len (l : List St) : (stF l).length = l.length * 10:=by
 unfold stF
 induction l with
 | nil => rfl
 | cons x r ih => rw [stL,List.flatMap_cons,List.length_append,ih,stA_cells,List.length_cons]; omega
theorem stF_snoc (l : List St) (y : St) : stF (l ++ [y]) = stF l ++ (stA y).cells:=by
 unfold stF; rw [stL_map,stL_map,List.map_append,List.flatMap_append]; simp
def stB (w : Nat) (l : List St) : Nat × Option Box:=(w,some (.cells (stF l) ⟨false,none⟩))
theorem stFz {k : Nat} {σ : Heap} {id w : Nat} {l : List St} (hk : k ≤ id) (hb : σ[id]? = some (stB w l)) : FzT k σ (.ms id w 0 l.length 10 false) (stsA l) :=
 .msN hk (by unfold boxAt; rw [hb]; rfl) (stL_sz l) (stL_len l) (fun x hx => Low.free (stL_free (st:=false) l x hx))
def Cs (f : FuncId) (x : Nat → Nat → Nat → List Tok → Pr St) (F : Nat) : Prop:=∀ (v : Nat) (l : List Tok) (e b d : Nat) (r : List Tok),r <:+ l → l.length ≤ 100000 → (∀ t ∈ l,t.text.length ≤ 6000) → b + F ≤ 2000000 → d + F ≤ 2000000 → x F b d r ≠ .out →
 CallOk cx f [.ptr 0 v 0] (psH v l r e b d 0) (PE stA v l e b d 0 (x F b d r) [])
def Cb (F : Nat) : Prop:=∀ (v : Nat) (l : List Tok) (e b d : Nat) (r : List Tok),r <:+ l → l.length ≤ 100000 → (∀ t ∈ l,t.text.length ≤ 6000) → b + F ≤ 2000000 → d + F ≤ 2000000 → blockS F b d r ≠ .out →
 CallOk cx 54 [.ptr 0 v 0] (psH v l r e b d 0) (PE stsA v l e b d 0 (blockS F b d r) [])
theorem Cs.tail {f : FuncId} {x : Nat → Nat → Nat → List Tok → Pr St} {F : Nat} (h : Cs f x F) (v : Nat) (l : List Tok) (e b d : Nat) (r : List Tok) (τ : Heap) (hr : r <:+ l) (hl : l.length ≤ 100000) (hT : ∀ t ∈ l,t.text.length ≤ 6000) (hb : b + F ≤ 2000000) (hd : d + F ≤ 2000000) (hne : x F b d r ≠ .out) :
  CallOk cx f [.ptr 0 v 0] (psB v l r e b d 0 :: τ) (PE stA v l e b d 0 (x F b d r) τ) :=
 PE.tail τ (h v l e b d r hr hl hT hb hd hne) hne (arg0_rn v [] (by simp)) stA_free
theorem Cb.tail {F : Nat} (h : Cb F) (v : Nat) (l : List Tok) (e b d : Nat) (r : List Tok) (τ : Heap) (hr : r <:+ l) (hl : l.length ≤ 100000) (hT : ∀ t ∈ l,t.text.length ≤ 6000) (hb : b + F ≤ 2000000) (hd : d + F ≤ 2000000) (hne : blockS F b d r ≠ .out) :
  CallOk cx 54 [.ptr 0 v 0] (psB v l r e b d 0 :: τ) (PE stsA v l e b d 0 (blockS F b d r) τ) :=
 PE.tail τ (h v l e b d r hr hl hT hb hd hne) hne (arg0_rn v [] (by simp)) stsA_free
def atEnd (top : Bool) (r : List Tok) : Bool:=if top then r.isEmpty else hdK r == 8
structure StsSt where
 F : Nat
 l : List St
 r : List Tok
 w : Nat
theorem stmts_ok (F : Nat) (hF : F ≤ 900000) (top : Bool) (g : FuncId) (hs : ∀ F',F' ≤ F → Cs 36 stmtS F') (q v : Nat) (l : List Tok) (e b d : Nat) (r : List Tok) (hr : r <:+ l) (hl : l.length ≤ 100000) (hT : ∀ t ∈ l,t.text.length ≤ 6000) (hb : b + F ≤ 2000000) (hd : d + F ≤ 2000000)
  (hm : ∀ r τ,r <:+ l → CallOk cx g [.ptr 1 q 0] (psB v l r e b d 0 :: qB q v :: τ) (fun o σ => o = .ret (.bool (!atEnd top r)) ∧ σ = psB v l r e b d 0 :: qB q v :: τ)) (hne : stmtsS F top b d [] r ≠ .out) :
  CallOk cx 21 [.ptr 0 v 0,.func (.func g) [] [.ptr 1 q 0]] [psB v l r e b d 0,qB q v] (PE stsA v l e b d 0 (stmtsS F top b d [] r) [qB q v]) :=
 callOk_introT (fun a w => Tryz.call21 a w) Tryz.func21 rfl Tryz.ntmps21 rfl fun B => by
  obtain ⟨X,hX⟩ : ∃ X,X = stmtsS F top b d [] r:=⟨_,rfl⟩
  rw [← hX] at hne ⊢
  refine pB [] rfl ?_
  refine S_ghostF (t:=5) 10 ⟨false,none⟩ rfl rfl ⟨_,_,.inl rfl⟩ ?_
  refine S_while (α:=StsSt) (fun p => [(0,.ptr 0 v 0),(1,.func (.func g) [] [.ptr 1 q 0]),(5,.ms 2 p.w 0 p.l.length 10 false)]) (fun p => [psB v l p.r e b d 0,qB q v,stB p.w p.l])
   (fun p => p.F ≤ F ∧ p.r <:+ l ∧ stmtsS p.F top b d p.l p.r = X ∧ p.l.length + p.F ≤ F) (fun p => p.F) ⟨F,[],r,0⟩ ⟨Nat.le_refl _,hr,hX.symm,by show 0 + F ≤ F; omega⟩ (.cons rfl (.cons rfl (.cons rfl (.nil _)))) rfl ?_
  clear hX hr
  rintro ⟨F1,ls,r1,w⟩ ⟨hF1,hr1,hX,hls⟩
  have hF1 : F1 ≤ F:=hF1
  have hr1 : r1 <:+ l:=hr1
  have hX : X = stmtsS F1 top b d ls r1:=hX.symm
  have hls : ls.length + F1 ≤ F:=hls
  show S cx _ B _ _ [(0,.ptr 0 v 0),(1,.func (.func g) [] [.ptr 1 q 0]),(5,.ms 2 w 0 ls.length 10 false)] [psB v l r1 e b d 0,qB q v,stB w ls]
  cases F1 with
  | zero => exact absurd hX hne
  | succ F1 =>
  have hX : X = if atEnd top r1 then .ok ls r1 else (stmtS F1 b d r1).bind fun s r => stmtsS F1 top b d (ls ++ [s]) r:=hX
  have hm:=hm r1 [stB w ls] hr1
  by_cases c : atEnd top r1 = true
  ·rw [if_pos c] at hX
   rw [c] at hm
   refine pB [.k (.bool false),.b false] rfl ?_
   refine S_ret ⟨_,_,rfl,trivial,?_⟩
   exact PE.finZ2 (qB_ok q v) hX (stFz (by decide) rfl)
  ·rw [if_neg c] at hX
   rw [(Bool.not_eq_true _).mp c] at hm
   refine pB [.k (.bool true),.b true] rfl ?_
   have hne2 : stmtS F1 b d r1 ≠ .out:=fun h => by rw [h] at hX; exact hne hX
   refine S_callB2 (qB_ok q v) rfl rfl rfl ((hs F1 (by omega)).tail v l e b d r1 [qB q v,stB w ls] hr1 hl hT (by omega) (by omega) hne2) hX hne fun s u hx hX => ?_
   have hu:=((allW F1).stmt _ _ _ _ _ hx).trans hr1
   have hbx : 0 + ls.length * 10 = (stF ls).length:=by rw [stF_len]; omega
   obtain ⟨sk,st,sn,⟨xk,xn,xt,xs,xm⟩,sb,se⟩:=s
   refine pa [] rfl ?_ ?_
   ·(repeat' with_reducible apply AllP_cons) <;> try exact aC
    show (ls.length + 1) * 176 ≤ 140737488355328
    omega
   refine S_round ⟨F1,ls ++ [.mk sk st sn (.mk xk xn xt xs xm) sb se],u,w + 1⟩ (Nat.lt_succ_self _) ⟨by show F1 ≤ F; omega,hu,hX.symm,by show (ls ++ [_]).length + F1 ≤ F; rw [List.length_append,List.length_singleton]; omega⟩ ?_ ?_
   ·refine .cons rfl (.cons rfl (.cons ?_ (.nil _)))
    show AV.ms 2 (w + 1) 0 (ls.length + 1) 10 false = .ms 2 (w + 1) 0 (ls ++ [_]).length 10 false
    rw [List.length_append]; rfl
   ·show _ = [psB v l u e b d 0,qB q v,stB (w + 1) (ls ++ [.mk sk st sn (.mk xk xn xt xs xm) sb se])]
    unfold stB
    rw [stF_snoc]; rfl
end
section
section
variable {P : Tok → Prop} {s : List UInt8}
theorem all_line (h1 : ∀ i o t j o',i < s.length → oneS s i o = .inr (t,j,o') → P t) (h6 : ∀ i,P (tokLine i)) :
  ∀ (f : Nat) {i o k : Nat} {out out' : List Tok},i ≤ s.length → lineF f s i o out = .inr (k,out') → (∀ t ∈ out,P t) → ∀ t ∈ out',P t
 | 0,i,o,k,out,out',hi,h,hq => by cases h
 | f + 1,i,o,k,out,out',hi,h,hq => by
  rw [lineF] at h
  split at h
  ·rename_i hc
   split at h
   ·exact all_line h1 h6 f (gapC_le (by omega)).2 h hq
   ·split at h
    ·cases h
    ·rename_i t j o' hx
     have hb:=oneS_le hc.1 hx
     refine all_line h1 h6 f (gapC_le (by omega)).2 h (fun t' ht => ?_)
     rcases List.mem_append.1 ht with ht | ht
     ·exact hq _ ht
     ·simp at ht; rw [ht]; exact h1 _ _ _ _ _ hc.1 hx
  ·split at h
   ·cases h
   ·cases h
    intro t' ht
    rcases List.mem_append.1 ht with ht | ht
    ·exact hq _ ht
    ·simp at ht; rw [ht]; exact h6 _
theorem all_fur (h7 : ∀ i,P (tokIn i)) (h8 : ∀ i,P (tokOut i)) {n i : Nat} {ins ins' : List Nat} {l : List Tok} (h : furS n i ins = .inr (ins',l)) : ∀ t ∈ l,P t:=by
 unfold furS at h
 split at h
 ·split at h
  ·cases h
  ·cases h
   intro t ht; simp at ht; rw [ht]; exact h7 _
 ·split at h
  ·cases h
   intro t ht
   rw [List.eq_of_mem_replicate ht]; exact h8 _
  ·cases h
theorem all_all (h1 : ∀ i o t j o',i < s.length → oneS s i o = .inr (t,j,o') → P t) (h6 : ∀ i,P (tokLine i)) (h7 : ∀ i,P (tokIn i)) (h8 : ∀ i,P (tokOut i)) :
  ∀ (f : Nat) {i : Nat} {ins : List Nat} {out l : List Tok},i ≤ s.length → allF f s i ins out = .inr l → (∀ t ∈ out,P t) → ∀ t ∈ l,P t
 | 0,i,ins,out,l,hi,h,hq => by cases h
 | f + 1,i,ins,out,l,hi,h,hq => by
  rw [allF] at h
  have hg:=gapC_le hi
  have app : ∀ {l' : List Tok},(∀ t ∈ l',P t) → ∀ t ∈ out ++ l',P t:=fun hl t ht => (List.mem_append.1 ht).elim (hq t) (hl t)
  split at h
  ·split at h
   ·cases h
   ·rename_i hx; cases h; exact app (all_fur h7 h8 hx)
  ·split at h
   ·exact all_all h1 h6 h7 h8 f (by omega) h hq
   ·split at h
    ·cases h
    ·rename_i hx
     split at h
     ·cases h
     ·rename_i hy
      exact all_all h1 h6 h7 h8 f (lineF_le _ hg.2 hy).2.1 h (all_line h1 h6 _ hg.2 hy (app (all_fur h7 h8 hx)))
theorem splitS_all (h1 : ∀ i o t j o',i < s.length → oneS s i o = .inr (t,j,o') → P t) (h6 : ∀ i,P (tokLine i)) (h7 : ∀ i,P (tokIn i)) (h8 : ∀ i,P (tokOut i)) : ∀ t ∈ (splitS s).1,P t:=by
 unfold splitS
 split
 ·intro t ht; cases ht
 ·split
  ·intro t ht; cases ht
  ·rename_i h; exact all_all h1 h6 h7 h8 _ (Nat.zero_le _) h (fun t ht => by cases ht)
end
theorem splitS_size (s : List UInt8) : (splitS s).1.length ≤ 24040:=by
 have key : ∀ (f : Nat) (i : Nat) (ins : List Nat) (out l : List Tok),s.length ≤ 6000 → i ≤ s.length → Insok ins → ins.length ≤ 31 → out.length + ins.length ≤ 4 * i + 1 → allF f s i ins out = .inr l → l.length ≤ 4 * s.length + 40:=by
  intro f
  induction f with
  | zero => intro i ins out l hs hi h2 h3 h4 h; cases h
  | succ f ih =>
   intro i ins out l hs hi h2 h3 h4 h
   rw [allF] at h
   have hg:=gapC_le (s:=s) (i:=i) hi
   split at h
   ·rw [furS_zero h2] at h
    cases h
    simp; omega
   ·rename_i hge
    split at h
    ·exact ih (gapC s i + 1) ins out l hs (by omega) h2 h3 (by omega) h
    ·split at h
     ·cases h
     ·rename_i ins' l' hx
      obtain ⟨k1,k2,k3,k4⟩:=furS_ok h2 h3 hx
      split at h
      ·cases h
      ·rename_i k out2 hy
       have hb:=lineF_le _ hg.2 hy
       have hb4:=hb.2.2.2 (by omega)
       have hb5:=hb.2.2.1
       simp only [List.length_append] at hb5
       exact ih k ins' out2 l hs hb.2.1 k1 k2 (by omega) h
 unfold splitS
 split
 ·simp
 ·split
  ·simp
  ·rename_i h1 l h
   have:=key _ _ _ _ _ (by omega) (Nat.zero_le _) ⟨List.pairwise_singleton _ _,rfl⟩ (by decide) (by decide) h
   show l.length ≤ 24040; omega
theorem quoteS_text : ∀ (n : Nat) (s : List UInt8),s.length ≤ n → ∀ {i : Nat} {b b' : List UInt8} {j : Nat},quoteS s i b = .inr (b',j) → b'.length ≤ b.length + s.length
 | 0,s,hn,i,b,b',j,h => by
  have : s = []:=List.length_eq_zero_iff.1 (by omega)
  subst this; simp [quoteS] at h
 | n + 1,[],hn,i,b,b',j,h => by simp [quoteS] at h
 | n + 1,c :: r,hn,i,b,b',j,h => by
  simp only [List.length_cons] at hn ⊢
  rw [quoteS.eq_def] at h
  simp only at h
  split at h
  ·cases h
  ·split at h
   ·cases h; omega
   ·split at h
    ·have:=quoteS_text n r (by omega) h
     simp at this; omega
    ·split at h
     ·cases h
     ·rename_i d r
      simp only [List.length_cons] at hn ⊢
      split at h
      ·cases h
      ·have:=quoteS_text n r (by omega) h
       simp at this; omega
structure TokG (s : List UInt8) (t : Tok) : Prop where
 kind : 1 ≤ t.kind ∧ t.kind ≤ 8
 sign : t.kind = 4 → t.text ∈ signs18
 word : t.kind = 5 → t.text ∈ words14
 size : t.text.length ≤ s.length
 name : t.kind = 1 → ∃ i,i < s.length ∧ isLet (s.getD i 0) = true ∧ t.text = cutT s i (stopAt (fun c => isLet c || isDg c) s i) ∧ t.text ∉ words14
 num : t.num ≤ 9007199254740991
theorem cut_size (s : List UInt8) (i j : Nat) : (cutT s i j).length ≤ s.length:=by
 unfold cutT
 rw [List.length_drop,List.length_take]; omega
theorem oneS_good {s : List UInt8} {i o j o' : Nat} {t : Tok} (hi : i < s.length) (h : oneS s i o = .inr (t,j,o')) : TokG s t:=by
 unfold oneS at h
 split at h
 ·rename_i h1
  cases h
  refine ⟨?_,?_,?_,cut_size _ _ _,?_,Nat.zero_le _⟩
  ·show 1 ≤ (if _ then 5 else 1) ∧ (if _ then 5 else 1) ≤ 8
   split <;> omega
  ·intro h; exfalso; revert h; show (if _ then 5 else 1) = 4 → False; split <;> omega
  ·intro h
   have h : (if cutT s i (stopAt (fun c => isLet c || isDg c) s i) ∈ words14 then 5 else 1) = 5:=h
   split at h
   ·assumption
   ·omega
  ·intro h
   have h : (if cutT s i (stopAt (fun c => isLet c || isDg c) s i) ∈ words14 then 5 else 1) = 1:=h
   split at h
   ·omega
   ·exact ⟨i,hi,h1,rfl,by assumption⟩
 ·split at h
  ·split at h
   ·cases h
   ·rename_i hbig
    cases h
    exact ⟨⟨Nat.le_of_ble_eq_true rfl,Nat.le_of_ble_eq_true rfl⟩,fun h => (by cases h),fun h => (by cases h),cut_size _ _ _,fun h => (by cases h),by show natOf _ ≤ _; omega⟩
  ·split at h
   ·split at h
    ·cases h
    ·rename_i b j' hq
     cases h
     have:=quoteS_text _ _ (Nat.le_refl _) hq
     refine ⟨⟨Nat.le_of_ble_eq_true rfl,Nat.le_of_ble_eq_true rfl⟩,fun h => (by cases h),fun h => (by cases h),?_,fun h => (by cases h),Nat.zero_le _⟩
     show b.length ≤ s.length
     rw [List.length_drop] at this
     simp only [List.length_nil] at this
     omega
   ·split at h
    ·cases h
    ·rename_i g hs
     have hg:=List.mem_of_find?_eq_some hs
     have hl:=signAt_le hs
     have fin : ∀ {x : Flt ⊕ (Tok × Nat × Nat)} {jj oo : Nat},x = .inr (⟨4,g,0,i⟩,jj,oo) → x = .inr (t,j,o') → TokG s t:=fun h1 h2 => by
      rw [h1] at h2; cases h2
      exact ⟨⟨Nat.le_of_ble_eq_true rfl,Nat.le_of_ble_eq_true rfl⟩,fun _ => hg,fun h => (by cases h),by show g.length ≤ _; omega,fun h => (by cases h),Nat.zero_le _⟩
     split at h
     ·split at h
      ·cases h
      ·exact fin rfl h
     ·split at h
      ·split at h
       ·cases h
       ·exact fin rfl h
      ·exact fin rfl h
theorem splitS_good (s : List UInt8) : ∀ t ∈ (splitS s).1,TokG s t :=
 splitS_all (fun _ _ _ _ _ hi h => oneS_good hi h) (fun _ => ⟨⟨Nat.le_of_ble_eq_true rfl,Nat.le_of_ble_eq_true rfl⟩,nofun,nofun,Nat.zero_le _,nofun,Nat.zero_le _⟩) (fun _ => ⟨⟨Nat.le_of_ble_eq_true rfl,Nat.le_of_ble_eq_true rfl⟩,nofun,nofun,Nat.zero_le _,nofun,Nat.zero_le _⟩) (fun _ => ⟨⟨Nat.le_of_ble_eq_true rfl,Nat.le_of_ble_eq_true rfl⟩,nofun,nofun,Nat.zero_le _,nofun,Nat.zero_le _⟩)
theorem stopAt_all {p : UInt8 → Bool} {s : List UInt8} (h : ∀ c ∈ s,p c = true) : stopAt p s 0 = s.length:=by
 unfold stopAt
 rw [List.drop_zero,Nat.zero_add]
 congr 1
 induction s with
 | nil => rfl
 | cons c r ih => rw [List.takeWhile_cons,if_pos (h c (List.mem_cons_self ..)),ih (fun x hx => h x (List.mem_cons_of_mem _ hx))]
theorem isNm_iff (s : List UInt8) : isNm s = true ↔ s ≠ [] ∧ isLet (s.getD 0 0) = true ∧ (∀ c ∈ s,(isLet c || isDg c) = true) ∧ s ∉ words14:=by
 cases s with
 | nil => simp [isNm]
 | cons c r =>
  rw [isNm]
  simp only [Bool.and_eq_true,List.all_eq_true,Bool.not_eq_true',List.contains_eq_mem,decide_eq_false_iff_not,List.getD_cons_zero,List.mem_cons,forall_eq_or_imp,ne_eq,reduceCtorEq,not_false_eq_true,true_and]
  constructor
  ·rintro ⟨⟨h1,h2⟩,h3⟩; exact ⟨h1,⟨by rw [h1]; rfl,h2⟩,h3⟩
  ·rintro ⟨h1,⟨_,h2⟩,h3⟩; exact ⟨⟨h1,h2⟩,h3⟩
theorem mem_tw {p : UInt8 → Bool} : ∀ {s : List UInt8} {c : UInt8},c ∈ s.takeWhile p → p c = true
 | [],c,h => by cases h
 | x :: r,c,h => by
  rw [List.takeWhile_cons] at h
  split at h
  ·rcases List.mem_cons.1 h with h | h
   ·rw [h]; assumption
   ·exact mem_tw h
  ·cases h
theorem isLet_no {c : UInt8} (h : isLet c = true) : c ≠ 32 ∧ c ≠ 35 ∧ c ≠ 10:=by
 refine ⟨?_,?_,?_⟩ <;> (rintro rfl; revert h; decide)
theorem splitS_name {s : List UInt8} (h : isNm s = true) (hl : s.length ≤ 6000) : splitS s = ([⟨1,s,0,0⟩,tokLine s.length],(0,0)):=by
 obtain ⟨h0,h1,h2,h3⟩:=(isNm_iff s).1 h
 have hpos : 0 < s.length:=List.length_pos_iff.2 h0
 have hc : s[0]? = some (s.getD 0 0):=by simp [List.getD,hpos]
 obtain ⟨n1,n2,n3⟩:=isLet_no h1
 have g0 : gapE s 0 = 0:=stopAt_no hpos (by
  have e : s.getD 0 0 = s[0]:=by simp [List.getD,hpos]
  rw [← e]; exact beq_false_of_ne n1)
 have gc0 : gapC s 0 = 0:=by
  unfold gapC
  rw [g0,hc,if_neg (by simpa using n2)]
 have gcl : gapC s s.length = s.length:=gapC_end (Nat.le_refl _)
 have hst:=stopAt_all (p:=fun c => isLet c || isDg c) h2
 have hct : cutT s 0 s.length = s:=by simp [cutT]
 have one : oneS s 0 0 = .inr (⟨1,s,0,0⟩,s.length,0):=by
  unfold oneS
  rw [if_pos h1,hst,hct,if_neg h3]
 have line : lineF (s.length + 1) s 0 0 [] = .inr (s.length,[⟨1,s,0,0⟩,tokLine s.length]):=by
  rw [lineF,if_pos ⟨hpos,.inl (by rw [hc]; simpa using n3)⟩,if_neg (by rw [hc]; simpa using n3),one]
  show lineF s.length s (gapC s s.length) 0 ([] ++ [⟨1,s,0,0⟩]) = _
  rw [gcl]
  obtain ⟨m,hm⟩ : ∃ m,s.length = m + 1:=⟨s.length - 1,by omega⟩
  rw [show lineF s.length s s.length 0 = lineF (m + 1) s s.length 0 by rw [hm]]
  rw [lineF,if_neg (by omega),if_neg (by omega),if_neg (by omega)]; rfl
 have fz : ∀ i,furS 0 i [0] = .inr ([0],[]):=fun i => rfl
 unfold splitS
 rw [if_neg (by omega)]
 have : allF (s.length + 1) s 0 [0] [] = .inr [⟨1,s,0,0⟩,tokLine s.length]:=by
  rw [allF,gc0,g0,if_neg (by omega),if_neg (by rw [hc]; simpa using n3),fz]
  show (match lineF (s.length + 1) s 0 0 ([] ++ []) with | .inl e => _ | .inr (k,out') => _) = _
  rw [List.append_nil,line]
  show allF s.length s s.length [0] _ = _
  obtain ⟨m,hm⟩ : ∃ m,s.length = m + 1:=⟨s.length - 1,by omega⟩
  rw [show allF s.length s s.length [0] = allF (m + 1) s s.length [0] by rw [hm]]
  rw [allF,gcl,if_pos (Nat.le_refl _),fz]; rfl
 rw [this]
theorem name_of {s : List UInt8} {t : Tok} {u : List Tok} (h : (splitS s).1 = t :: u) (hk : t.kind = 1) (ht : t.text = s) : isNm s = true:=by
 have hg:=splitS_good s t (by rw [h]; exact List.mem_cons_self ..)
 obtain ⟨i,hi,h1,h2,h3⟩:=hg.name hk
 rw [ht] at h2 h3
 have hb:=stopAt_lt (p:=fun c => isLet c || isDg c) hi (by rw [h1]; rfl)
 have hl : s.length = (stopAt (fun c => isLet c || isDg c) s i) - i:=by
  have : (cutT s i (stopAt (fun c => isLet c || isDg c) s i)).length = stopAt (fun c => isLet c || isDg c) s i - i:=by
   unfold cutT; rw [List.length_drop,List.length_take]; omega
  rw [← h2] at this; exact this
 obtain rfl : i = 0:=by omega
 refine (isNm_iff s).2 ⟨by rintro rfl; simp at hi,h1,?_,h3⟩
 have : ((s.drop 0).takeWhile (fun c => isLet c || isDg c)).length = s.length:=by
  unfold stopAt at hl; omega
 rw [List.drop_zero] at this
 have e:=(List.takeWhile_prefix (fun c => isLet c || isDg c) (l:=s)).eq_of_length this
 intro c hc
 rw [← e] at hc
 exact mem_tw hc
end
section
def okTx (t : List UInt8) : Prop:=∀ c ∈ t,32 ≤ c.toNat ∨ c = 9 ∨ c = 10
def ops13 : List (List UInt8):=[wOr,wAnd,[61,61],[33,61],[60],[60,61],wIn,[43],[45],[42],[47,47],[37]]
def shp (k n : Nat) (t : List UInt8) (m : Nat) (ns : List (List UInt8)) : Prop:=match k with
 | 1 => n = 0 ∧ t = [] ∧ m = 0 ∧ ns = []
 | 2 => n = 0 ∧ t = [] ∧ m = 0 ∧ ns = []
 | 3 => n = 0 ∧ t = [] ∧ m = 0 ∧ ns = []
 | 4 => n ≤ 9007199254740991 ∧ t = [] ∧ m = 0 ∧ ns = []
 | 5 => n = 0 ∧ okTx t ∧ m = 0 ∧ ns = []
 | 6 => n = 0 ∧ isNm t = true ∧ m = 0 ∧ ns = []
 | 7 => n = 0 ∧ t = [] ∧ ns = []
 | 8 => n = 0 ∧ t = [] ∧ m % 2 = 0 ∧ ns = []
 | 9 => n = 0 ∧ isNm t = true ∧ (m = 2 ∨ m = 3) ∧ ns = []
 | 10 => n = 0 ∧ t = [] ∧ ns.length + 1 ≤ m ∧ (∀ s ∈ ns,isNm s = true) ∧ ns.Nodup
 | 11 => n = 0 ∧ t = [] ∧ m = 2 ∧ ns = []
 | 12 => n = 0 ∧ t = [] ∧ m = 1 ∧ ns = []
 | 13 => n = 0 ∧ t = [] ∧ m = 1 ∧ ns = []
 | 14 => n = 0 ∧ t ∈ ops13 ∧ m = 2 ∧ ns = []
 | _ => False
inductive Wx (M : Nat) : Ex → Prop
 | mk {k n : Nat} {t : List UInt8} {ks : List Ex} {ns : List (List UInt8)} (h1 : ks.length ≤ M) (h2 : ns.length ≤ M) (h3 : ∀ x ∈ ks,Wx M x) (h4 : shp k n t ks.length ns) : Wx M (.mk k n t ks ns)
structure TokW (t : Tok) : Prop where
 name : t.kind = 1 → isNm t.text = true
 num : t.num ≤ 9007199254740991
 text : t.kind = 3 → okTx t.text
theorem esc_ok {c e : UInt8} (h : esc c = some e) : 32 ≤ e.toNat ∨ e = 9 ∨ e = 10:=by
 unfold esc at h
 split at h
 ·cases h; right; right; rfl
 ·split at h
  ·cases h; right; left; rfl
  ·split at h
   ·cases h; left; decide
   ·split at h
    ·cases h; left; decide
    ·cases h
theorem quoteS_ok : ∀ (n : Nat) (s : List UInt8),s.length ≤ n → ∀ {i : Nat} {b b' : List UInt8} {j : Nat},okTx b → quoteS s i b = .inr (b',j) → okTx b'
 | 0,s,hn,i,b,b',j,hb,h => by
  have : s = []:=List.length_eq_zero_iff.1 (by omega)
  subst this; simp [quoteS] at h
 | n + 1,[],hn,i,b,b',j,hb,h => by simp [quoteS] at h
 | n + 1,c :: r,hn,i,b,b',j,hb,h => by
  have snoc : ∀ {d : UInt8},(32 ≤ d.toNat ∨ d = 9 ∨ d = 10) → okTx (b ++ [d]):=fun hd x hx => by
   rcases List.mem_append.1 hx with hx | hx
   ·exact hb x hx
   ·rw [List.mem_singleton] at hx; rw [hx]; exact hd
  simp only [List.length_cons] at hn
  rw [quoteS.eq_def] at h
  simp only at h
  split at h
  ·cases h
  ·rename_i h32
   split at h
   ·cases h; exact hb
   ·split at h
    ·exact quoteS_ok n r (by omega) (snoc (.inl (by omega))) h
    ·split at h
     ·cases h
     ·rename_i d r
      simp only [List.length_cons] at hn
      split at h
      ·cases h
      ·rename_i e he
       exact quoteS_ok n r (by omega) (snoc (esc_ok he)) h
theorem cut_let {s : List UInt8} {i : Nat} (hi : i < s.length) (h1 : isLet (s.getD i 0) = true) : (cutT s i (stopAt (fun c => isLet c || isDg c) s i)) ≠ [] ∧ isLet ((cutT s i (stopAt (fun c => isLet c || isDg c) s i)).getD 0 0) = true ∧ ∀ c ∈ cutT s i (stopAt (fun c => isLet c || isDg c) s i),(isLet c || isDg c) = true:=by
 have e : cutT s i (stopAt (fun c => isLet c || isDg c) s i) = (s.drop i).takeWhile (fun c => isLet c || isDg c):=by
  unfold cutT stopAt
  rw [List.drop_take,Nat.add_sub_cancel_left]
  exact (List.prefix_iff_eq_take.1 (List.takeWhile_prefix _)).symm
 rw [e,List.drop_eq_getElem_cons hi]
 have hgd : s.getD i 0 = s[i]:=by simp [List.getD,hi]
 rw [hgd] at h1
 rw [List.takeWhile_cons,if_pos (by rw [h1]; rfl)]
 refine ⟨by simp,h1,fun c hc => ?_⟩
 rcases List.mem_cons.1 hc with hc | hc
 ·rw [hc,h1]; rfl
 ·exact mem_tw hc
theorem splitS_w (s : List UInt8) : ∀ t ∈ (splitS s).1,TokW t:=by
 refine splitS_all (fun i o t j o' hi h => ?_) (fun _ => ⟨nofun,Nat.zero_le _,nofun⟩) (fun _ => ⟨nofun,Nat.zero_le _,nofun⟩) (fun _ => ⟨nofun,Nat.zero_le _,nofun⟩)
 have hg:=oneS_good hi h
 refine ⟨fun hk => ?_,hg.num,fun hk => ?_⟩
 ·obtain ⟨i',hi',h1,h2,h3⟩:=hg.name hk
  have:=cut_let hi' h1
  rw [← h2] at this
  exact (isNm_iff _).2 ⟨this.1,this.2.1,this.2.2,h3⟩
 ·unfold oneS at h
  split at h
  ·cases h
   exfalso; revert hk; show (if _ then 5 else 1) = 3 → False; split <;> omega
  ·split at h
   ·split at h
    ·cases h
    ·cases h; cases hk
   ·split at h
    ·split at h
     ·cases h
     ·rename_i hq
      cases h
      exact quoteS_ok _ _ (Nat.le_refl _) (by intro c hc; cases hc) hq
    ·split at h
     ·cases h
     ·have fin : ∀ {x : Flt ⊕ (Tok × Nat × Nat)} {g : List UInt8} {jj oo : Nat},x = .inr (⟨4,g,0,i⟩,jj,oo) → x = .inr (t,j,o') → False:=fun h1 h2 => by
       rw [h1] at h2; cases h2; cases hk
      split at h
      ·split at h
       ·cases h
       ·exact (fin rfl h).elim
      ·split at h
       ·split at h
        ·cases h
        ·exact (fin rfl h).elim
       ·exact (fin rfl h).elim
def Qx {α : Type} (l : List Tok) (P : α → Prop) (x : Pr α) : Prop:=∀ y u,x = .ok y u → P y ∧ u <:+ l
section
variable {α β : Type} {l : List Tok} {P : α → Prop} {P' : β → Prop}
theorem Qx.out : Qx l P (.out : Pr α):=nofun
theorem Qx.bad {e : Nat} {u : List Tok} : Qx l P (.bad e u : Pr α):=nofun
theorem Qx.ok {u : List Tok} {x : α} (h : P x) (hu : u <:+ l) : Qx l P (.ok x u):=by intro _ _ h'; cases h'; exact ⟨h,hu⟩
theorem Qx.bind {x : Pr α} {f : α → List Tok → Pr β} (h : Qx l P x) (hf : ∀ y u,P y → u <:+ l → Qx l P' (f y u)) : Qx l P' (x.bind f):=by
 cases x with
 | out => exact .out
 | bad e v => exact .bad
 | ok y v => exact hf y v (h y v rfl).1 (h y v rfl).2
theorem Qx.ite {x y : Pr α} {c : Prop} [Decidable c] (h : c → Qx l P x) (h' : ¬ c → Qx l P y) : Qx l P (if c then x else y):=by
 by_cases hc : c
 ·rw [if_pos hc]; exact h hc
 ·rw [if_neg hc]; exact h' hc
end
theorem mustS_q {l r : List Tok} (s : List UInt8) (h : r <:+ l) : Qx l (fun _ => True) (mustS s r):=fun y u hx => ⟨trivial,(mustS_s s r y u hx).trans h⟩
theorem takeS_q {l r : List Tok} (hl : ∀ t ∈ l,TokW t) (k : Nat) (h : r <:+ l) : Qx l (fun t => TokW t ∧ t.kind = k) (takeS k r):=fun y u hx => by
 refine ⟨?_,(takeS_s k r y u hx).trans h⟩
 unfold takeS at hx
 split at hx
 ·cases hx
 ·rename_i t v
  split at hx
  ·cases hx
   exact ⟨hl _ (h.subset (List.mem_cons_self ..)),by assumption⟩
  ·cases hx
structure AllQ (M : Nat) (l : List Tok) (F : Nat) : Prop where
 expr : ∀ n r,r <:+ l → Qx l (Wx M) (exprS F n r)
 lev : ∀ k n r,r <:+ l → Qx l (Wx M) (levS F k n r)
 loop : ∀ k n x r,Wx M x → r <:+ l → Qx l (Wx M) (loopS F k n x r)
 post : ∀ n x r,Wx M x → r <:+ l → Qx l (Wx M) (postS F n x r)
 call : ∀ n ks ns r,(∀ x ∈ ks,Wx M x) → ns.length + 1 ≤ ks.length → ks.length + F ≤ M → (∀ s ∈ ns,isNm s = true) → ns.Nodup → r <:+ l → Qx l (Wx M) (callS F n ks ns r)
 atom : ∀ n r,r <:+ l → Qx l (Wx M) (atomS F n r)
 list : ∀ n r,r <:+ l → Qx l (Wx M) (listS F n r)
 item : ∀ n ks r,(∀ x ∈ ks,Wx M x) → ks.length + F ≤ M → r <:+ l → Qx l (Wx M) (itemS F n ks r)
 dict : ∀ n ks r,(∀ x ∈ ks,Wx M x) → ks.length % 2 = 0 → ks.length + 2 * F ≤ M → r <:+ l → Qx l (Wx M) (dictS F n ks r)
theorem isOf_ops {k : Nat} {r : List Tok} (h : isOf (binS k) r = true) : hdT r ∈ ops13:=by
 unfold isOf at h
 simp only [Bool.and_eq_true] at h
 have:=List.contains_iff_mem.1 h.2
 have key : ∀ k,∀ s ∈ binS k,s ∈ ops13:=by
  intro k
  match k with
  | 0 => decide
  | 1 => decide
  | 2 => decide
  | 3 => decide
  | 4 => decide
  | k + 5 => intro s hs; cases hs
 exact key k _ this
theorem wx_snoc {M : Nat} {ks : List Ex} {y : Ex} (h : ∀ x ∈ ks,Wx M x) (hy : Wx M y) : ∀ x ∈ ks ++ [y],Wx M x:=fun x hx => by
 rcases List.mem_append.1 hx with hx | hx
 ·exact h x hx
 ·rw [List.mem_singleton] at hx; rw [hx]; exact hy
theorem wx_one {M : Nat} {y : Ex} (hy : Wx M y) : ∀ x ∈ [y],Wx M x:=fun x hx => by
 rw [List.mem_singleton] at hx; rw [hx]; exact hy
theorem wx_two {M : Nat} {x y : Ex} (hx : Wx M x) (hy : Wx M y) : ∀ z ∈ [x,y],Wx M z:=fun z hz => by
 rcases List.mem_cons.1 hz with h | h
 ·rw [h]; exact hx
 ·exact wx_one hy z h
theorem wx_three {M : Nat} {x y z : Ex} (hx : Wx M x) (hy : Wx M y) (hz : Wx M z) : ∀ w ∈ [x,y,z],Wx M w:=fun w hw => by
 rcases List.mem_cons.1 hw with h | h
 ·rw [h]; exact hx
 ·exact wx_two hy hz w h
theorem wx_nil {M : Nat} : ∀ x ∈ ([] : List Ex),Wx M x:=nofun
theorem name_tok {l r : List Tok} (hl : ∀ t ∈ l,TokW t) (h : r <:+ l) (hn : nameS r = true) : isNm (hdT r) = true:=by
 unfold nameS at hn
 simp only [Bool.and_eq_true,beq_iff_eq] at hn
 cases r with
 | nil => cases hn.1.1
 | cons t u => exact (hl t (h.subset (List.mem_cons_self ..))).name hn.1.1
theorem allQ (M : Nat) (l : List Tok) (hl : ∀ t ∈ l,TokW t) (F : Nat) : 2 * F + 10 ≤ M → AllQ M l F:=by
 induction F with
 | zero => intro _; exact ⟨fun _ _ _ => .out,fun _ _ _ _ => .out,fun _ _ _ _ _ _ => .out,fun _ _ _ _ _ => .out,fun _ _ _ _ _ _ _ _ _ _ => .out,fun _ _ _ => .out,fun _ _ _ => .out,fun _ _ _ _ _ _ => .out,fun _ _ _ _ _ _ _ => .out⟩
 | succ F ih =>
  intro hM
  have ih:=ih (by omega)
  have bin : ∀ {k n : Nat} {r : List Tok},r <:+ l → Qx l (Wx M) ((levS F (k + 1) n r).bind fun x r => loopS F k n x r):=fun {k n r} hr => (ih.lev (k + 1) n r hr).bind fun y u hy hu => ih.loop k n y u hy hu
  refine ⟨?_,?_,?_,?_,?_,?_,?_,?_,?_⟩
  ·intro n r hr
   rw [exprS]
   exact .ite (fun _ => .bad) (fun _ => ih.lev 0 _ r hr)
  ·intro k n r hr
   unfold levS
   split
   ·exact .ite (fun _ => .ite (fun _ => .bad) (fun _ => (ih.lev 2 _ r.tail ((suf_tl r).trans hr)).bind fun y u hy hu => .ok (.mk (by simp; omega) (by simp) (wx_one hy) ⟨rfl,rfl,rfl,rfl⟩) hu))
     (fun _ => (ih.lev 3 n r hr).bind fun y u hy hu => .ite (fun ho => (ih.lev 3 n u.tail ((suf_tl u).trans hu)).bind fun z v hz hv => .ok (.mk (by simp; omega) (by simp) (wx_two hy hz) ⟨rfl,isOf_ops ho,rfl,rfl⟩) hv) (fun _ => .ok hy hu))
   ·exact .ite (fun _ => .ite (fun _ => .bad) (fun _ => (ih.lev 5 _ r.tail ((suf_tl r).trans hr)).bind fun y u hy hu => .ok (.mk (by simp; omega) (by simp) (wx_one hy) ⟨rfl,rfl,rfl,rfl⟩) hu))
     (fun _ => (ih.atom n r hr).bind fun y u hy hu => ih.post n y u hy hu)
   ·exact bin hr
  ·intro k n x r hx hr
   rw [loopS]
   exact .ite (fun ho => (ih.lev (k + 1) n r.tail ((suf_tl r).trans hr)).bind fun y u hy hu => ih.loop k n _ u (.mk (by simp; omega) (by simp) (wx_two hx hy) ⟨rfl,isOf_ops ho,rfl,rfl⟩) hu) (fun _ => .ok hx hr)
  ·intro n x r hx hr
   rw [postS]
   exact .ite (fun _ => (ih.call n _ _ r.tail (wx_one hx) (by simp) (by simp; omega) (by nofun) (by simp) ((suf_tl r).trans hr)).bind fun y u hy hu => ih.post n _ u hy hu)
    (fun _ => .ite (fun _ => (ih.expr n r.tail ((suf_tl r).trans hr)).bind fun y u hy hu => (mustS_q _ hu).bind fun _ v _ hv => ih.post n _ v (.mk (by simp; omega) (by simp) (wx_two hx hy) ⟨rfl,rfl,rfl,rfl⟩) hv) (fun _ => .ok hx hr))
  ·intro n ks ns r hks hlen hF hns hnd hr
   rw [callS]
   have hm : Qx l (fun _ => True) (if ks.length > 1 then mustS [44] r else .ok () r):=.ite (fun _ => mustS_q _ hr) (fun _ => .ok trivial hr)
   refine .ite (fun _ => .ok (.mk (by omega) (by omega) hks ⟨rfl,rfl,hlen,hns,hnd⟩) ((suf_tl r).trans hr)) (fun _ => hm.bind fun _ u _ hu => .ite (fun hn => .ite (fun _ => .bad) (fun hc => ?_)) (fun _ => .ite (fun _ => .bad) (fun h0 => ?_)))
   ·have hnm:=name_tok hl hu hn
    refine (ih.expr n u.tail.tail ((suf_tl2 u).trans hu)).bind fun y v hy hv => ih.call n _ _ v (wx_snoc hks hy) (by simp; omega) (by simp; omega) (fun s hs => ?_) ?_ hv
    ·rcases List.mem_append.1 hs with hs | hs
     ·exact hns s hs
     ·rw [List.mem_singleton] at hs; rw [hs]; exact hnm
    ·refine List.nodup_append.2 ⟨hnd,by simp,fun a ha b hb => ?_⟩
     rw [List.mem_singleton] at hb
     rw [hb]
     rintro rfl
     exact hc (List.contains_iff_mem.2 ha)
   ·exact (ih.expr n u hu).bind fun y v hy hv => ih.call n _ _ v (wx_snoc hks hy) (by simp; omega) (by simp; omega) hns hnd hv
  ·intro n r hr
   cases r with
   | nil => exact .bad
   | cons t u =>
    have hu : u <:+ l:=(List.suffix_cons t u).trans hr
    have ht:=hl t (hr.subset (List.mem_cons_self ..))
    exact .ite (fun h => .ok (.mk (by simp) (by simp) wx_nil ⟨rfl,ht.name h,rfl,rfl⟩) hu) (fun _ => .ite (fun _ => .ok (.mk (by simp) (by simp) wx_nil ⟨ht.num,rfl,rfl,rfl⟩) hu) (fun _ => .ite (fun h => .ok (.mk (by simp) (by simp) wx_nil ⟨rfl,ht.text h,rfl,rfl⟩) hu)
     (fun _ => .ite (fun _ => .ok (.mk (by simp) (by simp) wx_nil ⟨rfl,rfl,rfl,rfl⟩) hu) (fun _ => .ite (fun _ => .ok (.mk (by simp) (by simp) wx_nil ⟨rfl,rfl,rfl,rfl⟩) hu) (fun _ => .ite (fun _ => .ok (.mk (by simp) (by simp) wx_nil ⟨rfl,rfl,rfl,rfl⟩) hu)
     (fun _ => .ite (fun _ => (ih.expr n u hu).bind fun y v hy hv => (mustS_q _ hv).bind fun _ w _ hw => .ok hy hw)
     (fun _ => .ite (fun _ => ih.list n u hu) (fun _ => .ite (fun _ => ih.dict n _ u wx_nil rfl (by simp; omega) hu) (fun _ => .bad)))))))))
  ·intro n r hr
   rw [listS]
   refine .ite (fun _ => .ok (.mk (by simp) (by simp) wx_nil ⟨rfl,rfl,rfl⟩) ((suf_tl r).trans hr)) (fun _ => (ih.expr n r hr).bind fun y u hy hu => .ite (fun _ => ?_) (fun _ => ih.item n _ u (wx_one hy) (by simp; omega) hu))
   refine (takeS_q hl 1 ((suf_tl u).trans hu)).bind fun t v ht hv => (mustS_q _ hv).bind fun _ w _ hw => (ih.expr n w hw).bind fun z x hz hx => .ite (fun _ => (ih.expr n x.tail ((suf_tl x).trans hx)).bind fun q p hq hp => (mustS_q _ hp).bind fun _ o _ ho => ?_) (fun _ => (mustS_q _ hx).bind fun _ o _ ho => ?_)
   ·exact .ok (.mk (by simp; omega) (by simp) (wx_three hy hz hq) ⟨rfl,ht.1.name ht.2,.inr rfl,rfl⟩) ho
   ·exact .ok (.mk (by simp; omega) (by simp) (wx_two hy hz) ⟨rfl,ht.1.name ht.2,.inl rfl,rfl⟩) ho
  ·intro n ks r hks hF hr
   rw [itemS]
   exact .ite (fun _ => .ok (.mk (by omega) (by simp) hks ⟨rfl,rfl,rfl⟩) ((suf_tl r).trans hr)) (fun _ => (mustS_q _ hr).bind fun _ u _ hu => (ih.expr n u hu).bind fun y v hy hv => ih.item n _ v (wx_snoc hks hy) (by simp; omega) hv)
  ·intro n ks r hks he hF hr
   rw [dictS]
   have hm : Qx l (fun _ => True) (if ks.length > 0 then mustS [44] r else .ok () r):=.ite (fun _ => mustS_q _ hr) (fun _ => .ok trivial hr)
   exact .ite (fun _ => .ok (.mk (by omega) (by simp) hks ⟨rfl,rfl,he,rfl⟩) ((suf_tl r).trans hr)) (fun _ => hm.bind fun _ u _ hu => (ih.expr n u hu).bind fun y v hy hv => (mustS_q _ hv).bind fun _ w _ hw => (ih.expr n w hw).bind fun z x hz hx => ih.dict n _ x (wx_snoc (wx_snoc hks hy) hz) (by simp; omega) (by simp; omega) hx)
def shs (M k : Nat) (t : List UInt8) (ns : List (List UInt8)) (x : Ex) (b e : List St) : Prop:=match k with
 | 1 => t = [] ∧ ns = [] ∧ x = .zero ∧ b = [] ∧ e = []
 | 2 => t = [] ∧ ns = [] ∧ Wx M x ∧ b = [] ∧ e = []
 | 3 => isNm t = true ∧ ns = [] ∧ Wx M x ∧ b = [] ∧ e = []
 | 4 => okTx t ∧ (ns ≠ [] ∧ ∀ s ∈ ns,isNm s = true) ∧ x = .zero ∧ b = [] ∧ e = []
 | 5 => t = [] ∧ ns = [] ∧ Wx M x ∧ b = [] ∧ e = []
 | 6 => isNm t = true ∧ ((∀ s ∈ ns,isNm s = true) ∧ ns.Nodup) ∧ x = .zero ∧ e = []
 | 7 => t = [] ∧ ns = [] ∧ Wx M x
 | 8 => isNm t = true ∧ ns = [] ∧ Wx M x ∧ e = []
 | _ => False
inductive Ws (M : Nat) : St → Prop
 | mk {k : Nat} {t : List UInt8} {ns : List (List UInt8)} {x : Ex} {b e : List St} (h1 : ns.length ≤ M) (h2 : b.length ≤ M) (h3 : e.length ≤ M) (h4 : ∀ s ∈ b,Ws M s) (h5 : ∀ s ∈ e,Ws M s) (h6 : shs M k t ns x b e) : Ws M (.mk k t ns x b e)
theorem paramS_q {M : Nat} {l : List Tok} (hl : ∀ t ∈ l,TokW t) : ∀ (F : Nat) (ns : List (List UInt8)) (r : List Tok),r <:+ l → ns.length + F ≤ M → (∀ s ∈ ns,isNm s = true) → ns.Nodup → Qx l (fun ns => ns.length ≤ M ∧ (∀ s ∈ ns,isNm s = true) ∧ ns.Nodup) (paramS F ns r)
 | 0,_,_,_,_,_,_ => .out
 | F + 1,ns,r,hr,hF,hns,hnd => by
  rw [paramS]
  refine .ite (fun _ => .bad) (fun hc => ?_)
  intro y u hx
  cases ht : takeS 1 r with
  | out => rw [ht] at hx; cases hx
  | bad k v => rw [ht] at hx; cases hx
  | ok t v =>
   rw [ht] at hx
   obtain ⟨⟨hw,hk⟩,hv⟩:=takeS_q hl 1 hr t v ht
   have htx : hdK r = 1 ∧ hdT r = t.text:=by
    unfold takeS at ht
    split at ht
    ·cases ht
    ·split at ht
     ·cases ht; exact ⟨hk,rfl⟩
     ·cases ht
   rw [htx.1,htx.2] at hc
   have hc : t.text ∉ ns:=fun h => hc (by rw [List.contains_iff_mem.2 h]; rfl)
   have h1 : ∀ s ∈ ns ++ [t.text],isNm s = true:=fun s hs => by
    rcases List.mem_append.1 hs with hs | hs
    ·exact hns s hs
    ·rw [List.mem_singleton] at hs; rw [hs]; exact hw.name hk
   have h2 : (ns ++ [t.text]).Nodup:=by
    refine List.nodup_append.2 ⟨hnd,by simp,fun a ha b hb => ?_⟩
    rw [List.mem_singleton] at hb
    rw [hb]
    rintro rfl
    exact hc ha
   have hx : (if isS [44] v then paramS F (ns ++ [t.text]) v.tail else .ok (ns ++ [t.text]) v) = .ok y u:=hx
   split at hx
   ·exact paramS_q hl F _ _ ((suf_tl v).trans hv) (by simp; omega) h1 h2 y u hx
   ·cases hx; exact ⟨⟨by simp; omega,h1,h2⟩,hv⟩
theorem namesS_q {M : Nat} {l : List Tok} (hl : ∀ t ∈ l,TokW t) : ∀ (F : Nat) (ns : List (List UInt8)) (r : List Tok),r <:+ l → ns.length + F ≤ M → (∀ s ∈ ns,isNm s = true) → Qx l (fun ns => ns.length ≤ M ∧ ns ≠ [] ∧ ∀ s ∈ ns,isNm s = true) (namesS F ns r)
 | 0,_,_,_,_,_ => .out
 | F + 1,ns,r,hr,hF,hns => by
  rw [namesS]
  refine .ite (fun _ => .bad) (fun hc => ?_)
  intro y u hx
  cases ht : takeS 3 r with
  | out => rw [ht] at hx; cases hx
  | bad k v => rw [ht] at hx; cases hx
  | ok t v =>
   rw [ht] at hx
   obtain ⟨⟨hw,hk⟩,hv⟩:=takeS_q hl 3 hr t v ht
   have htx : hdK r = 3 ∧ hdT r = t.text:=by
    unfold takeS at ht
    split at ht
    ·cases ht
    ·split at ht
     ·cases ht; exact ⟨hk,rfl⟩
     ·cases ht
   rw [htx.1,htx.2] at hc
   have hnm : isNm t.text = true:=by
    cases h : isNm t.text with
    | true => rfl
    | false => rw [h] at hc; exact absurd rfl hc
   have h1 : ∀ s ∈ ns ++ [t.text],isNm s = true:=fun s hs => by
    rcases List.mem_append.1 hs with hs | hs
    ·exact hns s hs
    ·rw [List.mem_singleton] at hs; rw [hs]; exact hnm
   have hx : (if isS [44] v then namesS F (ns ++ [t.text]) v.tail else .ok (ns ++ [t.text]) v) = .ok y u:=hx
   split at hx
   ·exact namesS_q hl F _ _ ((suf_tl v).trans hv) (by simp; omega) h1 y u hx
   ·cases hx; exact ⟨⟨by simp; omega,by simp,h1⟩,hv⟩
theorem smallS_q {M : Nat} {l : List Tok} (hl : ∀ t ∈ l,TokW t) (F b d : Nat) (r : List Tok) (hF : 2 * F + 10 ≤ M) (hr : r <:+ l) : Qx l (Ws M) (smallS F b d r):=by
 have hA:=allQ M l hl F hF
 have nilB : ∀ s ∈ ([] : List St),Ws M s:=nofun
 unfold smallS loadS
 refine .ite (fun _ => .ok (.mk (by simp) (by simp) (by simp) nilB nilB ⟨rfl,rfl,rfl,rfl,rfl⟩) ((suf_tl r).trans hr)) (fun _ => .ite (fun _ => .ite (fun _ => .bad) (fun _ => .ite (fun _ => ?_) (fun _ => ?_))) (fun _ => .ite (fun _ => .ite (fun _ => .bad) (fun _ => ?_)) (fun _ => .ite (fun hn => ?_) (fun _ => ?_))))
 ·exact (hA.expr 0 r.tail ((suf_tl r).trans hr)).bind fun x u hx hu => .ok (.mk (by simp) (by simp) (by simp) nilB nilB ⟨rfl,rfl,hx,rfl,rfl⟩) hu
 ·exact .ok (.mk (by simp) (by simp) (by simp) nilB nilB ⟨rfl,rfl,.mk (by simp) (by simp) wx_nil ⟨rfl,rfl,rfl,rfl⟩,rfl,rfl⟩) ((suf_tl r).trans hr)
 ·exact (mustS_q _ ((suf_tl r).trans hr)).bind fun _ u _ hu => (takeS_q hl 3 hu).bind fun t v ht hv => (mustS_q _ hv).bind fun _ w _ hw => (namesS_q (M:=M) hl F [] w hw (by simp; omega) (by nofun)).bind fun ns x hns hx => (mustS_q _ hx).bind fun _ y _ hy => .ok (.mk hns.1 (by simp) (by simp) nilB nilB ⟨ht.1.text ht.2,⟨hns.2.1,hns.2.2⟩,rfl,rfl,rfl⟩) hy
 ·exact (hA.expr 0 r.tail.tail ((suf_tl2 r).trans hr)).bind fun x u hx hu => .ok (.mk (by simp) (by simp) (by simp) nilB nilB ⟨name_tok hl hr hn,rfl,hx,rfl,rfl⟩) hu
 ·exact (hA.expr 0 r hr).bind fun x u hx hu => .ok (.mk (by simp) (by simp) (by simp) nilB nilB ⟨rfl,rfl,hx,rfl,rfl⟩) hu
structure AllQS (M : Nat) (l : List Tok) (F : Nat) : Prop where
 stmts : ∀ top b d ls r,(∀ s ∈ ls,Ws M s) → ls.length + F ≤ M → r <:+ l → Qx l (fun ls => ls.length ≤ M ∧ ∀ s ∈ ls,Ws M s) (stmtsS F top b d ls r)
 block : ∀ b d r,r <:+ l → Qx l (fun ls => ls.length ≤ M ∧ ∀ s ∈ ls,Ws M s) (blockS F b d r)
 stmt : ∀ b d r,r <:+ l → Qx l (Ws M) (stmtS F b d r)
theorem allQS (M : Nat) (l : List Tok) (hl : ∀ t ∈ l,TokW t) (F : Nat) : 2 * F + 10 ≤ M → AllQS M l F:=by
 induction F with
 | zero => intro _; exact ⟨fun _ _ _ _ _ _ _ _ => .out,fun _ _ _ _ => .out,fun _ _ _ _ => .out⟩
 | succ F ih =>
  intro hM
  have ih:=ih (by omega)
  have hA:=allQ M l hl F (by omega)
  have nilB : ∀ s ∈ ([] : List St),Ws M s:=nofun
  refine ⟨?_,?_,?_⟩
  ·intro top b d ls r hls hF hr
   rw [stmtsS]
   refine .ite (fun _ => .ok ⟨by omega,hls⟩ hr) (fun _ => (ih.stmt b d r hr).bind fun s u hs hu => ih.stmts top b d _ u (fun x hx => ?_) (by simp; omega) hu)
   rcases List.mem_append.1 hx with hx | hx
   ·exact hls x hx
   ·rw [List.mem_singleton] at hx; rw [hx]; exact hs
  ·intro b d r hr
   rw [blockS]
   exact (mustS_q _ hr).bind fun _ u _ hu => (takeS_q hl _ hu).bind fun _ v _ hv => (takeS_q hl _ hv).bind fun _ w _ hw => (ih.stmts false _ _ _ w nilB (by simp; omega) hw).bind fun ls x hls hx => (takeS_q hl _ hx).bind fun _ y _ hy => .ok hls hy
  ·intro b d r hr
   rw [stmtS]
   refine .ite (fun _ => .ite (fun _ => .bad) (fun _ => (takeS_q hl 1 ((suf_tl r).trans hr)).bind fun t u ht hu => (mustS_q _ hu).bind fun _ v _ hv => ?_)) (fun _ => .ite (fun _ => ?_) (fun _ => .ite (fun _ => ?_) (fun _ => ?_)))
   ·have hm : Qx l (fun ns => ns.length ≤ M ∧ (∀ s ∈ ns,isNm s = true) ∧ ns.Nodup) (if hdK v = 1 then paramS F [] v else .ok [] v):=.ite (fun _ => paramS_q (M:=M) hl F [] v hv (by simp; omega) (by nofun) (by simp)) (fun _ => .ok ⟨by simp,by nofun,by simp⟩ hv)
    exact hm.bind fun ns w hns hw => (mustS_q _ hw).bind fun _ x _ hx => (ih.block _ _ x hx).bind fun ls y hls hy => .ok (.mk hns.1 hls.1 (by simp) hls.2 nilB ⟨ht.1.name ht.2,⟨hns.2.1,hns.2.2⟩,rfl,rfl⟩) hy
   ·refine (hA.expr 0 _ ((suf_tl r).trans hr)).bind fun x u hx hu => (ih.block _ _ u hu).bind fun ls v hls hv => .ite (fun _ => (ih.block _ _ v.tail ((suf_tl v).trans hv)).bind fun ms w hms hw => ?_) (fun _ => ?_)
    ·exact .ok (.mk (by simp) hls.1 hms.1 hls.2 hms.2 ⟨rfl,rfl,hx⟩) hw
    ·exact .ok (.mk (by simp) hls.1 (by simp) hls.2 nilB ⟨rfl,rfl,hx⟩) hv
   ·exact (takeS_q hl 1 ((suf_tl r).trans hr)).bind fun t u ht hu => (mustS_q _ hu).bind fun _ v _ hv => (hA.expr 0 v hv).bind fun x w hx hw => (ih.block _ _ w hw).bind fun ls y hls hy => .ok (.mk (by simp) hls.1 (by simp) hls.2 nilB ⟨ht.1.name ht.2,rfl,hx,rfl⟩) hy
   ·exact (smallS_q hl F b d r (by omega) hr).bind fun s u hs hu => (takeS_q hl _ hu).bind fun _ v _ hv => .ok hs hv
theorem parseS_w (s : List UInt8) : (parseS s).1.length ≤ 800000 ∧ ∀ x ∈ (parseS s).1,Ws 800000 x:=by
 have hl:=splitS_w s
 have hz:=splitS_size s
 unfold parseS
 generalize splitS s = y at hl hz ⊢
 obtain ⟨l,f⟩:=y
 have hz : l.length ≤ 24040:=hz
 have h:=(allQS 800000 l hl (fuelS l) (by unfold fuelS; omega)).stmts true 0 0 [] l nofun (by unfold fuelS; simp; omega) (List.suffix_refl _)
 simp only
 split
 ·exact ⟨Nat.zero_le _,nofun⟩
 ·split
  ·rename_i hx; exact (h _ _ hx).1
  ·exact ⟨Nat.zero_le _,nofun⟩
  ·exact ⟨Nat.zero_le _,nofun⟩
end
def jnB (b : List UInt8) (l : List (List UInt8)) : List UInt8:=(l.mapIdx fun i t => (if 0 < i then b else []) ++ t).flatten
theorem jnB_take (b : List UInt8) (l : List (List UInt8)) (i : Nat) (h : i < l.length) : jnB b (l.take (i + 1)) = jnB b (l.take i) ++ ((if 0 < i then b else []) ++ l[i]):=by
 unfold jnB
 rw [List.take_succ_eq_append_getElem h,List.mapIdx_concat,List.flatten_append,List.length_take,Nat.min_eq_left (by omega)]; simp
theorem jnB_le (b : List UInt8) (l : List (List UInt8)) (i : Nat) (h : i ≤ l.length) : (jnB b (l.take i)).length ≤ (jnB b l).length:=by
 induction hk : l.length - i generalizing i with
 | zero => rw [List.take_of_length_le (by omega)]; exact Nat.le_refl _
 | succ n ih =>
  have:=ih (i + 1) (by omega) (by omega)
  rw [jnB_take _ _ _ (by omega),List.length_append] at this
  omega
theorem Joined_ok {st fl : Bool} (l : List (List UInt8)) (b : List UInt8) (hn : l.length ≤ 1000000000) (hl : (jnB b l).length ≤ 70000000000000) : Calc cx 45 [.sl st fl 1 (texts l),.str b] (.str (jnB b l)) :=
 pure_intro (fun a w => Tryz.call45 a w) Tryz.func45 rfl Tryz.ntmps45 rfl .str fun B => by
  have htl:=texts_len l
  refine pB [] rfl ?_
  refine S_while (α:=Nat) (fun i => [(0,.sl st fl 1 (texts l)),(1,.str b),(5,.str (jnB b (l.take i))),(6,.int .i64 (i : Nat))]) (fun _ => []) (fun i => i ≤ l.length) (fun i => l.length - i) 0
   (Nat.zero_le _) (.cons rfl (.cons rfl (.cons rfl (.cons rfl (.nil _))))) rfl ?_
  intro i hi
  have hi : i ≤ l.length:=hi
  by_cases hlt : i < l.length
  ·have hel : (texts l)[(i : Int).toNat]? = some (.str l[i]):=texts_get hlt
   have hle:=jnB_le b l (i + 1) hlt
   have he:=jnB_take b l i hlt
   have e0 : decide ((i : Int) < (((texts l).length : Nat) : Int)) = true:=decide_eq_true (by omega)
   rw [he] at hle
   by_cases h0 : 0 < i
   ·rw [if_pos h0] at he hle
    simp only [List.length_append] at hle
    refine pa [.b true,.b true,.v (.str l[i])] rfl ?_ ?_
    ·(repeat' with_reducible apply AllP_cons) <;> try exact aC
     ·show (((jnB b (l.take i) ++ b).length + l[i].length : Nat) : Int) ≤ 9223372036854775807; rw [List.length_append]; omega
    refine S_round (i + 1) (by show l.length - (i + 1) < l.length - i; omega) hlt (.cons rfl (.cons rfl (.cons ?_ (.cons (nX (by omega)) (.nil _))))) rfl
    show AV.str (jnB b (l.take i) ++ b ++ l[i]) = .str (jnB b (l.take (i + 1)))
    rw [he,List.append_assoc]
   ·obtain rfl : i = 0:=by omega
    rw [if_neg h0] at he hle
    simp only [List.length_append] at hle
    refine pB [.b true,.b false,.v (.str l[0])] rfl ?_
    refine S_round (0 + 1) (by show l.length - (0 + 1) < l.length - 0; omega) hlt (.cons rfl (.cons rfl (.cons ?_ (.cons (nX (by omega)) (.nil _))))) rfl
    show AV.str (jnB b (l.take 0) ++ l[0]) = .str (jnB b (l.take (0 + 1)))
    rw [he,List.nil_append]
  ·have e0 : decide ((i : Int) < (((texts l).length : Nat) : Int)) = false:=decide_eq_false (by omega)
   obtain rfl : i = l.length:=by omega
   rw [List.take_length]
   refine pB [.b false] rfl ?_
   exact S_retc .str rfl trivial rfl
def digs (n : Nat) : List UInt8:=if h : n < 10 then [UInt8.ofNat (48 + n)] else digs (n / 10) ++ [UInt8.ofNat (48 + n % 10)]
termination_by n
decreasing_by omega
theorem digs_len (n : Nat) : ∀ m,m = n → (digs m).length ≤ m + 1:=by
 induction n using Nat.strongRecOn with
 | _ n ih =>
  intro m hm
  rw [digs]
  split
  ·simp
  ·have:=ih (m / 10) (by omega) (m / 10) rfl
   rw [List.length_append]; simp only [List.length_cons,List.length_nil]; omega
theorem DigitsOf_ok (n : Nat) : ∀ m,m = n → m ≤ 9007199254740991 → Calc cx 107 [.int .i64 (m : Nat)] (.str (digs m)):=by
 induction n using Nat.strongRecOn with
 | _ n ih =>
  intro m hm hb
  exact pure_intro (fun a w => Tryz.call107 a w) Tryz.func107 rfl Tryz.ntmps107 rfl .str fun B => by
   refine ab 1000 rfl trivial ?_
   refine S_dec rfl (fun h => ?_) (fun h => ?_)
   ·have h : m < 10:=by have : (m : Int) < 10:=h; omega
    refine ab 1000 rfl ⟨?_,rfl,trivial⟩ ?_
    ·intro x hx; simp at hx; subst hx; trivial
    refine S_retc .str rfl trivial ?_
    show AV.str [Ab.byteOf (.int .u8 (IntKind.u8.wrap (IntKind.i64.wrap (48 + (m : Int)))))] = _
    rw [digs,dif_pos h,w64 (k:=48 + m) (by omega) (by omega),wu8 (k:=48 + m) rfl (by omega)]
    rfl
   ·have h : ¬ m < 10:=by have : ¬ (m : Int) < 10:=h; omega
    have e1 : (m : Int).tdiv 10 = ((m / 10 : Nat) : Int):=rfl
    have e2 : (m : Int).tmod 10 = ((m % 10 : Nat) : Int):=rfl
    refine ab 1000 rfl ⟨by decide,trivial⟩ ?_
    have f1 : AV.int .i64 (IntKind.i64.wrap ((m : Int).tdiv 10)) = .int .i64 ((m / 10 : Nat) : Int):=ai64 e1 (by omega)
    have f2 : AV.int .i64 ((m : Int).tmod 10) = .int .i64 ((m % 10 : Nat) : Int):=by rw [e2]
    have l1:=digs_len _ (m / 10) rfl
    have l2:=digs_len _ (m % 10) rfl
    refine S_pure rfl rfl rfl (ih (m / 10) (by omega) (m / 10) rfl (by omega)) (.cons (by show Frz false _ (AV.int .i64 (IntKind.i64.wrap ((m : Int).tdiv 10))) _; rw [f1]; exact .refl .int) (.nil _)) ?_
    refine ab 1000 rfl ⟨by decide,trivial⟩ ?_
    refine S_pure rfl rfl rfl (ih (m % 10) (by omega) (m % 10) rfl (by omega)) (.cons (by show Frz false _ (AV.int .i64 ((m : Int).tmod 10)) _; rw [f2]; exact .refl .int) (.nil _)) ?_
    refine ab 1000 rfl ⟨?_,trivial⟩ ?_
    ·show (((digs (m / 10)).length + (digs (m % 10)).length : Nat) : Int) ≤ 9223372036854775807; omega
    refine S_retc .str rfl trivial ?_
    conv => rhs; rw [digs,dif_neg h]
    rw [show digs (m % 10) = [UInt8.ofNat (48 + m % 10)] by rw [digs,dif_pos (by omega)]]
    rfl
theorem writeString_ok {T : TypeId} {rest : List AV} (hT : HoldsB T (rest.length + 1 + 1)) (v u : Nat) (a : AV) (ha : a = .nilp ∨ a = .ptr 0 v 0) (bs cs : List UInt8) (hl : bs.length + cs.length ≤ 140737488355328) :
  CallOk cx 72 [.ptr 0 v 0,.str cs] [(v,some (bBox T a (.ms 1 u 0 bs.length 1 false) rest)),(u,some (byBox bs))]
   (fun o σ' => o = .ret (.tup [.int .i64 cs.length,.nili]) ∧ σ' = [(v,some (bBox T (.ptr 0 v 0) (.ms 1 (u + 1) 0 (bs ++ cs).length 1 false) rest)),(u + 1,some (byBox (bs ++ cs)))]) :=
 callOk_intro (fun a w => Tryz.call72 a w) Tryz.func72 rfl Tryz.ntmps72 rfl fun B => by
  refine ab 1000 rfl trivial ?_
  refine S_call rfl rfl rfl (copyCheck_ok hT v a _ ha _) ?_ (fun v σ' h => by cases h.1)
  rintro _ _ ⟨⟨⟩,rfl⟩
  refine ab 1000 rfl ⟨lble rfl,rfl,?_,?_,?_,rfl,rfl,?_,rfl,trivial⟩ ?_
  ·show bs.length + cs.length ≤ 9223372036854775807; omega
  ·show (bs.length + cs.length) * 1 ≤ 140737488355328; omega
  ·show 0 + bs.length * 1 = (bs.map byteAV).length; simp
  ·intro y hy; obtain ⟨x,_,rfl⟩:=List.mem_map.1 hy; rfl
  refine S_ret ⟨_,_,rfl,trivial,rfl,?_⟩
  show [(v,some (Box.cells (_ :: .ms 1 (u + 1) 0 (bs.length + cs.length) 1 false :: rest) _)),(u + 1,some (.cells (bs.map byteAV ++ cs.map byteAV) _))] = _
  simp [byBox,bBox]
  rfl
structure QuSt where
 i : Nat
 b : Nat
def quH (b : Nat) (a : AV) (bs : List UInt8) : Heap:=[(0,some (bBox 61 a (bufV b bs) [])),bufB b bs]
theorem wbT (b : Nat) (a : AV) (ha : a = .nilp ∨ a = .ptr 0 0 0) (bs : List UInt8) (c : UInt8) (hl : bs.length < 140737488355328) :
  CallOk cx 29 [.ptr 0 0 0,byteAV c] (quH b a bs) (fun o σ' => o = .ret .nili ∧ σ' = quH (b + 1) (.ptr 0 0 0) (bs ++ [c])) :=
 writeByteU_ok holdsB 0 b a ha bs c hl
theorem quoC_len (c : UInt8) : (quoC c).length ≤ 2:=by unfold quoC; split <;> (try split) <;> (try split) <;> (try split) <;> simp
theorem quo_len (t : List UInt8) : (t.flatMap quoC).length ≤ 2 * t.length:=by
 induction t with
 | nil => simp
 | cons c r ih => rw [List.flatMap_cons,List.length_append,List.length_cons]; have:=quoC_len c; omega
theorem quoT_len (t : List UInt8) : (quoT t).length ≤ 2 * t.length + 2:=by
 unfold quoT
 have:=quo_len t
 rw [List.length_append,List.length_append,List.length_singleton]; omega
theorem quo_two (c : UInt8) (h : c = 10 ∨ c = 9 ∨ c = 92 ∨ c = 34) : ∃ (k : Nat) (d : UInt8),k < 4 ∧ Lib.indexByte [10,9,92,34] c = (k : Int) ∧ quoC c = [92,d] ∧ [110,116,92,34].getD k 0 = d:=by
 rcases h with rfl | rfl | rfl | rfl
 ·exact ⟨0,110,by decide,rfl,rfl,rfl⟩
 ·exact ⟨1,116,by decide,rfl,rfl,rfl⟩
 ·exact ⟨2,92,by decide,rfl,rfl,rfl⟩
 ·exact ⟨3,34,by decide,rfl,rfl,rfl⟩
theorem quo_one (c : UInt8) (h : ¬ (c = 10 ∨ c = 9 ∨ c = 92 ∨ c = 34)) : Lib.indexByte [10,9,92,34] c = -1 ∧ quoC c = [c]:=by
 have c1 : c ≠ 10:=fun e => h (.inl e)
 have c2 : c ≠ 9:=fun e => h (.inr (.inl e))
 have c3 : c ≠ 92:=fun e => h (.inr (.inr (.inl e)))
 have c4 : c ≠ 34:=fun e => h (.inr (.inr (.inr e)))
 exact ⟨by simp [Lib.indexByte,Ne.symm c1,Ne.symm c2,Ne.symm c3,Ne.symm c4],by unfold quoC; rw [if_neg c1,if_neg c2,if_neg c3,if_neg c4]⟩
theorem Quote_ok (s : List UInt8) (hs : s.length ≤ 70000000000000) : Calc cx 14 [.str s] (.str (quoT s)) :=
 pure_intro (fun a w => Tryz.call14 a w) Tryz.func14 rfl Tryz.ntmps14 rfl .str fun B => by
  refine pB [] rfl ?_
  refine S_dead ?_ ⟨.skip,_,.inr ⟨_,_,_,rfl⟩⟩
  refine S_heap (quH 0 .nilp []) rfl ?_
  have h0:=wbT 0 .nilp (.inl rfl) [] 34 (by decide)
  refine pB [.f .nili (fun _ => quH 1 (.ptr 0 0 0) [34])] rfl ?_
  have hbl : (s.map byteAV).length = s.length:=by simp
  refine S_while (α:=QuSt) (fun q => [(3,.ptr 0 0 0),(9,.sl true false 1 (s.map byteAV)),(10,.int .i64 (s.length : Nat)),(11,.int .i64 (q.i : Nat))]) (fun q => quH q.b (.ptr 0 0 0) ([34] ++ (s.take q.i).flatMap quoC))
   (fun q => q.i ≤ s.length) (fun q => s.length - q.i) ⟨0,1⟩ (Nat.zero_le _) (.cons rfl (.cons rfl (.cons (by show AV.int .i64 (((s.map byteAV).length : Nat) : Int) = _; rw [hbl]) (.cons rfl (.nil _))))) rfl ?_
  rintro ⟨i,b⟩ hi
  have hi : i ≤ s.length:=hi
  have hlen : ([34] ++ (s.take i).flatMap quoC).length ≤ 2 * s.length + 1:=by
   have:=quo_len (s.take i)
   rw [List.length_take] at this
   rw [List.length_append,List.length_singleton]; omega
  show S cx _ B _ _ [(3,.ptr 0 0 0),(9,.sl true false 1 (s.map byteAV)),(10,.int .i64 (s.length : Nat)),(11,.int .i64 (i : Nat))] (quH b (.ptr 0 0 0) ([34] ++ (s.take i).flatMap quoC))
  by_cases hlt : i < s.length
  ·have hel : (s.map byteAV)[(i : Int).toNat]? = some (byteAV s[i]):=by rw [Int.toNat_natCast]; simp [hlt]
   have htk : (s.take (i + 1)).flatMap quoC = (s.take i).flatMap quoC ++ quoC s[i]:=by
    rw [List.take_succ_eq_append_getElem hlt,List.flatMap_append]; simp
   have hK:=indexByte_ok [10,9,92,34] ((s[i].toNat : Nat) : Int)
   have hu : (((s[i].toNat : Nat) : Int).toNat).toUInt8 = s[i]:=by rw [Int.toNat_natCast]; simp
   rw [hu] at hK
   by_cases esc : s[i] = 10 ∨ s[i] = 9 ∨ s[i] = 92 ∨ s[i] = 34
   ·obtain ⟨k,d,h4,hk,hq,hd⟩:=quo_two s[i] esc
    rw [hk] at hK
    have h1:=wbT b (.ptr 0 0 0) (.inr rfl) ([34] ++ (s.take i).flatMap quoC) 92 (by omega)
    have h2:=wbT (b + 1) (.ptr 0 0 0) (.inr rfl) ([34] ++ (s.take i).flatMap quoC ++ [92]) d (by simp only [List.length_append,List.length_singleton] at hlen ⊢; omega)
    have e0 : decide ((k : Int) ≥ 0) = true:=decide_eq_true (by omega)
    have hdd : (((([110,116,92,34] : List UInt8).getD (k : Int).toNat 0).toNat : Nat) : Int) = (d.toNat : Int):=by rw [Int.toNat_natCast,hd]
    refine pa [.b true,.v (byteAV s[i]),.v (.int .i64 (k : Nat)),.b true,.f .nili (fun _ => quH (b + 1) (.ptr 0 0 0) ([34] ++ (s.take i).flatMap quoC ++ [92])),.f .nili (fun _ => quH (b + 2) (.ptr 0 0 0) ([34] ++ (s.take i).flatMap quoC ++ [92] ++ [d]))] rfl ?_ ?_
    ·(repeat' with_reducible apply AllP_cons) <;> try exact aC
     ·exact ⟨_,hK,.cons (.refl .str) (.cons (.refl .int) (.nil _))⟩
     ·show CallOk cx 29 [.ptr 0 0 0,.int .u8 (((([110,116,92,34] : List UInt8).getD (k : Int).toNat 0).toNat : Nat) : Int)] _ _
      rw [hdd]; exact h2
    refine S_round ⟨i + 1,b + 2⟩ (by show s.length - (i + 1) < s.length - i; omega) hlt (.cons rfl (.cons rfl (.cons rfl (.cons (nX (by omega)) (.nil _))))) ?_
    show quH (b + 2) (.ptr 0 0 0) ([34] ++ (s.take i).flatMap quoC ++ [92] ++ [d]) = quH (b + 2) (.ptr 0 0 0) ([34] ++ (s.take (i + 1)).flatMap quoC)
    rw [htk,hq]; simp
   obtain ⟨hk,hq⟩:=quo_one s[i] esc
   rw [hk] at hK
   have h1:=wbT b (.ptr 0 0 0) (.inr rfl) ([34] ++ (s.take i).flatMap quoC) s[i] (by omega)
   refine pa [.b true,.v (byteAV s[i]),.v (.int .i64 (-1)),.b false,.f .nili (fun _ => quH (b + 1) (.ptr 0 0 0) ([34] ++ (s.take i).flatMap quoC ++ [s[i]]))] rfl ?_ ?_
   ·(repeat' with_reducible apply AllP_cons) <;> try exact aC
    exact ⟨_,hK,.cons (.refl .str) (.cons (.refl .int) (.nil _))⟩
   refine S_round ⟨i + 1,b + 1⟩ (by show s.length - (i + 1) < s.length - i; omega) hlt (.cons rfl (.cons rfl (.cons rfl (.cons (nX (by omega)) (.nil _))))) ?_
   show quH (b + 1) (.ptr 0 0 0) ([34] ++ (s.take i).flatMap quoC ++ [s[i]]) = quH (b + 1) (.ptr 0 0 0) ([34] ++ (s.take (i + 1)).flatMap quoC)
   rw [htk,hq,List.append_assoc]
  ·obtain rfl : i = s.length:=by omega
   rw [List.take_length] at hlen ⊢
   have h1:=wbT b (.ptr 0 0 0) (.inr rfl) ([34] ++ s.flatMap quoC) 34 (by omega)
   have h2 : CallOk cx 31 [.ptr 0 0 0] (quH (b + 1) (.ptr 0 0 0) (quoT s)) _:=stringU_ok (T:=61) 0 (b + 1) (.ptr 0 0 0) (quoT s) (by have:=quoT_len s; omega)
   refine pB [.b false,.f .nili (fun _ => quH (b + 1) (.ptr 0 0 0) (quoT s)),.f (.str (quoT s)) (fun _ => [(0,some (bBox 61 (.ptr 0 0 0) (bufV (b + 1) (quoT s)) [])),(b + 1,none)])] rfl ?_
   exact S_retc .str rfl trivial rfl
section
section
variable {cx : Cx} {n : Nat} {B : Bs} {k : List AI} {Q : Post} {fr : Fr} {σ : Heap}
theorem S_shareU {ι : Type} {k' : List AI} {all : Array Oper} {l : List Oper} {K : List Nat} (F : Fr) (σ' : ι → Heap) (I : ι → Prop) (hm : (∀ i fr,I i → Weak fr F → S cx n B (.ops all l K :: k') Q fr (σ' i)) → S cx n B k Q fr σ) (hk : ∀ i,I i → S cx n B (.ops all l K :: k') Q F (σ' i)) : S cx n B k Q fr σ :=
 hm fun i _ hi hw => S_ops_weak hw (hk i hi)
end
theorem bne_nat (n m : Nat) : ((n : Int) != (m : Int)) = !(n == m):=by
 rw [Bool.eq_iff_iff,bne_iff_ne,Bool.not_eq_true',beq_eq_false_iff_ne]
 omega
theorem block1_ok (q v : Nat) (l r : List Tok) (e b d n : Nat) (τ : Heap) (hr : r <:+ l) (hl : l.length ≤ 100000) :
  CallOk cx 89 [.ptr 1 q 0] (psB v l r e b d n :: qB q v :: τ) (fun o σ => o = .ret (.bool (!atEnd false r)) ∧ σ = psB v l r e b d n :: qB q v :: τ) :=
 callOk_intro (fun a w => Tryz.call89 a w) Tryz.func89 rfl Tryz.ntmps89 rfl fun B => by
  have hk:=kindT v l r e b d n (qB q v :: τ) hr hl
  refine pB [.k (.int .i64 (hdK r : Nat))] rfl ?_
  refine S_ret ⟨_,_,rfl,trivial,?_,rfl⟩
  show Out.ret (.bool (((hdK r : Nat) : Int) != ((8 : Nat) : Int))) = _
  rw [bne_nat]; rfl
theorem block_ok (F : Nat) (hF : F ≤ 900000) (hs : ∀ F',F' ≤ F → Cs 36 stmtS F') : Cb (F + 1):=fun v l e b d r hr hl hT hb hd hne =>
 callOk_introT (fun a w => Tryz.call54 a w) Tryz.func54 rfl Tryz.ntmps54 rfl fun B => by
  obtain ⟨X,hX⟩ : ∃ X,X = blockS (F + 1) b d r:=⟨_,rfl⟩
  rw [← hX] at hne ⊢
  rw [blockS] at hX
  refine pB [] rfl ?_
  refine S_callB rfl rfl rfl (mustT v l r e b d 0 [58] [qB 0 v] hr hl) hX hne fun _ r2 hx hX => ?_
  have hr2:=(mustS_s _ _ _ _ hx).trans hr
  clear hx
  refine pB [] rfl ?_
  refine S_callB rfl rfl rfl (takeT v l r2 e b d 0 6 [qB 0 v] hr2 hl (by decide)) hX hne fun _ r3 hx hX => ?_
  have hr3:=(takeS_s _ _ _ _ hx).trans hr2
  clear hx
  refine pB [] rfl ?_
  refine S_callB rfl rfl rfl (takeT v l r3 e b d 0 7 [qB 0 v] hr3 hl (by decide)) hX hne fun _ r4 hx hX => ?_
  have hr4:=(takeS_s _ _ _ _ hx).trans hr3
  clear hx
  have hw : IntKind.i64.wrap ((b : Nat) + 1) = ((b + 1 : Nat) : Int):=by rw [IntWalk.i64_in _ ⟨by omega,by omega⟩]; omega
  have hw1 : IntKind.i64.wrap (((b + 1 : Nat) : Int) - 1) = (b : Int):=by rw [IntWalk.i64_in _ ⟨by omega,by omega⟩]; omega
  refine pB [] rfl ?_
  refine S_heap (psB v l r4 e (b + 1) d 0 :: [qB 0 v]) ?_ ?_
  ·show psI v l ((l.length - r4.length : Nat) : Int) e (IntKind.i64.wrap ((b : Nat) + 1)) d (0 : Nat) :: _ = _
   rw [hw]; rfl
  have hne2 : stmtsS F false (b + 1) d [] r4 ≠ .out:=fun h => by rw [h] at hX; exact hne hX
  refine S_callB (b:=b + 1) rfl rfl rfl (stmts_ok F hF false _ hs 0 v l e (b + 1) d r4 hr4 hl hT (by omega) (by omega) (fun r τ hr => block1_ok 0 v l r e (b + 1) d 0 τ hr hl) hne2) hX hne fun ls r5 hx hX => ?_
  have hr5:=((allW F).stmts _ _ _ _ _ _ _ hx).trans hr4
  clear hx
  refine pB [] rfl ?_
  refine S_heap (psB v l r5 e b d 0 :: [qB 0 v]) ?_ ?_
  ·show psI v l ((l.length - r5.length : Nat) : Int) e (IntKind.i64.wrap (((b + 1 : Nat) : Int) - 1)) d (0 : Nat) :: _ = _
   rw [hw1]; rfl
  refine S_callB rfl rfl rfl (takeT v l r5 e b d 0 8 [qB 0 v] hr5 hl (by decide)) hX hne fun _ r6 hx hX => ?_
  refine pB [] rfl ?_
  refine S_ret ⟨_,_,rfl,trivial,?_⟩
  exact PE.fin hX (stsA_free _)
def stO2 : Nat × Option Box:=(0,some (.cells [.int .i64 0,.str [],.nils,.int .i64 0,.int .i64 0,.str [],.nils,.nils,.nils,.nils] ⟨false,some 56⟩))
def stX (kd : Nat) (tx : List UInt8) (w : Nat) (ns : List (List UInt8)) (bd : AV) : Nat × Option Box:=(0,some (.cells [.int .i64 (kd : Nat),.str tx,.ms 3 w 0 ns.length 1 false,.int .i64 0,.int .i64 0,.str [],.nils,.nils,bd,.nils] ⟨false,some 56⟩))
theorem stFz10 {k : Nat} {σ : Heap} {kd xk xn : Nat} {t xt : List UInt8} {ns xm : List (List UInt8)} {xs : List Ex} {sb se : List St} {a1 a2 a3 a4 a5 : AV} (h1 : FzT k σ a1 (.sl true false 1 (texts ns))) (h2 : FzT k σ a2 (.sl true false 5 (exL xs))) (h3 : FzT k σ a3 (.sl true false 1 (texts xm))) (h4 : FzT k σ a4 (stsA sb)) (h5 : FzT k σ a5 (stsA se)) :
  FzT k σ (.agg [.int .i64 (kd : Nat),.str t,a1,.int .i64 (xk : Nat),.int .i64 (xn : Nat),.str xt,a2,a3,a4,a5]) (stA (.mk kd t ns (.mk xk xn xt xs xm) sb se)):=by
 refine .agg rfl (fun i h h' => ?_)
 match i,h with
 | 0,_ => exact .low .int
 | 1,_ => exact .low .str
 | 2,_ => exact h1
 | 3,_ => exact .low .int
 | 4,_ => exact .low .int
 | 5,_ => exact .low .str
 | 6,_ => exact h2
 | 7,_ => exact h3
 | 8,_ => exact h4
 | 9,_ => exact h5
theorem lowTx {k : Nat} {σ : Heap} (ns : List (List UInt8)) : FzT k σ (.sl true false 1 (texts ns)) (.sl true false 1 (texts ns)):=.low (Low.free (st:=true) (.sl (fun _ => rfl) (textsF ns)))
theorem lowEx {k : Nat} {σ : Heap} (l : List Ex) : FzT k σ (.sl true false 5 (exL l)) (.sl true false 5 (exL l)):=.low (Low.free (st:=true) (.sl (fun _ => rfl) (exL_free l)))
theorem lowSt {k : Nat} {σ : Heap} (l : List St) : FzT k σ (stsA l) (stsA l):=.low (Low.free (st:=true) (stsA_free l))
end
structure NamSt where
 F : Nat
 ns : List (List UInt8)
 r : List Tok
 w : Nat
 m : Nat
theorem Pr.assoc {α β γ : Type} (x : Pr α) (f : α → List Tok → Pr β) (g : β → List Tok → Pr γ) : (x.bind f).bind g = x.bind fun y r => (f y r).bind g:=by cases x <;> rfl
def flB (m e p : Nat) : Nat × Option Box:=(m,some (.cells [.int .i64 (e : Nat),.int .i64 (p : Nat)] ⟨false,some 25⟩))
theorem nam_snoc (ns : List (List UInt8)) (t : List UInt8) : texts (ns ++ [t]) = texts ns ++ [.str t]:=by simp [texts]
theorem load_ok (F : Nat) (hF : F ≤ 900000) (v : Nat) (l : List Tok) (e b d : Nat) (r : List Tok) (hr : r <:+ l) (hl : l.length ≤ 100000) (hT : ∀ t ∈ l,t.text.length ≤ 6000) (hb : b ≤ 2000000) (hw : isS wLoad r = true) (hne : loadS F b r ≠ .out) :
  CallOk cx 90 [.ptr 0 v 0] (psH v l r e b d 0) (PE stA v l e b d 0 (loadS F b r) []) :=
 callOk_introT (fun a w => Tryz.call90 a w) Tryz.func90 rfl Tryz.ntmps90 rfl fun B => by
  obtain ⟨X,hX⟩ : ∃ X,X = loadS F b r:=⟨_,rfl⟩
  rw [← hX] at hne ⊢
  unfold loadS at hX
  by_cases c1 : b > 0
  ·rw [if_pos c1] at hX
   refine pB [.b true] rfl ?_
   exact S_callE rfl rfl rfl (failT uA v l r e b d 0 4 _ hr hl) rfl hX
  rw [if_neg c1] at hX
  have hwr:=suf_nextI hr hl hw
  have hr1:=isS_suf hr
  refine pB [.b false] rfl ?_
  refine S_heap (psB v l r.tail e b d 0 :: [stO2]) ?_ ?_
  ·show psI v l (IntKind.i64.wrap (((l.length - r.length : Nat) : Int) + 1)) e b d (0 : Nat) :: _ = _
   rw [hwr]; rfl
  refine S_callB rfl rfl rfl (mustT v l r.tail e b d 0 [40] [stO2] hr1 hl) hX hne fun _ r2 hx hX => ?_
  have hr2:=(mustS_s _ _ _ _ hx).trans hr1
  clear hx hwr hr1 hr
  refine pB [] rfl ?_
  refine S_callB rfl rfl rfl (takeT v l r2 e b d 0 3 [stO2] hr2 hl (by decide)) hX hne fun tx r3 hx hX => ?_
  have hr3:=(takeS_s _ _ _ _ hx).trans hr2
  clear hx hr2
  refine pB [] rfl ?_
  refine S_ghost (id:=2) (j:=2) 1 ⟨false,none⟩ rfl rfl rfl (Nat.ne_of_lt (lble rfl)) ⟨.skip,_,.inr ⟨_,_,_,rfl⟩⟩ ?_
  refine S_heap [psB v l r3 e b d 0,stO2,stX 4 tx.text 0 [] .nils,namB 0 []] rfl ?_
  refine S_callB rfl rfl rfl (mustT v l r3 e b d 0 [44] [stO2,stX 4 tx.text 0 [] .nils,namB 0 []] hr3 hl) hX hne fun _ r4 hx hX => ?_
  have hr4:=(mustS_s _ _ _ _ hx).trans hr3
  clear hx hr3
  refine pB [] rfl ?_
  refine S_dead ?_ ⟨_,_,.inl rfl⟩
  refine S_while (α:=NamSt) (fun q => [(0,.ptr 0 v 0),(2,.ptr 1 0 0),(3,.ptr 2 0 0)]) (fun q => [psB v l q.r e b d 0,stO2,stX 4 tx.text q.w q.ns .nils,namB q.w q.ns,(q.m,none)])
   (fun q => q.F ≤ F ∧ q.r <:+ l ∧ (namesS q.F q.ns q.r).bind (fun ns r => (mustS [41] r).bind fun _ r => .ok (.mk 4 tx.text ns .zero [] []) r) = X ∧ q.ns.length + q.F ≤ F) (fun q => q.F) ⟨F,[],r4,0,0⟩ ⟨Nat.le_refl _,hr4,hX.symm,by show 0 + F ≤ F; omega⟩ (.cons rfl (.cons rfl (.cons rfl (.nil _)))) rfl ?_
  clear hX hr4
  rintro ⟨F1,ns,r,w,m⟩ ⟨hF1,hr,hX,hns⟩
  have hF1 : F1 ≤ F:=hF1
  have hr : r <:+ l:=hr
  have hX : X = (namesS F1 ns r).bind (fun ns r => (mustS [41] r).bind fun _ r => .ok (.mk 4 tx.text ns .zero [] []) r):=hX.symm
  have hns : ns.length + F1 ≤ F:=hns
  show S cx _ B _ _ [(0,.ptr 0 v 0),(2,.ptr 1 0 0),(3,.ptr 2 0 0)] [psB v l r e b d 0,stO2,stX 4 tx.text w ns .nils,namB w ns,(m,none)]
  cases F1 with
  | zero => exact absurd hX hne
  | succ F1 =>
  rw [namesS] at hX
  have hk:=kindT v l r e b d 0 [stO2,stX 4 tx.text w ns .nils,namB w ns,(m,none)] hr hl
  refine' S_shareG (ι:=Nat) [(0,.ptr 0 v 0),(2,.ptr 1 0 0),(3,.ptr 2 0 0)] (fun m => [psB v l r e b d 0,stO2,stX 4 tx.text w ns .nils,namB w ns,(m,none)]) (fun _ => (hdK r == 3 && !isNm (hdT r)) = false) (fun cont => ?main) ?rest
  case main =>
   by_cases k3 : ¬ hdK r = 3
   ·have e3 : (((hdK r : Nat) : Int) == 3) = false:=beq_false_of_ne (by omega)
    refine pB [.k (.int .i64 (hdK r : Nat)),.b false] rfl ?_
    exact cont m _ (by rw [beq_false_of_ne k3]; rfl) (.cons rfl (.cons rfl (.cons rfl (.nil _))))
   ·have k3 : hdK r = 3:=Decidable.not_not.1 k3
    obtain ⟨t,u,rfl⟩ : ∃ t u,r = t :: u:=by
     cases r with
     | nil => cases k3
     | cons t u => exact ⟨t,u,rfl⟩
    have e3 : (((hdK (t :: u) : Nat) : Int) == 3) = true:=by rw [k3]; rfl
    have hg:=suf_get hr
    have ht:=suf_lt hr
    have hml : (l.map tokA).length = l.length:=by simp
    have htl : t.text.length ≤ 6000:=hT t (hr.subset (List.mem_cons_self ..))
    obtain ⟨tl,te,tp,hsp⟩ : ∃ tl te tp,splitS t.text = (tl,(te,tp)):=⟨_,_,_,rfl⟩
    have hSp : Calc cx 18 [.str t.text] (.tup [.sl true false 4 (tl.map tokA),.agg [.int .i64 (te : Nat),.int .i64 (tp : Nat)]]):=by
     have:=Split_ok t.text; rw [hsp] at this; exact this
    refine pB [.k (.int .i64 (hdK (t :: u) : Nat)),.b true] rfl ?_
    refine S_drawCN [psB v l (t :: u) e b d 0,stO2,stX 4 tx.text w ns .nils,namB w ns,flB (m + 1) 0 0] 15 17 [] [tokA t,.tup [.sl true false 4 (tl.map tokA),.agg [.int .i64 (te : Nat),.int .i64 (tp : Nat)]],.ptr 4 (m + 1) 0] rfl rfl rfl rfl rfl ?_ ?_
    ·(repeat' with_reducible apply AllP_cons) <;> try exact aC
     ·exact ⟨_,hSp,.cons (.refl .str) (.nil _)⟩
     ·exact ⟨_,hSp,.cons (.refl .str) (.nil _)⟩
    by_cases nm : isNm t.text = true
    ·have:=splitS_name nm htl
     rw [hsp] at this
     simp only [Prod.mk.injEq] at this
     obtain ⟨rfl,rfl,rfl⟩:=this
     refine pa [.b false,.b false,.v (tokA ⟨1,t.text,0,0⟩),.b false,.v (tokA ⟨1,t.text,0,0⟩),.v (tokA t),.b false] rfl ?_ ?_
     ·(repeat' with_reducible apply AllP_cons) <;> try exact aC
      show (!(t.text == t.text)) = false
      simp
     refine S_drop (id:=4) rfl ?_ ⟨_,_,.inl rfl⟩
     refine S_heap [psB v l (t :: u) e b d 0,stO2,stX 4 tx.text w ns .nils,namB w ns,(m + 1,none)] rfl ?_
     refine cont (m + 1) _ ?_ ?_
     ·show (hdK (t :: u) == 3 && !isNm t.text) = false
      rw [nm]; simp
     ·exact .cons rfl (.cons rfl (.cons rfl (.nil _)))
    ·have hX : X = .bad 1 (t :: u):=by
      rw [hX,if_pos (by show (hdK (t :: u) == 3 && !isNm t.text) = true; rw [k3,(Bool.not_eq_true _).mp nm]; rfl)]; rfl
     by_cases z : te = 0
     ·subst z
      cases tl with
      | nil =>
       refine pB [.b false,.b true,.b true,.b true] rfl ?_
       exact S_callE rfl rfl rfl (failT uA v l _ e b d 0 1 _ hr hl) rfl hX
      | cons t0 tu =>
       by_cases z1 : t0.kind = 1
       ·have z2 : t0.text ≠ t.text:=fun h => nm (name_of (by rw [hsp]) z1 h)
        have e1 : ((t0.kind : Int) != 1) = false:=by rw [z1]; rfl
        have e2 : (!(t0.text == t.text)) = true:=by rw [beq_false_of_ne z2]; rfl
        refine pB [.b false,.b false,.v (tokA t0),.b false,.v (tokA t0),.v (tokA t),.b true] rfl ?_
        exact S_callE rfl rfl rfl (failT uA v l _ e b d 0 1 _ hr hl) rfl hX
       ·have e1 : ((t0.kind : Int) != 1) = true:=bne_iff_ne.2 (by omega)
        refine pB [.b false,.b false,.v (tokA t0),.b true,.b true] rfl ?_
        exact S_callE rfl rfl rfl (failT uA v l _ e b d 0 1 _ hr hl) rfl hX
     ·have e1 : ((te : Int) != 0) = true:=bne_iff_ne.2 (by omega)
      refine pB [.b true,.b true,.b true,.b true] rfl ?_
      exact S_callE rfl rfl rfl (failT uA v l _ e b d 0 1 _ hr hl) rfl hX
  case rest =>
   intro m hI
   rw [if_neg (by rw [hI]; decide),Pr.assoc] at hX
   clear hk hI
   show S cx _ B _ _ [(0,.ptr 0 v 0),(2,.ptr 1 0 0),(3,.ptr 2 0 0)] [psB v l r e b d 0,stO2,stX 4 tx.text w ns .nils,namB w ns,(m,none)]
   have hTk:=takeT v l r e b d 0 3 [stO2,stX 4 tx.text w ns .nils,namB w ns,(m,none)] hr hl (by decide)
   cases hx : takeS 3 r with
   | out => rw [hx] at hX; exact absurd hX hne
   | bad j u =>
    rw [hx] at hX
    refine S_drawE 3 [] [] rfl rfl rfl rfl rfl rfl ?_ hTk hx hX
    (repeat' with_reducible apply AllP_cons) <;> try exact aC
   | ok t r5 =>
    have hTk:=PE.ok hTk hx
    rw [hx] at hX
    have hX : X = (if isS [44] r5 then namesS F1 (ns ++ [t.text]) r5.tail else .ok (ns ++ [t.text]) r5).bind (fun ns r => (mustS [41] r).bind fun _ r => .ok (.mk 4 tx.text ns .zero [] []) r):=hX
    have hr5:=(takeS_s _ _ _ _ hx).trans hr
    have hbx : 0 + ns.length * 1 = (texts ns).length:=by rw [texts_len]; omega
    refine pa [.d 3 6 [] (fun σ => psB v l r5 e b d 0 :: σ.tail) [tokA t]] rfl ?_ ?_
    ·(repeat' with_reducible apply AllP_cons) <;> try exact aC
     ·exact ⟨_,hTk,rfl⟩
     ·show (ns.length + 1) * 16 ≤ 140737488355328
      omega
    refine S_heap [psB v l r5 e b d 0,stO2,stX 4 tx.text (w + 1) (ns ++ [t.text]) .nils,namB (w + 1) (ns ++ [t.text]),(m,none)] ?_ ?_
    ·show [psB v l r5 e b d 0,stO2,(0,some (.cells [.int .i64 4,.str tx.text,.ms 3 (w + 1) 0 (ns.length + 1) 1 false,.int .i64 0,.int .i64 0,.str [],.nils,.nils,.nils,.nils] ⟨false,some 56⟩)),(w + 1,some (.cells (texts ns ++ [.str t.text]) ⟨false,none⟩)),(m,none)] = _
     unfold stX namB
     rw [List.length_append,nam_snoc]; rfl
    by_cases c6 : isS [44] r5 = true
    ·rw [if_pos c6] at hX
     have hm:=may_yes v l r5 e b d 0 [44] [stO2,stX 4 tx.text (w + 1) (ns ++ [t.text]) .nils,namB (w + 1) (ns ++ [t.text]),(m,none)] hr5 hl c6
     refine pB [.f (.bool true) (fun σ => psB v l r5.tail e b d 0 :: σ.tail),.b false] rfl ?_
     exact S_round ⟨F1,ns ++ [t.text],r5.tail,w + 1,m⟩ (Nat.lt_succ_self _) ⟨by show F1 ≤ F; omega,isS_suf hr5,hX.symm,by show (ns ++ [_]).length + F1 ≤ F; rw [List.length_append,List.length_singleton]; omega⟩ (.cons rfl (.cons rfl (.cons rfl (.nil _)))) rfl
    ·rw [if_neg c6] at hX
     have hm:=may_no v l r5 e b d 0 [44] [stO2,stX 4 tx.text (w + 1) (ns ++ [t.text]) .nils,namB (w + 1) (ns ++ [t.text]),(m,none)] hr5 hl c6
     refine pB [.k (.bool false),.b true] rfl ?_
     refine S_callB rfl rfl rfl (mustT v l r5 e b d 0 [41] _ hr5 hl) hX hne fun _ r6 hx hX => ?_
     refine pB [] rfl ?_
     refine S_ret ⟨_,_,rfl,⟨rfl,trivial⟩,?_⟩
     exact PE.finZ hX (stFz10 (namFz (by decide) rfl) .nils .nils .nils .nils)
theorem Pr.bind_ok {α : Type} (x : Pr α) : x = x.bind fun y r => .ok y r:=by cases x <;> rfl
theorem small_ok (F : Nat) (hF : F ≤ 900000) (v : Nat) (l : List Tok) (e b d : Nat) (r : List Tok) (hr : r <:+ l) (hl : l.length ≤ 100000) (hT : ∀ t ∈ l,t.text.length ≤ 6000) (hb : b ≤ 2000000) (hne : smallS F b d r ≠ .out) :
  CallOk cx 57 [.ptr 0 v 0] (psH v l r e b d 0) (PE stA v l e b d 0 (smallS F b d r) []) :=
 callOk_introT (fun a w => Tryz.call57 a w) Tryz.func57 rfl Tryz.ntmps57 rfl fun B => by
  obtain ⟨X,hX⟩ : ∃ X,X = smallS F b d r:=⟨_,rfl⟩
  rw [← hX] at hne ⊢
  unfold smallS at hX
  by_cases c1 : isS wPass r = true
  ·rw [if_pos c1] at hX
   have hm:=may_yes v l r e b d 0 wPass [stO2] hr hl c1
   refine pB [.f (.bool true) (fun σ => psB v l r.tail e b d 0 :: σ.tail),.b true] rfl ?_
   refine S_ret ⟨_,_,rfl,⟨rfl,trivial⟩,?_⟩
   exact PE.finZ hX (stFz10 .nils .nils .nils .nils .nils)
  rw [if_neg c1] at hX
  have hm1:=may_no v l r e b d 0 wPass [stO2] hr hl c1
  by_cases c2 : isS wReturn r = true
  ·rw [if_pos c2] at hX
   have hi:=isT v l r e b d 0 wReturn [stO2] hr hl
   rw [c2] at hi
   by_cases d0 : d = 0
   ·rw [if_pos d0] at hX
    have e0 : ((d : Int) == 0) = true:=by rw [d0]; rfl
    refine pB [.k (.bool false),.b false,.k (.bool true),.b true,.b true] rfl ?_
    exact S_callE rfl rfl rfl (failT uA v l r e b d 0 4 _ hr hl) rfl hX
   rw [if_neg d0] at hX
   have e0 : ((d : Int) == 0) = false:=beq_false_of_ne (by omega)
   have hwr:=suf_nextI hr hl c2
   have hr1:=isS_suf hr
   refine pB [.k (.bool false),.b false,.k (.bool true),.b true,.b false] rfl ?_
   refine S_heap [psB v l r.tail e b d 0,stO2,(0,some (.cells [.int .i64 2,.str [],.nils,.int .i64 1,.int .i64 0,.str [],.nils,.nils,.nils,.nils] ⟨false,some 56⟩))] ?_ ?_
   ·show psI v l (IntKind.i64.wrap (((l.length - r.length : Nat) : Int) + 1)) e b d (0 : Nat) :: _ = _
    rw [hwr]; rfl
   have hk:=kindT v l r.tail e b d 0 [stO2,(0,some (.cells [.int .i64 2,.str [],.nils,.int .i64 1,.int .i64 0,.str [],.nils,.nils,.nils,.nils] ⟨false,some 56⟩))] hr1 hl
   by_cases k6 : hdK r.tail = 6
   ·have e6 : (((hdK r.tail : Nat) : Int) != 6) = false:=by rw [k6]; rfl
    rw [if_neg (fun h => h k6)] at hX
    refine pB [.k (.int .i64 (hdK r.tail : Nat)),.b false] rfl ?_
    refine S_ret ⟨_,_,rfl,⟨rfl,trivial⟩,?_⟩
    exact PE.finZ hX (stFz10 .nils .nils .nils .nils .nils)
   ·have e6 : (((hdK r.tail : Nat) : Int) != 6) = true:=bne_iff_ne.2 (by omega)
    rw [if_pos k6] at hX
    refine pB [.k (.int .i64 (hdK r.tail : Nat)),.b true] rfl ?_
    refine S_callB rfl rfl rfl (exprT F hF v l e b d 0 r.tail _ hr1 hl (by omega) (fun h => by rw [h] at hX; exact hne hX)) hX hne fun x r2 hx hX => ?_
    obtain ⟨xk,xn,xt,xs,xm⟩:=x
    refine pB [] rfl ?_
    refine S_ret ⟨_,_,rfl,⟨rfl,trivial⟩,?_⟩
    exact PE.finZ hX (stFz10 .nils (lowEx _) (lowTx _) .nils .nils)
  rw [if_neg c2] at hX
  have hi1:=isT v l r e b d 0 wReturn [stO2] hr hl
  rw [(Bool.not_eq_true _).mp c2] at hi1
  by_cases c3 : isS wLoad r = true
  ·rw [if_pos c3] at hX
   have hi:=isT v l r e b d 0 wLoad [stO2] hr hl
   rw [c3] at hi
   refine pB [.k (.bool false),.b false,.k (.bool false),.b false,.k (.bool true),.b true] rfl ?_
   have hne2 : loadS F b r ≠ .out:=fun h => by rw [h] at hX; exact hne hX
   have hL:=PE.tail [stO2] (load_ok F hF v l e b d r hr hl hT hb c3 hne2) hne2 (arg0_rn v [] (by simp)) stA_free
   refine S_callB rfl rfl rfl hL (hX.trans (Pr.bind_ok _)) hne fun x r2 hx hX => ?_
   obtain ⟨sk,st,sn,⟨xk,xn,xt,xs,xm⟩,sb,se⟩:=x
   refine pB [] rfl ?_
   refine S_ret ⟨_,_,rfl,⟨rfl,trivial⟩,?_⟩
   exact PE.finZ hX (stFz10 (lowTx _) (lowEx _) (lowTx _) (lowSt _) (lowSt _))
  rw [if_neg c3] at hX
  have hi2:=isT v l r e b d 0 wLoad [stO2] hr hl
  rw [(Bool.not_eq_true _).mp c3] at hi2
  have hk:=kindT v l r e b d 0 [stO2] hr hl
  have hml : (l.map tokA).length = l.length:=by simp
  by_cases c4 : ¬ nameS r = true
  ·rw [if_neg c4] at hX
   refine' S_shareR [(0,.ptr 0 v 0),(2,.ptr 1 0 0),(110,.ptr 0 v 0)] [psB v l r e b d 0,stO2] (fun cont => ?main) ?rest
   case main =>
    by_cases k1 : ¬ hdK r = 1
    ·have e1 : (((hdK r : Nat) : Int) == 1) = false:=beq_false_of_ne (by omega)
     refine pB [.k (.bool false),.b false,.k (.bool false),.b false,.k (.bool false),.b false,.k (.int .i64 (hdK r : Nat)),.b false,.b false,.b false,.b false] rfl ?_
     exact cont _ (.cons rfl (.cons rfl (.cons rfl (.nil _))))
    ·have k1 : hdK r = 1:=Decidable.not_not.1 k1
     obtain ⟨t,u3,rfl⟩ : ∃ t u3,r = t :: u3:=by
      cases r with
      | nil => cases k1
      | cons t u3 => exact ⟨t,u3,rfl⟩
     have e1 : (((hdK (t :: u3) : Nat) : Int) == 1) = true:=by rw [k1]; rfl
     have hw:=suf_next hr hl
     cases u3 with
     | nil =>
      have e2 : decide (IntKind.i64.wrap (((l.length - [t].length : Nat) : Int) + 1) < (((l.map tokA).length : Nat) : Int)) = false:=by
       rw [hw,hml]; exact decide_eq_false (by simp)
      refine pB [.k (.bool false),.b false,.k (.bool false),.b false,.k (.bool false),.b false,.k (.int .i64 (hdK [t] : Nat)),.b true,.b false,.b false,.b false] rfl ?_
      exact cont _ (.cons rfl (.cons rfl (.cons rfl (.nil _))))
     | cons t2 u4 =>
      have hr4:=suf_tail hr
      have hg2 : (l.map tokA)[(IntKind.i64.wrap (((l.length - (t :: t2 :: u4).length : Nat) : Int) + 1)).toNat]? = some (tokA t2):=by
       rw [hw]; exact suf_get hr4
      have h0 : (0 : Int) ≤ IntKind.i64.wrap (((l.length - (t :: t2 :: u4).length : Nat) : Int) + 1):=by rw [hw]; omega
      have e2 : decide (IntKind.i64.wrap (((l.length - (t :: t2 :: u4).length : Nat) : Int) + 1) < (((l.map tokA).length : Nat) : Int)) = true:=by
       have:=suf_lt hr4
       rw [hw,hml]; exact decide_eq_true (by omega)
      by_cases k4 : t2.kind = 4
      ·have e4 : ((t2.kind : Int) == 4) = true:=by rw [k4]; rfl
       have e5 : (t2.text == [61]) = false:=by
        cases hh : (t2.text == [61]) with
        | false => rfl
        | true => exact absurd (by unfold nameS; rw [k1]; show (true && (t2.kind == 4) && (t2.text == [61])) = true; rw [k4,hh]; rfl) c4
       refine pB [.k (.bool false),.b false,.k (.bool false),.b false,.k (.bool false),.b false,.k (.int .i64 (hdK (t :: t2 :: u4) : Nat)),.b true,.b true,.v (tokA t2),.b true,.v (tokA t2),.b false] rfl ?_
       exact cont _ (.cons rfl (.cons rfl (.cons rfl (.nil _))))
      ·have e4 : ((t2.kind : Int) == 4) = false:=beq_false_of_ne (by omega)
       refine pB [.k (.bool false),.b false,.k (.bool false),.b false,.k (.bool false),.b false,.k (.int .i64 (hdK (t :: t2 :: u4) : Nat)),.b true,.b true,.v (tokA t2),.b false,.b false] rfl ?_
       exact cont _ (.cons rfl (.cons rfl (.cons rfl (.nil _))))
   case rest =>
    refine S_callB rfl rfl rfl (exprT F hF v l e b d 0 r [stO2] hr hl (by omega) (fun h => by rw [h] at hX; exact hne hX)) hX hne fun x r2 hx hX => ?_
    obtain ⟨xk,xn,xt,xs,xm⟩:=x
    refine pB [] rfl ?_
    refine S_ret ⟨_,_,rfl,⟨rfl,trivial⟩,?_⟩
    exact PE.finZ hX (stFz10 .nils (lowEx _) (lowTx _) .nils .nils)
  have c4 : nameS r = true:=Decidable.not_not.1 c4
  rw [if_pos c4] at hX
  obtain ⟨t,t2,u4,rfl⟩ : ∃ t t2 u4,r = t :: t2 :: u4:=by
   match r,c4 with
   | [],h => simp [nameS,hdK] at h
   | [t],h => simp [nameS,hdK] at h
   | t :: t2 :: u4,_ => exact ⟨t,t2,u4,rfl⟩
  have c4' : ((t.kind == 1) && (t2.kind == 4) && (t2.text == [61])) = true:=c4
  simp only [Bool.and_eq_true] at c4'
  obtain ⟨⟨k1,k4⟩,e5⟩:=c4'
  have k1 : t.kind = 1:=beq_iff_eq.1 k1
  have k4 : t2.kind = 4:=beq_iff_eq.1 k4
  have e1 : (((hdK (t :: t2 :: u4) : Nat) : Int) == 1) = true:=by rw [show hdK (t :: t2 :: u4) = t.kind from rfl,k1]; rfl
  have hw:=suf_next hr hl
  have hr4:=suf_tail hr
  have hr5:=suf_tail hr4
  have hg1:=suf_get hr
  have hg2 : (l.map tokA)[(IntKind.i64.wrap (((l.length - (t :: t2 :: u4).length : Nat) : Int) + 1)).toNat]? = some (tokA t2):=by
   rw [hw]; exact suf_get hr4
  have h0 : (0 : Int) ≤ IntKind.i64.wrap (((l.length - (t :: t2 :: u4).length : Nat) : Int) + 1):=by rw [hw]; omega
  have ht:=suf_lt hr
  have e2 : decide (IntKind.i64.wrap (((l.length - (t :: t2 :: u4).length : Nat) : Int) + 1) < (((l.map tokA).length : Nat) : Int)) = true:=by
   have:=suf_lt hr4
   rw [hw,hml]; exact decide_eq_true (by omega)
  have e4 : ((t2.kind : Int) == 4) = true:=by rw [k4]; rfl
  have hw2 : IntKind.i64.wrap (((l.length - (t :: t2 :: u4).length : Nat) : Int) + 2) = ((l.length - u4.length : Nat) : Int):=by
   have:=hr.length_le
   simp only [List.length_cons] at this ⊢
   rw [IntWalk.i64_in _ ⟨by omega,by omega⟩]; omega
  refine pB [.k (.bool false),.b false,.k (.bool false),.b false,.k (.bool false),.b false,.k (.int .i64 (hdK (t :: t2 :: u4) : Nat)),.b true,.b true,.v (tokA t2),.b true,.v (tokA t2),.b true] rfl ?_
  refine S_drawCN [psB v l (t :: t2 :: u4) e b d 0,stO2,stO2] 12 13 [] [tokA t,.ptr 2 0 0] rfl rfl rfl rfl rfl ?_ ?_
  ·(repeat' with_reducible apply AllP_cons) <;> try exact aC
  refine pB [] rfl ?_
  refine S_heap [psB v l u4 e b d 0,stO2,(0,some (.cells [.int .i64 3,.str t.text,.nils,.int .i64 0,.int .i64 0,.str [],.nils,.nils,.nils,.nils] ⟨false,some 56⟩))] ?_ ?_
  ·show psI v l (IntKind.i64.wrap (((l.length - (t :: t2 :: u4).length : Nat) : Int) + 2)) e b d (0 : Nat) :: _ = _
   rw [hw2]; rfl
  refine S_callB rfl rfl rfl (exprT F hF v l e b d 0 u4 _ hr5 hl (by omega) (fun h => by rw [show (t :: t2 :: u4).tail.tail = u4 from rfl,h] at hX; exact hne hX)) hX hne fun x r2 hx hX => ?_
  obtain ⟨xk,xn,xt,xs,xm⟩:=x
  refine pB [] rfl ?_
  refine S_ret ⟨_,_,rfl,⟨rfl,trivial⟩,?_⟩
  exact PE.finZ hX (stFz10 .nils (lowEx _) (lowTx _) .nils .nils)
def defS (F b d : Nat) (r : List Tok) : Pr St:=if b > 0 then .bad 4 r else (takeS 1 r.tail).bind fun t r => (mustS [40] r).bind fun _ r => (if hdK r = 1 then paramS F [] r else .ok [] r).bind fun ns r => (mustS [41] r).bind fun _ r => (blockS F b (d + 1) r).bind fun l r => .ok (.mk 6 t.text ns .zero l []) r
theorem def_ok (F : Nat) (hF : F ≤ 900000) (hB : Cb F) (v : Nat) (l : List Tok) (e b d : Nat) (r : List Tok) (hr : r <:+ l) (hl : l.length ≤ 100000) (hT : ∀ t ∈ l,t.text.length ≤ 6000) (hb : b + F ≤ 2000000) (hd : d + 1 + F ≤ 2000000) (hw : isS wDef r = true) (hne : defS F b d r ≠ .out) :
  CallOk cx 51 [.ptr 0 v 0] (psH v l r e b d 0) (PE stA v l e b d 0 (defS F b d r) []) :=
 callOk_introT (fun a w => Tryz.call51 a w) Tryz.func51 rfl Tryz.ntmps51 rfl fun B => by
  obtain ⟨X,hX⟩ : ∃ X,X = defS F b d r:=⟨_,rfl⟩
  rw [← hX] at hne ⊢
  unfold defS at hX
  by_cases c1 : b > 0
  ·rw [if_pos c1] at hX
   refine pB [.b true] rfl ?_
   exact S_callE rfl rfl rfl (failT uA v l r e b d 0 4 _ hr hl) rfl hX
  rw [if_neg c1] at hX
  have hwr:=suf_nextI hr hl hw
  have hr1:=isS_suf hr
  refine pB [.b false] rfl ?_
  refine S_heap (psB v l r.tail e b d 0 :: [stO2]) ?_ ?_
  ·show psI v l (IntKind.i64.wrap (((l.length - r.length : Nat) : Int) + 1)) e b d (0 : Nat) :: _ = _
   rw [hwr]; rfl
  refine S_callB rfl rfl rfl (takeT v l r.tail e b d 0 1 [stO2] hr1 hl (by decide)) hX hne fun tx r3 hx hX => ?_
  have hr3:=(takeS_s _ _ _ _ hx).trans hr1
  clear hx hwr hr1 hr
  refine pB [] rfl ?_
  refine S_ghost (id:=2) (j:=2) 1 ⟨false,none⟩ rfl rfl rfl (Nat.ne_of_lt (lble rfl)) ⟨.skip,_,.inr ⟨_,_,_,rfl⟩⟩ ?_
  refine S_heap [psB v l r3 e b d 0,stO2,stX 6 tx.text 0 [] .nils,namB 0 []] rfl ?_
  refine S_callB rfl rfl rfl (mustT v l r3 e b d 0 [40] [stO2,stX 6 tx.text 0 [] .nils,namB 0 []] hr3 hl) hX hne fun _ r4 hx hX => ?_
  have hr4:=(mustS_s _ _ _ _ hx).trans hr3
  clear hx hr3
  have hk:=kindT v l r4 e b d 0 [stO2,stX 6 tx.text 0 [] .nils,namB 0 []] hr4 hl
  refine' S_shareU (ι:=NamSt) [(0,.ptr 0 v 0),(2,.ptr 1 0 0),(3,.ptr 2 0 0),(59,.ptr 0 v 0)] (fun q => [psB v l q.r e b d 0,stO2,stX 6 tx.text q.w q.ns .nils,namB q.w q.ns])
   (fun q => q.r <:+ l ∧ q.ns.length ≤ F ∧ X = (mustS [41] q.r).bind fun _ r => (blockS F b (d + 1) r).bind fun l r => .ok (.mk 6 tx.text q.ns .zero l []) r) (fun cont => ?main) ?rest
  case main =>
   by_cases k1 : ¬ hdK r4 = 1
   ·have e1 : (((hdK r4 : Nat) : Int) == 1) = false:=beq_false_of_ne (by omega)
    rw [if_neg k1] at hX
    refine pB [.k (.int .i64 (hdK r4 : Nat)),.b false] rfl ?_
    exact cont ⟨0,[],r4,0,0⟩ _ ⟨hr4,Nat.zero_le _,hX⟩ (.cons rfl (.cons rfl (.cons rfl (.cons rfl (.nil _)))))
   have k1 : hdK r4 = 1:=Decidable.not_not.1 k1
   have e1 : (((hdK r4 : Nat) : Int) == 1) = true:=by rw [k1]; rfl
   rw [if_pos k1] at hX
   refine pB [.k (.int .i64 (hdK r4 : Nat)),.b true] rfl ?_
   refine S_while (α:=NamSt) (fun q => [(0,.ptr 0 v 0),(2,.ptr 1 0 0),(3,.ptr 2 0 0)]) (fun q => [psB v l q.r e b d 0,stO2,stX 6 tx.text q.w q.ns .nils,namB q.w q.ns])
    (fun q => q.F ≤ F ∧ q.r <:+ l ∧ (paramS q.F q.ns q.r).bind (fun ns r => (mustS [41] r).bind fun _ r => (blockS F b (d + 1) r).bind fun l r => .ok (.mk 6 tx.text ns .zero l []) r) = X ∧ q.ns.length + q.F ≤ F) (fun q => q.F) ⟨F,[],r4,0,0⟩ ⟨Nat.le_refl _,hr4,hX.symm,by show 0 + F ≤ F; omega⟩ (.cons rfl (.cons rfl (.cons rfl (.nil _)))) rfl ?_
   clear hX hr4 hk e1 k1
   rintro ⟨F1,ns,r,w,_⟩ ⟨hF1,hr,hX,hns⟩
   have hF1 : F1 ≤ F:=hF1
   have hr : r <:+ l:=hr
   have hX : X = (paramS F1 ns r).bind (fun ns r => (mustS [41] r).bind fun _ r => (blockS F b (d + 1) r).bind fun l r => .ok (.mk 6 tx.text ns .zero l []) r):=hX.symm
   have hns : ns.length + F1 ≤ F:=hns
   show S cx _ B _ _ [(0,.ptr 0 v 0),(2,.ptr 1 0 0),(3,.ptr 2 0 0)] [psB v l r e b d 0,stO2,stX 6 tx.text w ns .nils,namB w ns]
   cases F1 with
   | zero => exact absurd hX hne
   | succ F1 =>
   rw [paramS] at hX
   have hk:=kindT v l r e b d 0 [stO2,stX 6 tx.text w ns .nils,namB w ns] hr hl
   refine' S_shareG (ι:=Unit) [(0,.ptr 0 v 0),(2,.ptr 1 0 0),(3,.ptr 2 0 0)] (fun _ => [psB v l r e b d 0,stO2,stX 6 tx.text w ns .nils,namB w ns]) (fun _ => ¬ (hdK r == 1 && ns.contains (hdT r)) = true) (fun cont2 => ?main2) ?rest2
   case main2 =>
    by_cases k1 : ¬ hdK r = 1
    ·have e1 : (((hdK r : Nat) : Int) == 1) = false:=beq_false_of_ne (by omega)
     refine pB [.k (.int .i64 (hdK r : Nat)),.b false,.b false] rfl ?_
     exact cont2 () _ (by rw [beq_false_of_ne k1]; simp) (.cons rfl (.cons rfl (.cons rfl (.nil _))))
    have k1 : hdK r = 1:=Decidable.not_not.1 k1
    obtain ⟨t,u,rfl⟩ : ∃ t u,r = t :: u:=by
     cases r with
     | nil => cases k1
     | cons t u => exact ⟨t,u,rfl⟩
    have e1 : (((hdK (t :: u) : Nat) : Int) == 1) = true:=by rw [k1]; rfl
    have hg:=suf_get hr
    have ht:=suf_lt hr
    have hml : (l.map tokA).length = l.length:=by simp
    have hCo:=ContainsS_ok (st:=false) (fl:=false) ns t.text (by omega)
    have hFz : Frzs [psB v l (t :: u) e b d 0,stO2,stX 6 tx.text w ns .nils,namB w ns] [.ms 3 w 0 ns.length 1 false,.str t.text] [.sl false false 1 (texts ns),.str t.text]:=.cons (.ms1 rfl (fun x hx => by obtain ⟨y,_,rfl⟩:=List.mem_map.1 hx; rfl) (texts_len ns) (textsF ns)) (.cons (.refl .str) (.nil _))
    by_cases c3 : t.text ∈ ns
    ·rw [if_pos (by show (hdK (t :: u) == 1 && ns.contains t.text) = true; rw [k1]; simpa using c3)] at hX
     rw [decide_eq_true c3] at hCo
     refine pa [.k (.int .i64 (hdK (t :: u) : Nat)),.b true,.v (tokA t),.v (.bool true),.b true] rfl ?_ ?_
     ·(repeat' with_reducible apply AllP_cons) <;> try exact aC
      exact ⟨_,hCo,hFz⟩
     exact S_callE rfl rfl rfl (failT uA v l _ e b d 0 6 _ hr hl) rfl hX
    ·rw [decide_eq_false c3] at hCo
     refine pa [.k (.int .i64 (hdK (t :: u) : Nat)),.b true,.v (tokA t),.v (.bool false),.b false] rfl ?_ ?_
     ·(repeat' with_reducible apply AllP_cons) <;> try exact aC
      exact ⟨_,hCo,hFz⟩
     exact cont2 () _ (by show ¬ (hdK (t :: u) == 1 && ns.contains t.text) = true; rw [k1]; simpa using c3) (.cons rfl (.cons rfl (.cons rfl (.nil _))))
   case rest2 =>
    intro _ cc
    rw [if_neg cc,Pr.assoc] at hX
    show S cx _ B _ _ [(0,.ptr 0 v 0),(2,.ptr 1 0 0),(3,.ptr 2 0 0)] [psB v l r e b d 0,stO2,stX 6 tx.text w ns .nils,namB w ns]
    have hTk:=takeT v l r e b d 0 1 [stO2,stX 6 tx.text w ns .nils,namB w ns] hr hl (by decide)
    cases hx : takeS 1 r with
    | out => rw [hx] at hX; exact absurd hX hne
    | bad j u =>
     rw [hx] at hX
     refine S_drawE 3 [] [] rfl rfl rfl rfl rfl rfl ?_ hTk hx hX
     (repeat' with_reducible apply AllP_cons) <;> try exact aC
    | ok t r5 =>
     have hTk:=PE.ok hTk hx
     rw [hx] at hX
     have hX : X = (if isS [44] r5 then paramS F1 (ns ++ [t.text]) r5.tail else .ok (ns ++ [t.text]) r5).bind (fun ns r => (mustS [41] r).bind fun _ r => (blockS F b (d + 1) r).bind fun l r => .ok (.mk 6 tx.text ns .zero l []) r):=hX
     have hr5:=(takeS_s _ _ _ _ hx).trans hr
     have hbx : 0 + ns.length * 1 = (texts ns).length:=by rw [texts_len]; omega
     refine pa [.d 3 6 [] (fun σ => psB v l r5 e b d 0 :: σ.tail) [tokA t]] rfl ?_ ?_
     ·(repeat' with_reducible apply AllP_cons) <;> try exact aC
      ·exact ⟨_,hTk,rfl⟩
      ·show (ns.length + 1) * 16 ≤ 140737488355328
       omega
     refine S_heap [psB v l r5 e b d 0,stO2,stX 6 tx.text (w + 1) (ns ++ [t.text]) .nils,namB (w + 1) (ns ++ [t.text])] ?_ ?_
     ·show [psB v l r5 e b d 0,stO2,(0,some (.cells [.int .i64 6,.str tx.text,.ms 3 (w + 1) 0 (ns.length + 1) 1 false,.int .i64 0,.int .i64 0,.str [],.nils,.nils,.nils,.nils] ⟨false,some 56⟩)),(w + 1,some (.cells (texts ns ++ [.str t.text]) ⟨false,none⟩))] = _
      unfold stX namB
      rw [List.length_append,nam_snoc]; rfl
     by_cases c6 : isS [44] r5 = true
     ·rw [if_pos c6] at hX
      have hm:=may_yes v l r5 e b d 0 [44] [stO2,stX 6 tx.text (w + 1) (ns ++ [t.text]) .nils,namB (w + 1) (ns ++ [t.text])] hr5 hl c6
      refine pB [.f (.bool true) (fun σ => psB v l r5.tail e b d 0 :: σ.tail),.b false] rfl ?_
      exact S_round ⟨F1,ns ++ [t.text],r5.tail,w + 1,0⟩ (Nat.lt_succ_self _) ⟨by show F1 ≤ F; omega,isS_suf hr5,hX.symm,by show (ns ++ [_]).length + F1 ≤ F; rw [List.length_append,List.length_singleton]; omega⟩ (.cons rfl (.cons rfl (.cons rfl (.nil _)))) rfl
     ·rw [if_neg c6] at hX
      have hm:=may_no v l r5 e b d 0 [44] [stO2,stX 6 tx.text (w + 1) (ns ++ [t.text]) .nils,namB (w + 1) (ns ++ [t.text])] hr5 hl c6
      refine pB [.k (.bool false),.b true] rfl ?_
      exact cont ⟨0,ns ++ [t.text],r5,w + 1,0⟩ _ ⟨hr5,by show (ns ++ [_]).length ≤ F; rw [List.length_append,List.length_singleton]; omega,hX⟩ (.cons rfl (.cons rfl (.cons rfl (.cons rfl (.nil _)))))
  case rest =>
   rintro ⟨_,ns,r5,w,_⟩ ⟨hr5,hns,hX⟩
   have hr5 : r5 <:+ l:=hr5
   have hns : ns.length ≤ F:=hns
   have hX : X = (mustS [41] r5).bind fun _ r => (blockS F b (d + 1) r).bind fun l r => .ok (.mk 6 tx.text ns .zero l []) r:=hX
   show S cx _ B _ _ [(0,.ptr 0 v 0),(2,.ptr 1 0 0),(3,.ptr 2 0 0),(59,.ptr 0 v 0)] [psB v l r5 e b d 0,stO2,stX 6 tx.text w ns .nils,namB w ns]
   refine S_callB rfl rfl rfl (mustT v l r5 e b d 0 [41] [stO2,stX 6 tx.text w ns .nils,namB w ns] hr5 hl) hX hne fun _ r6 hx hX => ?_
   have hr6:=(mustS_s _ _ _ _ hx).trans hr5
   clear hx
   have hw : IntKind.i64.wrap ((d : Nat) + 1) = ((d + 1 : Nat) : Int):=by rw [IntWalk.i64_in _ ⟨by omega,by omega⟩]; omega
   have hw1 : IntKind.i64.wrap (((d + 1 : Nat) : Int) - 1) = (d : Int):=by rw [IntWalk.i64_in _ ⟨by omega,by omega⟩]; omega
   refine pB [] rfl ?_
   refine S_heap (psB v l r6 e b (d + 1) 0 :: [stO2,stX 6 tx.text w ns .nils,namB w ns]) ?_ ?_
   ·show psI v l ((l.length - r6.length : Nat) : Int) e b (IntKind.i64.wrap ((d : Nat) + 1)) (0 : Nat) :: _ = _
    rw [hw]; rfl
   have hne2 : blockS F b (d + 1) r6 ≠ .out:=fun h => by rw [h] at hX; exact hne hX
   refine S_callB (d:=d + 1) rfl rfl rfl (hB.tail v l e b (d + 1) r6 [stO2,stX 6 tx.text w ns .nils,namB w ns] hr6 hl hT hb (by omega) hne2) hX hne fun ls r7 hx hX => ?_
   refine pB [] rfl ?_
   refine S_heap (psB v l r7 e b d 0 :: _) (by
    show psI v l ((l.length - r7.length : Nat) : Int) e b (IntKind.i64.wrap (((d + 1 : Nat) : Int) - 1)) (0 : Nat) :: _ = _
    rw [hw1]; rfl) ?_
   refine S_ret ⟨_,_,rfl,⟨rfl,trivial⟩,?_⟩
   exact PE.finZ hX (stFz10 (namFz (by decide) rfl) .nils .nils (lowSt _) .nils)
theorem stmt_ok (F : Nat) (hF : F ≤ 900000) (hB : Cb F) : Cs 36 stmtS (F + 1):=fun v l e b d r hr hl hT hb hd hne =>
 callOk_introT (fun a w => Tryz.call36 a w) Tryz.func36 rfl Tryz.ntmps36 rfl fun B => by
  obtain ⟨X,hX⟩ : ∃ X,X = stmtS (F + 1) b d r:=⟨_,rfl⟩
  rw [← hX] at hne ⊢
  rw [stmtS] at hX
  have hi1:=isT v l r e b d 0 wDef [stO2] hr hl
  by_cases c1 : isS wDef r = true
  ·rw [if_pos c1] at hX
   have hX : X = defS F b d r:=hX
   rw [c1] at hi1
   refine pB [.k (.bool true),.b true] rfl ?_
   have hne2 : defS F b d r ≠ .out:=fun h => by rw [h] at hX; exact hne hX
   have hL:=PE.tail [stO2] (def_ok F hF hB v l e b d r hr hl hT (by omega) (by omega) c1 hne2) hne2 (arg0_rn v [] (by simp)) stA_free
   refine S_callB rfl rfl rfl hL (hX.trans (Pr.bind_ok _)) hne fun x r2 hx hX => ?_
   obtain ⟨sk,st,sn,⟨xk,xn,xt,xs,xm⟩,sb,se⟩:=x
   refine pB [] rfl ?_
   refine S_ret ⟨_,_,rfl,⟨rfl,trivial⟩,?_⟩
   exact PE.finZ hX (stFz10 (lowTx _) (lowEx _) (lowTx _) (lowSt _) (lowSt _))
  rw [if_neg c1] at hX
  rw [(Bool.not_eq_true _).mp c1] at hi1
  by_cases c2 : isS wIf r = true
  ·rw [if_pos c2] at hX
   have hm:=may_yes v l r e b d 0 wIf [stO2] hr hl c2
   have hr1:=isS_suf hr
   refine pB [.k (.bool false),.b false,.f (.bool true) (fun σ => psB v l r.tail e b d 0 :: σ.tail),.b true] rfl ?_
   refine S_callB rfl rfl rfl (exprT F hF v l e b d 0 r.tail _ hr1 hl (by omega) (fun h => by rw [h] at hX; exact hne hX)) hX hne fun x r2 hx hX => ?_
   have hr2:=((allS F).expr _ _ _ _ hx).trans hr1
   clear hx
   obtain ⟨xk,xn,xt,xs,xm⟩:=x
   refine pB [] rfl ?_
   refine S_callB rfl rfl rfl (hB.tail v l e b d r2 _ hr2 hl hT (by omega) (by omega) (fun h => by rw [h] at hX; exact hne hX)) hX hne fun ls r3 hx hX => ?_
   have hr3:=((allW F).block _ _ _ _ _ hx).trans hr2
   clear hx
   by_cases c3 : isS wElse r3 = true
   ·rw [if_pos c3] at hX
    have hm:=fun τ => may_yes v l r3 e b d 0 wElse τ hr3 hl c3
    have hr4:=isS_suf hr3
    refine pa [.f (.bool true) (fun σ => psB v l r3.tail e b d 0 :: σ.tail),.b true] rfl ?_ ?_
    ·(repeat' with_reducible apply AllP_cons) <;> try exact aC
     exact hm _
    refine S_callB rfl rfl rfl (hB.tail v l e b d r3.tail _ hr4 hl hT (by omega) (by omega) (fun h => by rw [h] at hX; exact hne hX)) hX hne fun ls2 r5 hx hX => ?_
    refine pB [] rfl ?_
    refine S_ret ⟨_,_,rfl,⟨rfl,trivial⟩,?_⟩
    exact PE.finZ hX (stFz10 .nils (lowEx _) (lowTx _) (lowSt _) (lowSt _))
   ·rw [if_neg c3] at hX
    have hm:=fun τ => may_no v l r3 e b d 0 wElse τ hr3 hl c3
    refine pa [.k (.bool false),.b false] rfl ?_ ?_
    ·(repeat' with_reducible apply AllP_cons) <;> try exact aC
     exact hm _
    refine S_ret ⟨_,_,rfl,⟨rfl,trivial⟩,?_⟩
    exact PE.finZ hX (stFz10 .nils (lowEx _) (lowTx _) (lowSt _) .nils)
  rw [if_neg c2] at hX
  have hm2:=may_no v l r e b d 0 wIf [stO2] hr hl c2
  by_cases c3 : isS wFor r = true
  ·rw [if_pos c3] at hX
   have hm:=may_yes v l r e b d 0 wFor [stO2] hr hl c3
   have hr1:=isS_suf hr
   refine pB [.k (.bool false),.b false,.k (.bool false),.b false,.f (.bool true) (fun σ => psB v l r.tail e b d 0 :: σ.tail),.b true] rfl ?_
   refine S_callB rfl rfl rfl (takeT v l r.tail e b d 0 1 _ hr1 hl (by decide)) hX hne fun t r2 hx hX => ?_
   have hr2:=(takeS_s _ _ _ _ hx).trans hr1
   clear hx
   refine pB [] rfl ?_
   refine S_callB rfl rfl rfl (mustT v l r2 e b d 0 wIn _ hr2 hl) hX hne fun _ r3 hx hX => ?_
   have hr3:=(mustS_s _ _ _ _ hx).trans hr2
   clear hx
   refine pB [] rfl ?_
   refine S_callB rfl rfl rfl (exprT F hF v l e b d 0 r3 _ hr3 hl (by omega) (fun h => by rw [h] at hX; exact hne hX)) hX hne fun x r4 hx hX => ?_
   have hr4:=((allS F).expr _ _ _ _ hx).trans hr3
   clear hx
   obtain ⟨xk,xn,xt,xs,xm⟩:=x
   refine pB [] rfl ?_
   refine S_callB rfl rfl rfl (hB.tail v l e b d r4 _ hr4 hl hT (by omega) (by omega) (fun h => by rw [h] at hX; exact hne hX)) hX hne fun ls r5 hx hX => ?_
   refine pB [] rfl ?_
   refine S_ret ⟨_,_,rfl,⟨rfl,trivial⟩,?_⟩
   exact PE.finZ hX (stFz10 .nils (lowEx _) (lowTx _) (lowSt _) .nils)
  rw [if_neg c3] at hX
  have hm3:=may_no v l r e b d 0 wFor [stO2] hr hl c3
  refine pB [.k (.bool false),.b false,.k (.bool false),.b false,.k (.bool false),.b false] rfl ?_
  have hne2 : smallS F b d r ≠ .out:=fun h => by rw [h] at hX; exact hne hX
  have hL:=PE.tail [stO2] (small_ok F hF v l e b d r hr hl hT (by omega) hne2) hne2 (arg0_rn v [] (by simp)) stA_free
  refine S_callB rfl rfl rfl hL hX hne fun x r2 hx hX => ?_
  have hr2:=(smallS_s F b d r _ _ hx).trans hr
  clear hx
  obtain ⟨sk,st,sn,⟨xk,xn,xt,xs,xm⟩,sb,se⟩:=x
  refine pB [] rfl ?_
  refine S_callB rfl rfl rfl (takeT v l r2 e b d 0 6 _ hr2 hl (by decide)) hX hne fun t r3 hx hX => ?_
  refine pB [] rfl ?_
  refine S_ret ⟨_,_,rfl,⟨rfl,trivial⟩,?_⟩
  exact PE.finZ hX (stFz10 (lowTx _) (lowEx _) (lowTx _) (lowSt _) (lowSt _))
theorem allD (F : Nat) : F ≤ 900000 → ∀ F',F' ≤ F → Cs 36 stmtS F' ∧ Cb F':=by
 induction F with
 | zero =>
  intro _ F' h
  obtain rfl : F' = 0:=by omega
  exact ⟨fun _ _ _ _ _ _ _ _ _ _ _ h => absurd rfl h,fun _ _ _ _ _ _ _ _ _ _ _ h => absurd rfl h⟩
 | succ F ih =>
  intro hF F' h
  rcases Nat.lt_or_ge F' (F + 1) with h' | h'
  ·exact ih (by omega) F' (by omega)
  obtain rfl : F' = F + 1:=by omega
  have ih:=ih (by omega)
  exact ⟨stmt_ok F (by omega) (ih F (Nat.le_refl _)).2,block_ok F (by omega) fun F' h => (ih F' h).1⟩
def parseAV (x : List St × Flt) : AV:=.tup [stsA x.1,fltA x.2]
theorem parseAV_free (x : List St × Flt) : Free true (parseAV x):=.tup (by intro y hy; simp at hy; rcases hy with rfl | rfl; exact stsA_free _; exact flt_free _)
theorem parse2_ok (q v : Nat) (l r : List Tok) (e b d n : Nat) (τ : Heap) (hr : r <:+ l) (hl : l.length ≤ 100000) :
  CallOk cx 22 [.ptr 1 q 0] (psB v l r e b d n :: qB q v :: τ) (fun o σ => o = .ret (.bool (!atEnd true r)) ∧ σ = psB v l r e b d n :: qB q v :: τ) :=
 callOk_intro (fun a w => Tryz.call22 a w) Tryz.func22 rfl Tryz.ntmps22 rfl fun B => by
  refine pB [] rfl ?_
  refine S_ret ⟨_,_,rfl,trivial,?_,rfl⟩
  show Out.ret (.bool (decide ((((l.length - r.length : Nat) : Nat) : Int) < (((l.map tokA).length : Nat) : Int)))) = .ret (.bool (!r.isEmpty))
  congr 2
  rw [List.length_map]
  have:=hr.length_le
  cases r with
  | nil => exact decide_eq_false (by simp)
  | cons t u => simp only [List.length_cons] at this ⊢; exact decide_eq_true (by omega)
theorem pclos_ret (x : AV) (e : Flt) (a b : Nat × Box) (R : Md → Heap → Prop) (h : ∀ y,R .ret [xo x,xf e,(a.1,some a.2),(b.1,some b.2),y]) :
  DCall cx (.func (.func 20) [] [.ptr 0 0 0,.ptr 1 0 0]) .ret [xo x,xf e,(a.1,some a.2),(b.1,some b.2)] R :=
 dcall_recover (fun a w => Tryz.call20 a w) Tryz.func20 rfl Tryz.ntmps20 rfl rfl rfl rfl rfl rfl rfl fun B => by
  refine pB [.b false] rfl ?_
  exact S_nil ⟨_,_,rfl,trivial,_,rfl,h _⟩
theorem pclos_pan (x : AV) (e g : Flt) (a b : Nat × Box) (R : Md → Heap → Prop) (h : ∀ y,R (.pan (flt g) true) [xo .nils,xf g,(a.1,some a.2),(b.1,some b.2),y]) :
  DCall cx (.func (.func 20) [] [.ptr 0 0 0,.ptr 1 0 0]) (.pan (flt g) false) [xo x,xf e,(a.1,some a.2),(b.1,some b.2)] R :=
 dcall_recover (fun a w => Tryz.call20 a w) Tryz.func20 rfl Tryz.ntmps20 rfl rfl rfl rfl rfl rfl rfl fun B => by
  refine pB [.b true] rfl ?_
  refine S_drawC [xo .nils,xf e,(a.1,some a.2),(b.1,some b.2),xf g] 1 2 [] [.tup []] rfl rfl rfl rfl rfl ⟨rfl,rfl,rfl,rfl,rfl,rfl,lble rfl,rfl,rfl,trivial⟩ ?_
  refine pB [] rfl ?_
  exact S_nil ⟨_,_,rfl,trivial,_,rfl,h _⟩
theorem parse_fuel (s : List UInt8) : fuelS (splitS s).1 ≤ 900000:=by
 have:=splitS_size s
 unfold fuelS; omega
theorem parse_ne (l : List Tok) : stmtsS (fuelS l) true 0 0 [] l ≠ .out:=((allU (fuelS l)).stmts true 0 0 [] l (by unfold fuelS; omega)).1
theorem psBox_rn (v : Nat) (l r : List Tok) (e b d n : Nat) (ids : List Nat) : RnE ids (psB v l r e b d n) (psB v l r e b d n):=.live (.cells (.free (psB_free v l r e b d n)))
theorem Parse_ok (s : List UInt8) : Calc cx 10 [.str s] (parseAV (parseS s)) :=
 calc_of (parseAV_free _) (callOk_introD (fun a w => Tryz.call10 a w) Tryz.func10 rfl Tryz.ntmps10 rfl fun B hB => by
  have hlen:=splitS_size s
  have hfu:=parse_fuel s
  have hg:=splitS_good s
  have hsz : (splitS s).2.1 = 0 → s.length ≤ 6000:=by
   unfold splitS
   split
   ·intro h; cases h
   ·intro _; omega
  have hSp0:=Split_ok s
  obtain ⟨Y,hY⟩ : ∃ Y,Y = parseS s:=⟨_,rfl⟩
  rw [← hY]
  unfold parseS at hY
  obtain ⟨l,e1,e2,hsp⟩ : ∃ l e1 e2,splitS s = (l,(e1,e2)):=⟨_,_,_,rfl⟩
  rw [hsp] at hlen hfu hg hsz hSp0 hY
  have hY : Y = if e1 ≠ 0 then ([],(e1,e2)) else match stmtsS (fuelS l) true 0 0 [] l with | .ok x _ => (x,(0,0)) | .bad e r => ([],(e,placeS s.length r)) | .out => ([],(0,0)):=hY
  have hlen : l.length ≤ 24040:=hlen
  have hfu : fuelS l ≤ 900000:=hfu
  have hSp : Calc cx 18 [.str s] (.tup [.sl true false 4 (l.map tokA),.agg [.int .i64 (e1 : Nat),.int .i64 (e2 : Nat)]]):=hSp0
  have hsz : e1 = 0 → s.length ≤ 6000:=hsz
  clear hSp0
  by_cases h1 : e1 = 0
  ·subst h1
   rw [if_neg (by decide)] at hY
   have hsz:=hsz rfl
   have hT : ∀ t ∈ l,t.text.length ≤ 6000:=fun t ht => by have:=(hg t ht).size; omega
   have hne:=parse_ne l
   refine pa [.v (.tup [.sl true false 4 (l.map tokA),.agg [.int .i64 (0 : Nat),.int .i64 (e2 : Nat)]]),.b false] rfl ?_ ?_
   ·(repeat' with_reducible apply AllP_cons) <;> try exact aC
    exact ⟨_,hSp,.cons (.refl .str) (.nil _)⟩
   refine S_defer rfl rfl rfl rfl hB ?_
   refine pB [] rfl ?_
   refine S_heap [xo .nils,xf (0,e2),psB 0 l l s.length 0 0 0,(0,some (.cells [.ptr 2 0 0] ⟨false,none⟩))] ?_ ?_
   ·show [xo .nils,xf (0,e2),psI 0 l 0 (s.length : Nat) 0 0 0,(0,some (.cells [.ptr 2 0 0] ⟨false,none⟩))] = _
    unfold psB psI
    rw [Nat.sub_self]; rfl
   have hst:=stmts_ok (fuelS l) hfu true 22 (fun F' h => (allD (fuelS l) hfu F' h).1) 0 0 l s.length 0 0 l (List.suffix_refl _) (by omega) hT (by omega) (by omega)
    (fun r τ hr => parse2_ok 0 0 l r s.length 0 0 0 τ hr (by omega)) hne
   refine S_callf [2,3] hst rfl (.cons (.ptr rfl) (.cons (.func rfl (fun i h => by simp at h) rfl (fun i h _ => by
    have : i = 0:=by simp at h; omega
    subst this; exact .ptr rfl)) (.nil _))) (Part.mk' (es:=[psB 0 l l s.length 0 0 0,(0,some (.cells [.ptr 2 0 0] ⟨false,none⟩))]) rfl rfl
    (.cons (psBox_rn ..) (.cons (.live (.cells (.cons (.ptr rfl) (.nil _)))) (.nil _)))) rfl rfl ?_ ?_
   ·intro y σ1 h
    cases hx : stmtsS (fuelS l) true 0 0 [] l with
    | out => exact absurd hx hne
    | bad j u => rw [hx] at h; cases h.1
    | ok x u =>
     rw [hx] at h hY
     have hY : Y = (x,(0,0)):=hY
     subst hY
     obtain ⟨h1,rfl⟩:=h
     cases h1
     refine ⟨stsA x,[psB 0 l u s.length 0 0 0,(0,some (.cells [.ptr 2 0 0] ⟨false,none⟩))],(.cons (psBox_rn ..) (.cons (.live (.cells (.cons (.ptr rfl) (.nil _)))) (.nil _))),.free (stsA_free _),?_⟩
     refine pB [] rfl ?_
     refine S_ret ⟨_,rfl,pclos_ret (stsA x) (0,0) (0,.cells [.sl true false 4 (l.map tokA),.int .i64 ((l.length - u.length : Nat) : Int),.int .i64 (s.length : Nat),.int .i64 (0 : Nat),.int .i64 (0 : Nat),.int .i64 (0 : Nat)] ⟨false,some 44⟩) (0,.cells [.ptr 2 0 0] ⟨false,none⟩) _ fun y => ?_⟩
     refine ⟨_,_,rfl,⟨rfl,rfl,trivial⟩,_,rfl,?_⟩
     exact Fzs.tup (.cons (.refl (stsA_free _)) (.cons (.refl (flt_free (0,0))) .nil))
   ·intro y σ1 h
    cases hx : stmtsS (fuelS l) true 0 0 [] l with
    | out => exact absurd hx hne
    | ok x u => rw [hx] at h; cases h.1
    | bad j u =>
     rw [hx] at h hY
     have hY : Y = ([],(j,placeS s.length u)):=hY
     subst hY
     obtain ⟨h1,r',b',d',n',rfl⟩:=h
     cases h1
     refine ⟨flt (j,placeS s.length u),[psB 0 l r' s.length b' d' n',(0,some (.cells [.ptr 2 0 0] ⟨false,none⟩))],(.cons (psBox_rn ..) (.cons (.live (.cells (.cons (.ptr rfl) (.nil _)))) (.nil _))),.free (fltI_free _),?_⟩
     refine ⟨_,rfl,pclos_pan .nils (0,e2) (j,placeS s.length u) (0,.cells [.sl true false 4 (l.map tokA),.int .i64 ((l.length - r'.length : Nat) : Int),.int .i64 (s.length : Nat),.int .i64 (b' : Nat),.int .i64 (d' : Nat),.int .i64 (n' : Nat)] ⟨false,some 44⟩) (0,.cells [.ptr 2 0 0] ⟨false,none⟩) _ fun y => ?_⟩
     exact ⟨_,_,rfl,⟨rfl,rfl,trivial⟩,_,rfl,Fzs.tup (.cons .nils (.cons (.refl (flt_free _)) .nil))⟩
  ·have e0 : ((e1 : Int) != 0) = true:=bne_iff_ne.2 (by omega)
   rw [if_pos h1] at hY
   subst hY
   refine pa [.v (.tup [.sl true false 4 (l.map tokA),.agg [.int .i64 (e1 : Nat),.int .i64 (e2 : Nat)]]),.b true] rfl ?_ ?_
   ·(repeat' with_reducible apply AllP_cons) <;> try exact aC
    exact ⟨_,hSp,.cons (.refl .str) (.nil _)⟩
   refine S_drawC [xo .nils,xf (e1,e2)] 1 2 [] [.tup []] rfl rfl rfl rfl rfl ⟨rfl,rfl,rfl,rfl,rfl,rfl,lble rfl,rfl,rfl,trivial⟩ ?_
   refine pB [] rfl ?_
   refine S_ret ⟨_,rfl,_,_,rfl,⟨rfl,rfl,trivial⟩,_,rfl,?_⟩
   exact Fzs.tup (.cons .nils (.cons (.refl (flt_free (e1,e2))) .nil)))
end Go.Proofs.YtonjhfeabphaaaaGreatDoor
end
section
namespace Go.Ab
open Go
theorem Inv.grown {cx : Cx} {r : Rl} {σ : Heap} {w w' : World} (hi : Inv cx r σ w) (hsame : ∀ b,b < w.heap.size → w'.heap[b]? = w.heap[b]?) (hs : w.heap.size ≤ w'.heap.size) (hos : w'.os = w.os) (hout : w'.output = w.output) (htape : w'.tape = w.tape) :
  Inv cx r σ w' ∧ Ext r σ w r σ w':=by
 have hsize : ∀ (b : Nat) (c : Array Value) (t : TypeId) (f : Nat × Nat),w.heap[b]? = some (Obj.cells c t f) → ∃ (c' : Array Value) (f' : Nat × Nat),w'.heap[b]? = some (Obj.cells c' t f') ∧ c'.size = c.size:=by
  intro b c t f h
  have hlt : b < w.heap.size:=by
   rcases Nat.lt_or_ge b w.heap.size with h' | h'
   ·exact h'
   ·simp [Array.getElem?_eq_none h'] at h
  exact ⟨c,f,by rw [hsame b hlt,h],rfl⟩
 have g : Grow r w r w':=⟨fun _ h => h,fun _ h => h,fun _ _ _ h => h,fun b hb => hsame b (hi.Ilt b hb),hsize⟩
 refine ⟨⟨?_,fun id ver b o h => ?_,hi.inj,hi.imm,fun b hb => Nat.lt_of_lt_of_le (hi.Ilt b hb) hs,hi.SI,hi.glob.mono g hi.SI⟩,?_⟩
 ·intro id ver x hx
  rcases hi.box id ver x hx with ⟨b,o,h1,h2⟩ | h1
  ·exact .inl ⟨b,o,h1,h2.mono g (hsame b h2.lt)⟩
  ·exact .inr h1
 ·obtain ⟨h1,h2⟩:=hi.lt id ver b o h
  exact ⟨h1,Nat.lt_of_lt_of_le h2 hs⟩
 ·exact ⟨fun _ h => h,fun _ h => h,fun _ h => .inl h,fun _ h => .inl h,fun _ _ _ h => h,hs,Nat.le_refl _,fun b hb _ => hsame b hb,fun _ h => .inl h,hsize,hos,hout,htape,fun id ver b o h => .inl ⟨ver,o,h⟩⟩
theorem Calc.told {cx : Cx} {f : FuncId} {args : List AV} {res : AV} (he : Enters cx.P f) (hf : Free true res)
  (h : ∀ r w vs,Inv cx r [] w → VRels r w vs args → ∃ v,(∀ w',VRel r w' v res) ∧ Calls cx.P f vs w fun e w' => e = .returned v ∧ ∃ k os,w' = Sort.grow (w.drewN k) os) : Calc cx f args res :=
 calc_of hf ⟨he,fun r w vs hi hv => by
  obtain ⟨v,h1,h2⟩:=h r w vs hi hv
  refine h2.mono fun e w' ⟨he,k,os,hw⟩ => ?_
  subst he; subst hw
  have hsame : ∀ b,b < w.heap.size → (Sort.grow (w.drewN k) os).heap[b]? = w.heap[b]?:=fun b hb => by
   show (w.heap ++ os)[b]? = w.heap[b]?
   rw [Array.getElem?_append_left hb]
  obtain ⟨q1,q2⟩:=hi.grown (w':=Sort.grow (w.drewN k) os) hsame (by show w.heap.size ≤ (w.heap ++ os).size; simp) rfl rfl rfl
  exact ⟨.ret res,[],r,⟨res,rfl,.refl hf⟩,h1 _,q1,q2⟩⟩
theorem Inv.whole {cx : Cx} {r : Rl} {σ : Heap} {w : World} {g : Nat} {vs : Array Value} {name : String} (hi : Inv cx r σ w) (hg : cx.P.globalNamed name = some g) (hx : cx.X g = some vs) : w.var? cx.P name = some vs:=by
 obtain ⟨_,t,f,h⟩:=hi.glob.X g vs hx
 unfold World.var?
 rw [hg]
 show (match w.heap[g]? with | some (.cells cs _ _) => some cs | _ => none) = _
 rw [h]
end Go.Ab
end
section
namespace Go.Proofs.YtonjhfeabphaaaaGreatDoor
open Go Go.Ab
def laysItoa_ren : Go.Shelf.Ren:=⟨fun | 171 => 100 | 243 => 120 | 246 => 130 | 283 => 137 | 284 => 138 | 285 => 139 | 286 => 140 | 129 => 144 | 317 => 143 | 318 => 145 | 319 => 146 | 320 => 147 | 337 => 151 | 338 => 152 | n => n,fun | 3 => 3 | 9 => 9 | 2 => 2 | 4 => 4 | 171 => 121 | 0 => 0 | 53 => 122 | 37 => 40 | 5 => 5 | 173 => 125 | 212 => 129 | 51 => 130 | 20 => 20 | 213 => 131 | 46 => 133 | 232 => 138 | 233 => 139 | n => n,fun | 17 => 3 | 18 => 4 | 19 => 5 | n => n⟩
theorem laysItoa : Go.Proofs.LaysM.n171 Tryz.prog laysItoa_ren:={
 mixed:=by kernel_rfl
 f129:=Tryz.func144.trans (congrArg some (by kernel_rfl))
 f171:=Tryz.func100.trans (congrArg some (by kernel_rfl))
 f243:=Tryz.func120.trans (congrArg some (by kernel_rfl))
 f246:=Tryz.func130.trans (congrArg some (by kernel_rfl))
 f283:=Tryz.func137.trans (congrArg some (by kernel_rfl))
 f284:=Tryz.func138.trans (congrArg some (by kernel_rfl))
 f285:=Tryz.func139.trans (congrArg some (by kernel_rfl))
 f286:=Tryz.func140.trans (congrArg some (by kernel_rfl))
 f317:=Tryz.func143.trans (congrArg some (by kernel_rfl))
 f318:=Tryz.func145.trans (congrArg some (by kernel_rfl))
 f319:=Tryz.func146.trans (congrArg some (by kernel_rfl))
 f320:=Tryz.func147.trans (congrArg some (by kernel_rfl))
 f337:=Tryz.func151.trans (congrArg some (by kernel_rfl))
 f338:=Tryz.func152.trans (congrArg some (by kernel_rfl))
 t0:=Tryz.underlying0
 a0:=Tryz.isAgg0
 z0:=Tryz.sizeOf0
 v0:=Tryz.zeroValue0
 t2:=Tryz.underlying2
 a2:=Tryz.isAgg2
 z2:=Tryz.sizeOf2
 v2:=Tryz.zeroValue2
 t3:=Tryz.underlying3
 a3:=Tryz.isAgg3
 z3:=Tryz.sizeOf3
 v3:=Tryz.zeroValue3
 t4:=Tryz.underlying4
 a4:=Tryz.isAgg4
 z4:=Tryz.sizeOf4
 v4:=Tryz.zeroValue4
 t5:=Tryz.underlying5
 a5:=Tryz.isAgg5
 z5:=Tryz.sizeOf5
 v5:=Tryz.zeroValue5
 t9:=Tryz.underlying9
 a9:=Tryz.isAgg9
 z9:=Tryz.sizeOf9
 v9:=Tryz.zeroValue9
 t20:=Tryz.underlying20
 a20:=Tryz.isAgg20
 z20:=Tryz.sizeOf20
 v20:=Tryz.zeroValue20
 t37:=Tryz.underlying40
 a37:=Tryz.isAgg40
 z37:=Tryz.sizeOf40
 v37:=Tryz.zeroValue40
 t46:=Tryz.underlying133
 a46:=Tryz.isAgg133
 z46:=Tryz.sizeOf133
 v46:=Tryz.zeroValue133
 t51:=Tryz.underlying130
 a51:=Tryz.isAgg130
 z51:=Tryz.sizeOf130
 v51:=Tryz.zeroValue130
 t53:=Tryz.underlying122
 a53:=Tryz.isAgg122
 z53:=Tryz.sizeOf122
 v53:=Tryz.zeroValue122
 t171:=Tryz.underlying121
 a171:=Tryz.isAgg121
 z171:=Tryz.sizeOf121
 v171:=Tryz.zeroValue121
 t173:=Tryz.underlying125
 a173:=Tryz.isAgg125
 z173:=Tryz.sizeOf125
 v173:=Tryz.zeroValue125
 t212:=Tryz.underlying129
 a212:=Tryz.isAgg129
 z212:=Tryz.sizeOf129
 v212:=Tryz.zeroValue129
 t213:=Tryz.underlying131
 a213:=Tryz.isAgg131
 z213:=Tryz.sizeOf131
 t232:=Tryz.underlying138
 a232:=Tryz.isAgg138
 z232:=Tryz.sizeOf138
 v232:=Tryz.zeroValue138
 t233:=Tryz.underlying139
 a233:=Tryz.isAgg139
 z233:=Tryz.sizeOf139
 v233:=Tryz.zeroValue139
 g17:=by kernel_rfl
 g18:=by kernel_rfl
 g19:=by kernel_rfl
 i0:=by kernel_rfl
 i2:=by kernel_rfl
 i3:=by kernel_rfl
 i4:=by kernel_rfl
 i5:=by kernel_rfl
 i9:=by kernel_rfl
 i20:=by kernel_rfl
 i37:=by kernel_rfl
 i46:=by kernel_rfl
 i51:=by kernel_rfl
 i53:=by kernel_rfl
 i171:=by kernel_rfl
 i173:=by kernel_rfl
 i212:=by kernel_rfl
 i232:=by kernel_rfl
 i233:=by kernel_rfl
 m17:=by kernel_rfl
 m18:=by kernel_rfl
 m19:=by kernel_rfl }
theorem gPow : Tryz.prog.globalNamed "internal/strconv.uint64pow10" = some 3:=by kernel_rfl
theorem pow10_whole : (Lib.pow10Tab.map fun z => Value.int .u64 z).toArray = pow10V:=by unfold Lib.pow10Tab pow10V; rw [List.map_map]; rfl
theorem Itoa_ok (n : Int) (h0 : -9223372036854775808 ≤ n) (h1 : n ≤ 9223372036854775807) : Calc cx 100 [.int .i64 n] (.str (Lib.itoa n)) :=
 .told (fun a w => Tryz.call100 a w) .str fun r w vs hi hv => by
  obtain ⟨hs,hv⟩:=hv
  have h:=hv 0 (Nat.zero_lt_succ _)
  have hvs : vs = #[.int .i64 n]:=by
   refine Array.ext_getElem? fun i => ?_
   match i with
   | 0 =>
    cases hx : vs[0]? with
    | none => rw [Array.getElem?_eq_none_iff] at hx; simp at hs; omega
    | some x =>
     have : vs.getD 0 undef = x:=by simp [Array.getD_eq_getD_getElem?,hx]
     rw [this] at h
     cases h; rfl
   | i + 1 =>
    have : vs.size = 1:=hs
    rw [Array.getElem?_eq_none (by omega),Array.getElem?_eq_none (by simp)]
  subst hvs
  refine ⟨.string ⟨(Lib.itoa n).toArray⟩,fun w' => .str rfl,?_⟩
  exact Any.strconv_Itoa laysItoa n h0 h1 w (by
   unfold Lib.TabIs
   rw [pow10_whole]
   exact hi.whole gPow rfl)
theorem holdsW : HoldsB 69 2:=⟨lble rfl,lble rfl,fun k => by kernel_rfl⟩
def wrB (v u : Nat) (a : AV) (bs : List UInt8) : Nat × Option Box:=(v,some (bBox 69 a (.ms 1 u 0 bs.length 1 false) []))
def wyB (u : Nat) (bs : List UInt8) : Nat × Option Box:=(u,some (byBox bs))
def wrH (v u : Nat) (a : AV) (bs : List UInt8) (τ : Heap) : Heap:=wrB v u a bs :: wyB u bs :: τ
theorem wr_rn (v u : Nat) (a : AV) (ha : a = .nilp ∨ a = .ptr 0 v 0) (bs : List UInt8) : RnH (List.range 2) (wrH v u a bs []) (wrH v u a bs []):=by
 have h : Rn (List.range 2) a a:=by
  rcases ha with rfl | rfl
  ·exact .free .nilp
  ·exact .ptr rfl
 exact .cons (.live (.cells (.cons h (.cons (.ms rfl) (.nil _))))) (.cons (.live (.cells (.free (bytes_fr bs)))) (.nil _))
theorem wr_low (v u : Nat) (a : AV) (ha : a = .nilp ∨ a = .ptr 0 v 0) (bs : List UInt8) (τ : Heap) : LowH 2 (wrH v u a bs τ):=by
 intro id ver x hid hx
 match id,hid with
 | 0,_ =>
  cases hx
  refine .cells fun y hy => ?_
  simp only [List.mem_cons,List.not_mem_nil,or_false] at hy
  rcases hy with rfl | rfl
  ·rcases ha with rfl | rfl
   ·exact .nilp
   ·exact .ptr (by decide)
  ·exact .ms (by decide)
 | 1,_ =>
  cases hx
  exact .cells fun y hy => Low.free (st:=false) (bytes_fr bs y hy)
theorem wsT (v u : Nat) (a : AV) (ha : a = .nilp ∨ a = .ptr 0 v 0) (bs cs : List UInt8) (τ : Heap) (hl : bs.length + cs.length ≤ 140737488355328) :
  CallOk cx 72 [.ptr 0 v 0,.str cs] (wrH v u a bs τ) (fun o s => o = .ret (.tup [.int .i64 cs.length,.nili]) ∧ s = wrH v (u + 1) (.ptr 0 v 0) (bs ++ cs) τ) :=
 (writeString_ok (rest:=[]) holdsW v u a ha bs cs hl).pre1 2 τ rfl rfl (.cons (.ptr rfl) (.free (by intro y hy; simp at hy; subst hy; exact .str))) (wr_rn v u a ha bs) (wr_rn v (u + 1) (.ptr 0 v 0) (.inr rfl) (bs ++ cs)) (.free (.tup (by intro y hy; simp at hy; rcases hy with rfl | rfl; exact .int; exact .nili)))
structure PutSt where
 i : Nat
 a : AV
theorem flat_take (l : List (List UInt8)) (i : Nat) (h : i < l.length) : (l.take (i + 1)).flatten = (l.take i).flatten ++ l[i]:=by
 rw [List.take_succ_eq_append_getElem h,List.flatten_append]; simp
theorem flat_take_le (l : List (List UInt8)) (i : Nat) : (l.take i).flatten.length ≤ l.flatten.length:=by
 conv => rhs; rw [← List.take_append_drop i l,List.flatten_append,List.length_append]
 omega
theorem wput0 (v u : Nat) (a : AV) (ha : a = .nilp ∨ a = .ptr 0 v 0) (bs : List UInt8) (st fl : Bool) (l : List (List UInt8)) (hn : l.length ≤ 1000000000) (hl : bs.length + l.flatten.length ≤ 140737488355328) (hne : l ≠ []) :
  CallOk cx 42 [.ptr 0 v 0,.sl st fl 1 (texts l)] (wrH v u a bs []) (fun o s => o = .ret (.tup []) ∧ s = wrH v (u + l.length) (.ptr 0 v 0) (bs ++ l.flatten) []) :=
 callOk_intro (fun a w => Tryz.call42 a w) Tryz.func42 rfl Tryz.ntmps42 rfl fun B => by
  have htl:=texts_len l
  refine pB [] rfl ?_
  refine S_while (α:=PutSt) (fun q => [(0,.ptr 0 v 0),(6,.sl st fl 1 (texts l)),(7,.int .i64 (l.length : Nat)),(8,.int .i64 (q.i : Nat))]) (fun q => wrH v (u + q.i) q.a (bs ++ (l.take q.i).flatten) [])
   (fun q => q.i ≤ l.length ∧ (q.a = .nilp ∨ q.a = .ptr 0 v 0) ∧ (0 < q.i → q.a = .ptr 0 v 0)) (fun q => l.length - q.i) ⟨0,a⟩ ⟨Nat.zero_le _,ha,fun h => absurd h (Nat.lt_irrefl 0)⟩ (.cons rfl (.cons rfl (.cons (by show AV.int .i64 (((texts l).length : Nat) : Int) = _; rw [htl]) (.cons rfl (.nil _))))) (by show wrH v u a bs [] = wrH v (u + 0) a (bs ++ ([] : List (List UInt8)).flatten) []; simp) ?_
  rintro ⟨i,a1⟩ ⟨hi,ha1,hp⟩
  have hi : i ≤ l.length:=hi
  have ha1 : a1 = .nilp ∨ a1 = .ptr 0 v 0:=ha1
  have hp : 0 < i → a1 = .ptr 0 v 0:=hp
  have hfl:=flat_take_le l i
  show S cx _ B _ _ [(0,.ptr 0 v 0),(6,.sl st fl 1 (texts l)),(7,.int .i64 (l.length : Nat)),(8,.int .i64 (i : Nat))] (wrH v (u + i) a1 (bs ++ (l.take i).flatten) [])
  by_cases hlt : i < l.length
  ·have hel : (texts l)[(i : Int).toNat]? = some (.str l[i]):=texts_get hlt
   have h1:=flat_take l i hlt
   have h2:=flat_take_le l (i + 1)
   rw [h1,List.length_append] at h2
   have hw:=wsT v (u + i) a1 ha1 (bs ++ (l.take i).flatten) l[i] [] (by rw [List.length_append]; omega)
   refine pB [.b true,.v (.str l[i]),.f (.tup [.int .i64 l[i].length,.nili]) (fun _ => wrH v (u + i + 1) (.ptr 0 v 0) (bs ++ (l.take i).flatten ++ l[i]) [])] rfl ?_
   refine S_round ⟨i + 1,.ptr 0 v 0⟩ (by show l.length - (i + 1) < l.length - i; omega) ⟨hlt,.inr rfl,fun _ => rfl⟩ (.cons rfl (.cons rfl (.cons rfl (.cons (nX (by omega)) (.nil _))))) ?_
   show wrH v (u + i + 1) (.ptr 0 v 0) (bs ++ (l.take i).flatten ++ l[i]) [] = wrH v (u + (i + 1)) (.ptr 0 v 0) (bs ++ (l.take (i + 1)).flatten) []
   rw [h1,List.append_assoc]; rfl
  ·obtain rfl : i = l.length:=by omega
   have hpos : 0 < l.length:=List.length_pos_iff.2 hne
   obtain rfl:=hp hpos
   rw [List.take_length]
   refine pB [.b false] rfl ?_
   exact S_nil ⟨_,_,rfl,trivial,rfl,rfl⟩
theorem wput_ok (v u : Nat) (a : AV) (ha : a = .nilp ∨ a = .ptr 0 v 0) (bs : List UInt8) (st fl : Bool) (l : List (List UInt8)) (τ : Heap) (hn : l.length ≤ 1000000000) (hl : bs.length + l.flatten.length ≤ 140737488355328) (hne : l ≠ []) :
  CallOk cx 42 [.ptr 0 v 0,.sl st fl 1 (texts l)] (wrH v u a bs τ) (fun o s => o = .ret (.tup []) ∧ s = wrH v (u + l.length) (.ptr 0 v 0) (bs ++ l.flatten) τ) :=
 (wput0 v u a ha bs st fl l hn hl hne).pre1 2 τ rfl rfl (.cons (.ptr rfl) (.free (by intro y hy; simp at hy; subst hy; exact .sl (fun h => by cases h) (textsF l)))) (wr_rn v u a ha bs) (wr_rn v _ (.ptr 0 v 0) (.inr rfl) _) (.free (.tup (by simp)))
theorem dput (v u : Nat) (a : AV) (ha : a = .nilp ∨ a = .ptr 0 v 0) (bs : List UInt8) (st fl : Bool) (l : List (List UInt8)) (yc : List AV) (yg : Tag) (hn : l.length ≤ 1000000000) (hl : bs.length + l.flatten.length ≤ 140737488355328) (hne : l ≠ []) {R : Md → Heap → Prop} (hR : R .ret (wrH v (u + l.length) (.ptr 0 v 0) (bs ++ l.flatten) [(0,some (.cells yc yg))])) :
  DCall cx (.func (.func 42) [.ptr 0 v 0,.sl st fl 1 (texts l)] []) .ret (wrH v u a bs [(0,some (.cells yc yg))]) R :=
 dcall_intro (fun a w => Tryz.call42 a w) Tryz.func42 rfl Tryz.ntmps42 rfl fun B => by
  have htl:=texts_len l
  refine pB [] rfl ?_
  refine S_while (α:=PutSt) (fun q => [(0,.ptr 0 v 0),(6,.sl st fl 1 (texts l)),(7,.int .i64 (l.length : Nat)),(8,.int .i64 (q.i : Nat))]) (fun q => wrH v (u + q.i) q.a (bs ++ (l.take q.i).flatten) [(0,some (.cells yc yg))])
   (fun q => q.i ≤ l.length ∧ (q.a = .nilp ∨ q.a = .ptr 0 v 0) ∧ (0 < q.i → q.a = .ptr 0 v 0)) (fun q => l.length - q.i) ⟨0,a⟩ ⟨Nat.zero_le _,ha,fun h => absurd h (Nat.lt_irrefl 0)⟩ (.cons rfl (.cons rfl (.cons (by show AV.int .i64 (((texts l).length : Nat) : Int) = _; rw [htl]) (.cons rfl (.nil _))))) (by show wrH v u a bs [(0,some (.cells yc yg))] = wrH v (u + 0) a (bs ++ ([] : List (List UInt8)).flatten) [(0,some (.cells yc yg))]; simp) ?_
  rintro ⟨i,a1⟩ ⟨hi,ha1,hp⟩
  have hi : i ≤ l.length:=hi
  have ha1 : a1 = .nilp ∨ a1 = .ptr 0 v 0:=ha1
  have hp : 0 < i → a1 = .ptr 0 v 0:=hp
  have hfl:=flat_take_le l i
  show S cx _ B _ _ [(0,.ptr 0 v 0),(6,.sl st fl 1 (texts l)),(7,.int .i64 (l.length : Nat)),(8,.int .i64 (i : Nat))] (wrH v (u + i) a1 (bs ++ (l.take i).flatten) [(0,some (.cells yc yg))])
  by_cases hlt : i < l.length
  ·have hel : (texts l)[(i : Int).toNat]? = some (.str l[i]):=texts_get hlt
   have h1:=flat_take l i hlt
   have h2:=flat_take_le l (i + 1)
   rw [h1,List.length_append] at h2
   have hw:=wsT v (u + i) a1 ha1 (bs ++ (l.take i).flatten) l[i] [(0,some (.cells yc yg))] (by rw [List.length_append]; omega)
   refine pB [.b true,.v (.str l[i]),.f (.tup [.int .i64 l[i].length,.nili]) (fun _ => wrH v (u + i + 1) (.ptr 0 v 0) (bs ++ (l.take i).flatten ++ l[i]) [(0,some (.cells yc yg))])] rfl ?_
   refine S_round ⟨i + 1,.ptr 0 v 0⟩ (by show l.length - (i + 1) < l.length - i; omega) ⟨hlt,.inr rfl,fun _ => rfl⟩ (.cons rfl (.cons rfl (.cons rfl (.cons (nX (by omega)) (.nil _))))) ?_
   show wrH v (u + i + 1) (.ptr 0 v 0) (bs ++ (l.take i).flatten ++ l[i]) [(0,some (.cells yc yg))] = wrH v (u + (i + 1)) (.ptr 0 v 0) (bs ++ (l.take (i + 1)).flatten) [(0,some (.cells yc yg))]
   rw [h1,List.append_assoc]; rfl
  ·obtain rfl : i = l.length:=by omega
   have hpos : 0 < l.length:=List.length_pos_iff.2 hne
   obtain rfl:=hp hpos
   rw [List.take_length]
   refine pB [.b false] rfl ?_
   exact S_nil ⟨_,_,rfl,trivial,_,rfl,hR⟩
theorem apart_ok (x : Ex) : Calc cx 121 [exA x] (.bool (apart x)) :=
 pure_intro (fun a w => Tryz.call121 a w) Tryz.func121 rfl Tryz.ntmps121 rfl .bool fun B => by
  obtain ⟨k,n,t,ks,ns⟩:=x
  show S cx _ B _ (retQ cx _ fun o σ' => ∃ v,o = .ret v ∧ Frz true σ' v (.bool (k == 12 || k == 13 || k == 14))) _ _
  by_cases h1 : k = 12
  ·have e1 : ((k : Int) == 12) = true:=by rw [h1]; rfl
   refine pB [.b true,.b true] rfl ?_
   refine S_retc .bool rfl trivial ?_
   rw [h1]; rfl
  have e1 : ((k : Int) == 12) = false:=beq_false_of_ne (by omega)
  by_cases h2 : k = 13
  ·have e2 : ((k : Int) == 13) = true:=by rw [h2]; rfl
   refine pB [.b false,.b true] rfl ?_
   refine S_retc .bool rfl trivial ?_
   rw [h2]; rfl
  have e2 : ((k : Int) == 13) = false:=beq_false_of_ne (by omega)
  refine pB [.b false,.b false] rfl ?_
  refine S_retc .bool rfl trivial ?_
  show AV.bool ((k : Int) == ((14 : Nat) : Int)) = _
  rw [show ((k : Int) == ((14 : Nat) : Int)) = (k == 14) by rw [Bool.eq_iff_iff,beq_iff_eq,beq_iff_eq]; omega,beq_false_of_ne h1,beq_false_of_ne h2]; rfl
def Wr (f : FuncId) (x : Ex) (p : Pcs) : Prop:=∀ (v u : Nat) (a : AV) (bs : List UInt8),(a = .nilp ∨ a = .ptr 0 v 0) → bs.length + p.flatten.length ≤ 70000000000000 →
 CallOk cx f [.ptr 0 v 0,exA x] (wrH v u a bs []) (fun o s => o = .ret (.tup []) ∧ s = wrH v (u + p.length) (.ptr 0 v 0) (bs ++ p.flatten) [])
theorem Wr.tail {f : FuncId} {x : Ex} {p : Pcs} (h : Wr f x p) (v u : Nat) (a : AV) (bs : List UInt8) (τ : Heap) (ha : a = .nilp ∨ a = .ptr 0 v 0) (hl : bs.length + p.flatten.length ≤ 70000000000000) :
  CallOk cx f [.ptr 0 v 0,exA x] (wrH v u a bs τ) (fun o s => o = .ret (.tup []) ∧ s = wrH v (u + p.length) (.ptr 0 v 0) (bs ++ p.flatten) τ) :=
 (h v u a bs ha hl).pre1 2 τ rfl rfl (.cons (.ptr rfl) (.free (by intro y hy; simp at hy; subst hy; exact exA_free x))) (wr_rn v u a ha bs) (wr_rn v (u + p.length) (.ptr 0 v 0) (.inr rfl) (bs ++ p.flatten)) (.free (.tup (by simp)))
theorem wfin {v u : Nat} {bs : List UInt8} {τ : Heap} : TR 2 (fun o s => o = .ret (.tup []) ∧ s = wrH v u (.ptr 0 v 0) bs []) (.ret (.tup [])) (wrH v u (.ptr 0 v 0) bs τ) :=
 ⟨2,Nat.le_refl _,wr_low _ _ _ (.inr rfl) _ _,.tup [],.low (.tup (by simp)),rfl,rfl⟩
end Go.Proofs.YtonjhfeabphaaaaGreatDoor
end
