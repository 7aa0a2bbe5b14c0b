/-
  Texts of our own, in one file.
-/
import Derived.Test.YtonjhfeabphaaaaGreatDoorGrpF
import Derived.Lib.ItoaLen
import Derived.Shelf.Strings.OnBuilder
import Derived.Shelf.Lays
set_option linter.unusedVariables false
set_option linter.unusedSimpArgs false
set_option maxRecDepth 20000
set_option maxHeartbeats 4000000
section
namespace Go.Proofs.YtonjhfeabphaaaaGreatDoor
open Go Go.Ab
section
def wT (t : Tok) : Nat:=10000000 + 2 * t.text.length + (Lib.itoa t.num).length
def wL : List Tok → Nat
 | [] => 0
 | t :: r => wT t + wL r
def Zx {α : Type} (B : Nat) (m : α → Nat) (r : List Tok) (x : Pr α) : Prop:=∀ y u,x = .ok y u → m y + wL u ≤ B + wL r
section
variable {α β : Type} {B B' : Nat} {m : α → Nat} {m' : β → Nat} {r : List Tok}
theorem Zx.out : Zx B m r (.out : Pr α):=nofun
theorem Zx.bad {e : Nat} {u : List Tok} : Zx B m r (.bad e u : Pr α):=nofun
theorem Zx.ok {x : α} (h : m x ≤ B) : Zx B m r (.ok x r):=by intro _ _ h'; cases h'; omega
theorem Zx.bind {x : Pr α} {f : α → List Tok → Pr β} (h : Zx B m r x) (hf : ∀ y u,Zx (m y) m' u (f y u)) : Zx B m' r (x.bind f):=by
 cases x with
 | out => exact .out
 | bad e v => exact .bad
 | ok y v =>
  intro w q hw
  have h1:=h y v rfl
  have h2:=hf y v w q hw
  omega
theorem Zx.ite {x y : Pr α} {c : Prop} [Decidable c] (h : c → Zx B m r x) (h' : ¬ c → Zx B m r y) : Zx B m r (if c then x else y):=by
 by_cases hc : c
 ·rw [if_pos hc]; exact h hc
 ·rw [if_neg hc]; exact h' hc
theorem Zx.mono {x : Pr α} (h : Zx B m r x) (hB : B ≤ B') : Zx B' m r x:=fun y u hx => by have:=h y u hx; omega
theorem Zx.less {m2 : α → Nat} {x : Pr α} (h : Zx B m r x) (hm : ∀ y,m2 y ≤ m y) : Zx B m2 r x:=fun y u hx => by have:=h y u hx; have:=hm y; omega
theorem Zx.tl {x : Pr α} (hp : r.tail.length + 1 ≤ r.length) (h : Zx (B + 10000000 + 2 * (hdT r).length) m r.tail x) : Zx B m r x:=fun y u hx => by
 have:=h y u hx
 cases r with
 | nil => simp at hp
 | cons t r =>
  have e1 : wL (t :: r) = 10000000 + 2 * t.text.length + (Lib.itoa t.num).length + wL r:=rfl
  have e2 : (hdT (t :: r)).length = t.text.length:=rfl
  have e3 : (t :: r).tail = r:=rfl
  rw [e3] at this; omega
end
theorem mustS_z {B : Nat} (s : List UInt8) (r : List Tok) : Zx B (fun _ => B + 10000000) r (mustS s r):=.ite (fun h => .tl (isS_pos h) (.ok (by omega))) (fun _ => .bad)
theorem takeS_z {B : Nat} (k : Nat) (r : List Tok) : Zx B (fun t => B + 10000000 + 2 * t.text.length) r (takeS k r):=by
 intro t u h
 cases r with
 | nil => cases h
 | cons a v =>
  have h : (if a.kind = k then Pr.ok a v else .bad 1 (a :: v)) = .ok t u:=h
  by_cases hk : a.kind = k
  ·rw [if_pos hk] at h; cases h
   have e1 : wL (t :: u) = 10000000 + 2 * t.text.length + (Lib.itoa t.num).length + wL u:=rfl
   show B + 10000000 + 2 * t.text.length + wL u ≤ B + wL (t :: u)
   omega
  ·rw [if_neg hk] at h; cases h
def xz (x : Ex) : Nat:=(exW x).flatten.length
def xzL (l : List Ex) : Nat:=(l.map fun x => xz x + 2).sum
def nzL (l : List (List UInt8)) : Nat:=(l.map fun n => n.length + 1).sum
theorem xzL_snoc (l : List Ex) (x : Ex) : xzL (l ++ [x]) = xzL l + (xz x + 2):=by unfold xzL; simp
theorem nzL_snoc (l : List (List UInt8)) (x : List UInt8) : nzL (l ++ [x]) = nzL l + (x.length + 1):=by unfold nzL; simp
theorem brk_len (b : Bool) (p : Pcs) : (brk b p).flatten.length ≤ p.flatten.length + 2:=by
 cases b with
 | true => simp [brk]
 | false => simp [brk]
theorem eachA_len (sep : List UInt8) (l : List Pcs) : (eachA sep l).flatten.length ≤ (l.map fun p => p.flatten.length + sep.length).sum:=by
 induction h : l.length generalizing l with
 | zero => rw [List.length_eq_zero_iff.1 h]; simp [eachA]
 | succ n ih =>
  obtain ⟨a,p,rfl⟩ : ∃ a p,l = a ++ [p]:=⟨l.dropLast,l.getLast (by intro e; rw [e] at h; cases h),(List.dropLast_concat_getLast _).symm⟩
  have:=ih a (by simpa using h)
  rw [eachA_snoc,List.flatten_append,List.length_append,List.flatten_append,List.length_append,List.map_append,List.sum_append]
  have h2 : ((if 0 < a.length then [sep] else []) : Pcs).flatten.length ≤ sep.length:=by split <;> simp
  simp only [List.map_cons,List.map_nil,List.sum_cons,List.sum_nil]
  omega
theorem callPs_snoc (ns : List (List UInt8)) (n : List UInt8) (w : List (Bool × Pcs)) (p : Bool × Pcs) (h : ns.length ≤ w.length) : callPs (ns ++ [n]) (w ++ [p]) = callPs ns w ++ [[n,[61]] ++ p.2]:=by
 unfold callPs
 rw [List.mapIdx_concat]
 have e : (w ++ [p]).length - (ns ++ [n]).length = w.length - ns.length:=by simp
 rw [e]
 congr 1
 ·refine List.mapIdx_eq_mapIdx_iff.2 fun i hi => ?_
  congr 1
  by_cases hc : w.length - ns.length ≤ i
  ·rw [if_pos hc,if_pos hc]
   have hlt : i - (w.length - ns.length) < ns.length:=by omega
   rw [List.getD_eq_getElem?_getD,List.getD_eq_getElem?_getD,List.getElem?_append_left hlt]
  ·rw [if_neg hc,if_neg hc]
 ·have hc : w.length - ns.length ≤ w.length:=by omega
  have e2 : w.length - (w.length - ns.length) = ns.length:=by omega
  rw [if_pos hc,e2]
  simp
theorem callPs_nil (w : List (Bool × Pcs)) : callPs [] w = w.map (·.2):=by
 unfold callPs
 refine List.ext_getElem (by simp) fun i h1 h2 => ?_
 have hi : i < w.length:=by simpa using h2
 rw [List.getElem_mapIdx,List.getElem_map,if_neg (by show ¬ w.length - 0 ≤ i; omega),List.nil_append]
theorem callPs_len : ∀ (k : Nat) (ns : List (List UInt8)) (w : List (Bool × Pcs)),ns.length = k → k ≤ w.length → ((callPs ns w).map fun p => p.flatten.length + 2).sum ≤ (w.map fun p => p.2.flatten.length + 2).sum + nzL ns
 | 0,ns,w,h,_ => by
  rw [List.length_eq_zero_iff.1 h,callPs_nil,List.map_map]
  exact Nat.le_add_right _ _
 | k + 1,ns,w,h,hw => by
  obtain ⟨a,n,rfl⟩ : ∃ a n,ns = a ++ [n]:=⟨ns.dropLast,ns.getLast (by intro e; rw [e] at h; cases h),(List.dropLast_concat_getLast _).symm⟩
  obtain ⟨v,p,rfl⟩ : ∃ v p,w = v ++ [p]:=⟨w.dropLast,w.getLast (by intro e; rw [e] at hw; simp at hw),(List.dropLast_concat_getLast _).symm⟩
  simp only [List.length_append,List.length_cons,List.length_nil] at h hw
  have:=callPs_len k a v (by omega) (by omega)
  rw [callPs_snoc a n v p (by omega),nzL_snoc,List.map_append,List.map_append,List.sum_append,List.sum_append]
  simp only [List.map_cons,List.map_nil,List.sum_cons,List.sum_nil,List.flatten_append,List.length_append,List.flatten_cons,List.flatten_nil,List.length_cons,List.length_nil]
  omega
theorem exWs_len (l : List Ex) : ((exWs l).map fun p => p.2.flatten.length + 2).sum = xzL l:=by
 rw [exWs_map,List.map_map]; rfl
theorem xz_10 (k0 : Ex) (args : List Ex) (ns : List (List UInt8)) (n : Nat) (t : List UInt8) (h : ns.length ≤ args.length) : xz (.mk 10 n t (k0 :: args) ns) ≤ xzL (k0 :: args) + nzL ns + 2:=by
 have h1:=brk_len (apart k0) (exW k0)
 have h2:=eachA_len [44,32] (callPs ns (exWs args))
 have h3:=callPs_len ns.length ns (exWs args) rfl (by rw [exWs_map]; simpa using h)
 rw [exWs_len] at h3
 have e : xz (.mk 10 n t (k0 :: args) ns) = (brk (apart k0) (exW k0) ++ [[40]] ++ eachA [44,32] (callPs ns (exWs args)) ++ [[41]]).flatten.length:=rfl
 have e2 : xzL (k0 :: args) = (xz k0 + 2) + xzL args:=by unfold xzL; simp
 rw [e,e2]
 simp only [List.flatten_append,List.length_append,List.flatten_cons,List.flatten_nil,List.length_cons,List.length_nil]
 have h4 : (([44,32] : List UInt8)).length = 2:=rfl
 rw [h4] at h2
 have h5 : xz k0 = (exW k0).flatten.length:=rfl
 omega
theorem xz_7 (ks : List Ex) (ns : List (List UInt8)) (n : Nat) (t : List UInt8) : xz (.mk 7 n t ks ns) ≤ xzL ks + 2:=by
 have h2:=eachA_len [44,32] ((exWs ks).map (·.2))
 rw [List.map_map] at h2
 have h3:=exWs_len ks
 have e : xz (.mk 7 n t ks ns) = ([[91]] ++ eachA [44,32] ((exWs ks).map fun p => p.2) ++ [[93]] : Pcs).flatten.length:=rfl
 rw [e]
 simp only [List.flatten_append,List.length_append,List.flatten_cons,List.flatten_nil,List.length_cons,List.length_nil]
 have h4 : ((exWs ks).map ((fun p : Pcs => p.flatten.length + ([44,32] : List UInt8).length) ∘ fun x => x.2)).sum = xzL ks:=h3
 rw [h4] at h2
 omega
theorem xz_8 (ks : List Ex) (ns : List (List UInt8)) (n : Nat) (t : List UInt8) : xz (.mk 8 n t ks ns) ≤ xzL ks + 2:=by
 have h2:=eachA_len [] (dictA (exWs ks))
 have h3:=exWs_len ks
 have e : xz (.mk 8 n t ks ns) = ([[123]] ++ eachA [] (dictA (exWs ks)) ++ [[125]]).flatten.length:=rfl
 have key : ∀ w : List (Bool × Pcs),((dictA w).map fun p => p.flatten.length + ([] : List UInt8).length).sum ≤ (w.map fun p => p.2.flatten.length + 2).sum:=fun w => by
  induction hn : w.length generalizing w with
  | zero => rw [List.length_eq_zero_iff.1 hn]; simp [dictA]
  | succ k ih =>
   obtain ⟨v,p,rfl⟩ : ∃ v p,w = v ++ [p]:=⟨w.dropLast,w.getLast (by intro e; rw [e] at hn; cases hn),(List.dropLast_concat_getLast _).symm⟩
   have:=ih v (by simpa using hn)
   simp only [List.length_nil] at this
   have hd : dictA (v ++ [p]) = dictA v ++ [(if 0 < v.length then [sepD v.length] else []) ++ p.2]:=by unfold dictA; rw [List.mapIdx_concat]
   have hs : ((if 0 < v.length then [sepD v.length] else []) : Pcs).flatten.length ≤ 2:=by
    split
    ·unfold sepD; split <;> simp
    ·simp
   rw [hd,List.map_append,List.map_append,List.sum_append,List.sum_append]
   simp only [List.map_cons,List.map_nil,List.sum_cons,List.sum_nil,List.flatten_append,List.length_append,List.length_nil]
   omega
 have h5:=key (exWs ks)
 rw [e]
 simp only [List.flatten_append,List.length_append,List.flatten_cons,List.flatten_nil,List.length_cons,List.length_nil]
 simp only [List.length_nil] at h2 h5
 omega
theorem Zx.add {α : Type} {B : Nat} {m : α → Nat} {r : List Tok} {x : Pr α} (C : Nat) (h : Zx B m r x) : Zx (C + B) (fun y => C + m y) r x:=fun y u hx => by
 have:=h y u hx
 show C + m y + wL u ≤ C + B + wL r
 omega
theorem quoT_len2 (t : List UInt8) : (quoT t).length ≤ 2 * t.length + 2:=by
 have h : ∀ t : List UInt8,(t.flatMap quoC).length ≤ 2 * t.length:=fun t => by
  induction t with
  | nil => exact Nat.le_refl _
  | cons c r ih =>
   have : (quoC c).length ≤ 2:=by unfold quoC; (repeat' split) <;> simp
   rw [List.flatMap_cons,List.length_append,List.length_cons]; omega
 have:=h t
 unfold quoT
 simp only [List.length_append,List.length_cons,List.length_nil]; omega
theorem xz_11 (x y : Ex) (n : Nat) (t : List UInt8) (ns : List (List UInt8)) : xz (.mk 11 n t [x,y] ns) ≤ xz x + xz y + 4:=by
 have h:=brk_len (apart x) (exW x)
 have e : xz (.mk 11 n t [x,y] ns) = (brk (apart x) (exW x) ++ [[91]] ++ exW y ++ [[93]] : Pcs).flatten.length:=rfl
 have h1 : xz x = (exW x).flatten.length:=rfl
 have h2 : xz y = (exW y).flatten.length:=rfl
 rw [e]
 simp only [List.flatten_append,List.length_append,List.flatten_cons,List.flatten_nil,List.length_cons,List.length_nil]
 omega
theorem xz_12 (x : Ex) (n : Nat) (t : List UInt8) (ns : List (List UInt8)) : xz (.mk 12 n t [x] ns) ≤ xz x + 6:=by
 have h:=brk_len (apart x) (exW x)
 have e : xz (.mk 12 n t [x] ns) = ([[110,111,116,32]] ++ brk (apart x) (exW x) : Pcs).flatten.length:=rfl
 have h1 : xz x = (exW x).flatten.length:=rfl
 rw [e]
 simp only [List.flatten_append,List.length_append,List.flatten_cons,List.flatten_nil,List.length_cons,List.length_nil]
 omega
theorem xz_13 (x : Ex) (n : Nat) (t : List UInt8) (ns : List (List UInt8)) : xz (.mk 13 n t [x] ns) ≤ xz x + 3:=by
 have h:=brk_len (apart x) (exW x)
 have e : xz (.mk 13 n t [x] ns) = ([[45]] ++ brk (apart x) (exW x) : Pcs).flatten.length:=rfl
 have h1 : xz x = (exW x).flatten.length:=rfl
 rw [e]
 simp only [List.flatten_append,List.length_append,List.flatten_cons,List.flatten_nil,List.length_cons,List.length_nil]
 omega
theorem xz_14 (x y : Ex) (t : List UInt8) : xz (binE t x y) ≤ xz x + xz y + t.length + 6:=by
 have h:=brk_len (apart x) (exW x)
 have h':=brk_len (apart y) (exW y)
 have e : xz (binE t x y) = (brk (apart x) (exW x) ++ [[32],t,[32]] ++ brk (apart y) (exW y) : Pcs).flatten.length:=rfl
 have h1 : xz x = (exW x).flatten.length:=rfl
 have h2 : xz y = (exW y).flatten.length:=rfl
 rw [e]
 simp only [List.flatten_append,List.length_append,List.flatten_cons,List.flatten_nil,List.length_cons,List.length_nil]
 omega
theorem xz_9a (x y : Ex) (n : Nat) (t : List UInt8) (ns : List (List UInt8)) : xz (.mk 9 n t [x,y] ns) ≤ xz x + xz y + t.length + 20:=by
 have e : xz (.mk 9 n t [x,y] ns) = ([[91]] ++ exW x ++ [[32,102,111,114,32],t,[32,105,110,32]] ++ exW y ++ [] ++ [[93]] : Pcs).flatten.length:=rfl
 have h1 : xz x = (exW x).flatten.length:=rfl
 have h2 : xz y = (exW y).flatten.length:=rfl
 rw [e]
 simp only [List.flatten_append,List.length_append,List.flatten_cons,List.flatten_nil,List.length_cons,List.length_nil]
 omega
theorem xz_9b (x y z : Ex) (n : Nat) (t : List UInt8) (ns : List (List UInt8)) : xz (.mk 9 n t [x,y,z] ns) ≤ xz x + xz y + xz z + t.length + 30:=by
 have e : xz (.mk 9 n t [x,y,z] ns) = ([[91]] ++ exW x ++ [[32,102,111,114,32],t,[32,105,110,32]] ++ exW y ++ ([[32,105,102,32]] ++ exW z) ++ [[93]] : Pcs).flatten.length:=rfl
 have h1 : xz x = (exW x).flatten.length:=rfl
 have h2 : xz y = (exW y).flatten.length:=rfl
 have h3 : xz z = (exW z).flatten.length:=rfl
 rw [e]
 simp only [List.flatten_append,List.length_append,List.flatten_cons,List.flatten_nil,List.length_cons,List.length_nil]
 omega
end
section
def mz (x : Ex) : Nat:=xz x + 50
structure AllZ (F : Nat) : Prop where
 expr : ∀ n r,Zx 0 mz r (exprS F n r)
 lev : ∀ k n r,Zx 0 mz r (levS F k n r)
 loop : ∀ k n x r,Zx (mz x) mz r (loopS F k n x r)
 post : ∀ n x r,Zx (mz x) mz r (postS F n x r)
 call : ∀ n k0 args ns r,ns.length ≤ args.length → Zx (xzL (k0 :: args) + nzL ns + 100) mz r (callS F n (k0 :: args) ns r)
 atom : ∀ n r,Zx 0 mz r (atomS F n r)
 list : ∀ n r,Zx 100 mz r (listS F n r)
 item : ∀ n ks r,Zx (xzL ks + 100) mz r (itemS F n ks r)
 dict : ∀ n ks r,Zx (xzL ks + 100) mz r (dictS F n ks r)
section
variable {α β : Type} {B C : Nat} {m : α → Nat} {m' : β → Nat} {r : List Tok}
theorem Zx.then {x : Pr α} {f : α → List Tok → Pr β} (h : Zx 0 m r x) (hf : ∀ y u,Zx (B + m y) m' u (f y u)) : Zx B m' r (x.bind f):=.bind (h.add B) hf
theorem Zx.must {s : List UInt8} {f : Unit → List Tok → Pr β} (hf : ∀ u,Zx (B + 10000000) m' u (f () u)) : Zx B m' r ((mustS s r).bind f):=.bind (mustS_z s r) fun _ u => hf u
theorem Zx.take {k : Nat} {f : Tok → List Tok → Pr β} (hf : ∀ t u,Zx (B + 10000000 + 2 * t.text.length) m' u (f t u)) : Zx B m' r ((takeS k r).bind f):=.bind (takeS_z k r) fun t u => hf t u
end
theorem xzL_one (x : Ex) : xzL [x] = xz x + 2:=by simp [xzL]
theorem nzL_nil : nzL [] = 0:=rfl
theorem xzL_nil : xzL [] = 0:=rfl
theorem allZ (F : Nat) : AllZ F:=by
 induction F with
 | zero => exact ⟨fun _ _ => .out,fun _ _ _ => .out,fun _ _ _ _ => .out,fun _ _ _ => .out,fun _ _ _ _ _ _ => .out,fun _ _ => .out,fun _ _ => .out,fun _ _ _ => .out,fun _ _ _ => .out⟩
 | succ F ih =>
  refine ⟨?_,?_,?_,?_,?_,?_,?_,?_,?_⟩
  ·intro n r
   rw [exprS]
   exact .ite (fun _ => .bad) (fun _ => ih.lev 0 _ r)
  ·intro k n r
   by_cases h2 : k = 2
   ·subst h2
    rw [levS_2]
    refine .ite (fun hi => .tl (isS_pos hi) (.ite (fun _ => .bad) (fun _ => (ih.lev 2 _ _).then fun y u => .ok ?_))) (fun _ => .bind (ih.lev 3 n r) fun x u => .ite (fun ho => .tl (isOf_pos ho) ((ih.lev 3 n _).then fun y v => .ok ?_)) (fun _ => .ok (Nat.le_refl _)))
    ·have:=xz_12 y 0 [] []
     show xz _ + 50 ≤ 0 + 10000000 + 2 * (hdT r).length + (xz y + 50); omega
    ·have:=xz_14 x y (hdT u)
     show xz (binE (hdT u) x y) + 50 ≤ (xz x + 50) + 10000000 + 2 * (hdT u).length + (xz y + 50); omega
   ·by_cases h5 : k = 5
    ·subst h5
     rw [levS_5]
     refine .ite (fun hi => .tl (isS_pos hi) (.ite (fun _ => .bad) (fun _ => (ih.lev 5 _ _).then fun y u => .ok ?_))) (fun _ => .bind (ih.atom n r) fun x u => ih.post n x u)
     have:=xz_13 y 0 [] []
     show xz _ + 50 ≤ 0 + 10000000 + 2 * (hdT r).length + (xz y + 50); omega
    ·rw [levS_d k h2 h5]
     exact .bind (ih.lev (k + 1) n r) fun x u => ih.loop k n x u
  ·intro k n x r
   rw [loopS]
   refine .ite (fun ho => .tl (isOf_pos ho) ((ih.lev (k + 1) n _).then fun y u => (ih.loop k n _ u).mono ?_)) (fun _ => .ok (Nat.le_refl _))
   have:=xz_14 x y (hdT r)
   show xz (binE (hdT r) x y) + 50 ≤ (xz x + 50) + 10000000 + 2 * (hdT r).length + (xz y + 50); omega
  ·intro n x r
   rw [postS]
   refine .ite (fun hi => .tl (isS_pos hi) (.bind ((ih.call n x [] [] _ (Nat.le_refl _)).mono ?_) fun y u => ih.post n y u)) (fun _ => .ite (fun hi => .tl (isS_pos hi) ((ih.expr n _).then fun y u => .must fun v => (ih.post n _ v).mono ?_)) (fun _ => .ok (Nat.le_refl _)))
   ·rw [xzL_one,nzL_nil]; show _ ≤ (xz x + 50) + 10000000 + _; omega
   ·have:=xz_11 x y 0 [] []
    show xz _ + 50 ≤ (xz x + 50) + 10000000 + 2 * (hdT r).length + (xz y + 50) + 10000000; omega
  ·intro n k0 args ns r hl
   rw [callS]
   refine .ite (fun hi => .tl (isS_pos hi) (.ok ?_)) (fun _ => ?_)
   ·have:=xz_10 k0 args ns 0 [] hl
    show xz _ + 50 ≤ _; omega
   have h0 : Zx (xzL (k0 :: args) + nzL ns + 100) (fun _ => xzL (k0 :: args) + nzL ns + 100) r (if (k0 :: args).length > 1 then mustS [44] r else .ok () r):=.ite (fun _ => (mustS_z _ r).less fun _ => by omega) (fun _ => .ok (Nat.le_refl _))
   refine .bind h0 fun _ u => .ite (fun hn => .ite (fun _ => .bad) (fun _ => ?_)) (fun _ => .ite (fun _ => .bad) (fun h0 => (ih.expr n u).then fun y v => ?_))
   ·have hp:=nameS_pos hn
    have e1:=List.length_tail (l:=u)
    have e2:=List.length_tail (l:=u.tail)
    refine .tl (by omega) (.tl (by omega) ((ih.expr n _).then fun y v => (ih.call n k0 (args ++ [y]) (ns ++ [hdT u]) v (by simp; omega)).mono ?_))
    rw [nzL_snoc,show k0 :: (args ++ [y]) = (k0 :: args) ++ [y] from rfl,xzL_snoc]
    show _ ≤ _ + (xz y + 50); omega
   ·refine (ih.call n k0 (args ++ [y]) ns v (by simp; omega)).mono ?_
    rw [show k0 :: (args ++ [y]) = (k0 :: args) ++ [y] from rfl,xzL_snoc]
    show _ ≤ _ + (xz y + 50); omega
  ·intro n r
   cases r with
   | nil => exact .bad
   | cons t u =>
    have at0 : ∀ x : Ex,xz x ≤ 2 * t.text.length + (Lib.itoa t.num).length + 100 → Zx 0 mz (t :: u) (.ok x u):=fun x hx y v h => by
     cases h
     have e1 : wL (t :: u) = 10000000 + 2 * t.text.length + (Lib.itoa t.num).length + wL u:=rfl
     show xz x + 50 + wL u ≤ 0 + wL (t :: u); omega
    have e6 : xz (.mk 6 0 t.text [] []) = t.text.length:=by show ([t.text] : Pcs).flatten.length = _; simp
    have e4 : xz (.mk 4 t.num [] [] []) = (Lib.itoa t.num).length:=by show ([Lib.itoa t.num] : Pcs).flatten.length = _; simp
    have e5 : xz (.mk 5 0 t.text [] []) = (quoT t.text).length:=by show ([quoT t.text] : Pcs).flatten.length = _; simp
    have q5:=quoT_len2 t.text
    have tl : ∀ {x : Pr Ex},Zx (0 + 10000000 + 2 * t.text.length) mz u x → Zx 0 mz (t :: u) x:=fun h => Zx.tl (by simp) h
    exact .ite (fun _ => at0 _ (by omega)) (fun _ => .ite (fun _ => at0 _ (by omega)) (fun _ => .ite (fun _ => at0 _ (by omega)) (fun _ => .ite (fun _ => at0 _ (by show 4 ≤ _; omega)) (fun _ => .ite (fun _ => at0 _ (by show 4 ≤ _; omega)) (fun _ => .ite (fun _ => at0 _ (by show 5 ≤ _; omega))
     (fun _ => .ite (fun _ => tl ((ih.expr n u).then fun x v => .must fun w => .ok (by show xz x + 50 ≤ _ + (xz x + 50) + _; omega))) (fun _ => .ite (fun _ => tl ((ih.list n u).mono (by omega))) (fun _ => .ite (fun _ => tl ((ih.dict n [] u).mono (by rw [xzL_nil]; omega))) (fun _ => .bad)))))))))
  ·intro n r
   rw [listS]
   refine .ite (fun hi => .tl (isS_pos hi) (.ok ?_)) (fun _ => (ih.expr n r).then fun x u => .ite (fun hi => .tl (isS_pos hi) (.take fun t v => .must fun w => (ih.expr n w).then fun y q => .ite (fun hj => .tl (isS_pos hj) ((ih.expr n _).then fun z o => .must fun p => .ok ?_)) (fun _ => .must fun p => .ok ?_))) (fun _ => (ih.item n [x] u).mono ?_))
   ·have:=xz_7 [] [] 0 []; rw [xzL_nil] at this; show xz _ + 50 ≤ _; omega
   ·have:=xz_9b x y z 0 t.text []
    show xz _ + 50 ≤ 100 + (xz x + 50) + 10000000 + _ + 10000000 + _ + 10000000 + (xz y + 50) + 10000000 + _ + (xz z + 50) + 10000000; omega
   ·have:=xz_9a x y 0 t.text []
    show xz _ + 50 ≤ 100 + (xz x + 50) + 10000000 + _ + 10000000 + _ + 10000000 + (xz y + 50) + 10000000; omega
   ·rw [xzL_one]; show _ ≤ 100 + (xz x + 50); omega
  ·intro n ks r
   rw [itemS]
   refine .ite (fun hi => .tl (isS_pos hi) (.ok ?_)) (fun _ => .must fun u => (ih.expr n u).then fun y v => (ih.item n _ v).mono ?_)
   ·have:=xz_7 ks [] 0 []; show xz _ + 50 ≤ _; omega
   ·rw [xzL_snoc]; show _ ≤ _ + (xz y + 50); omega
  ·intro n ks r
   rw [dictS]
   refine .ite (fun hi => .tl (isS_pos hi) (.ok ?_)) (fun _ => ?_)
   ·have:=xz_8 ks [] 0 []; show xz _ + 50 ≤ _; omega
   have h0 : Zx (xzL ks + 100) (fun _ => xzL ks + 100) r (if ks.length > 0 then mustS [44] r else .ok () r):=.ite (fun _ => (mustS_z _ r).less fun _ => by omega) (fun _ => .ok (Nat.le_refl _))
   refine .bind h0 fun _ u => (ih.expr n u).then fun y v => .must fun w => (ih.expr n w).then fun z q => (ih.dict n _ q).mono ?_
   rw [xzL_snoc,xzL_snoc]
   show _ ≤ _ + (xz y + 50) + 10000000 + (xz z + 50); omega
end
def sz (i : List UInt8) (s : St) : Nat:=(stW s i).flatten.length
def szL (i : List UInt8) (l : List St) : Nat:=(stWs l i).flatten.length
def lz (ns : List (List UInt8)) : Nat:=(ns.map fun n => 2 * n.length + 4).sum
def pz (ns : List (List UInt8)) : Nat:=(ns.map fun n => n.length + 2).sum
theorem szL_snoc (i : List UInt8) (l : List St) (s : St) : szL i (l ++ [s]) = szL i l + (i.length + sz i s):=by
 unfold szL sz
 rw [stWs_snoc,List.flatten_append,List.length_append,List.flatten_append,List.length_append]; simp
theorem lz_snoc (l : List (List UInt8)) (x : List UInt8) : lz (l ++ [x]) = lz l + (2 * x.length + 4):=by unfold lz; simp
theorem pz_snoc (l : List (List UInt8)) (x : List UInt8) : pz (l ++ [x]) = pz l + (x.length + 2):=by unfold pz; simp
theorem join_len (ns : List (List UInt8)) : (joinT ns).length ≤ pz ns:=by
 cases ns with
 | nil => exact Nat.zero_le _
 | cons x r =>
  have h : ∀ r : List (List UInt8),(r.flatMap fun t => ([44,32] : List UInt8) ++ t).length = pz r:=fun r => by
   induction r with
   | nil => rfl
   | cons y r ih =>
    rw [List.flatMap_cons,List.length_append,ih]
    have e : pz (y :: r) = y.length + 2 + pz r:=by simp [pz]
    rw [e,List.length_append,List.length_cons,List.length_cons,List.length_nil]; omega
  show (x ++ r.flatMap fun t => [44,32] ++ t).length ≤ (x.length + 2) + pz r
  rw [List.length_append,h]; omega
theorem load_len (ns : List (List UInt8)) : (ns.flatMap ldP).flatten.length ≤ lz ns:=by
 induction ns with
 | nil => exact Nat.le_refl _
 | cons x r ih =>
  have:=quoT_len2 x
  rw [List.flatMap_cons,List.flatten_append,List.length_append]
  have e : (ldP x).flatten.length = 2 + (quoT x).length:=by simp [ldP]; omega
  show _ ≤ (2 * x.length + 4) + lz r
  omega
theorem namesS_z : ∀ (F : Nat) (ns : List (List UInt8)) (r : List Tok),Zx (lz ns) lz r (namesS F ns r)
 | 0,_,_ => .out
 | F + 1,ns,r => by
  rw [namesS]
  refine .ite (fun _ => .bad) (fun _ => .take fun t u => .ite (fun h => .tl (isS_pos h) ((namesS_z F _ _).mono ?_)) (fun _ => .ok ?_))
  ·rw [lz_snoc]; omega
  ·rw [lz_snoc]; omega
theorem paramS_z : ∀ (F : Nat) (ns : List (List UInt8)) (r : List Tok),Zx (pz ns) pz r (paramS F ns r)
 | 0,_,_ => .out
 | F + 1,ns,r => by
  rw [paramS]
  refine .ite (fun _ => .bad) (fun _ => .take fun t u => .ite (fun h => .tl (isS_pos h) ((paramS_z F _ _).mono ?_)) (fun _ => .ok ?_))
  ·rw [pz_snoc]; omega
  ·rw [pz_snoc]; omega
theorem smallS_z (F b d : Nat) (i : List UInt8) (r : List Tok) : Zx 0 (sz i) r (smallS F b d r):=by
 have ih:=allZ F
 unfold smallS loadS
 refine .ite (fun h => .tl (isS_pos h) (.ok ?_)) (fun _ => .ite (fun h => .ite (fun _ => .bad) (fun _ => .ite (fun _ => .tl (isS_pos h) ((ih.expr 0 _).then fun x u => .ok ?_)) (fun _ => .tl (isS_pos h) (.ok ?_)))) (fun _ => .ite (fun h => .ite (fun _ => .bad) (fun _ => .tl (isS_pos h) (.must fun u => .take fun t v => .must fun w => .bind ((namesS_z F [] w).add (0 + 10000000 + 2 * (hdT r).length + 10000000 + 10000000 + 2 * t.text.length + 10000000)) fun ns q => .must fun o => .ok ?_))) (fun _ => .ite (fun h => ?_) (fun _ => (ih.expr 0 r).then fun x u => .ok ?_))))
 ·show 5 ≤ _; omega
 ·have e : sz i (.mk 2 [] [] x [] []) = ([[114,101,116,117,114,110,32]] ++ exW x ++ [nl] : Pcs).flatten.length:=rfl
  rw [e]
  have h1 : xz x = (exW x).flatten.length:=rfl
  simp only [List.flatten_append,List.length_append,List.flatten_cons,List.flatten_nil,List.length_cons,List.length_nil,nl]
  show _ ≤ _ + (xz x + 50); omega
 ·show 12 ≤ _; omega
 ·have e : sz i (.mk 4 t.text ns .zero [] []) = ([[108,111,97,100,40],quoT t.text] ++ ns.flatMap ldP ++ [[41,10]] : Pcs).flatten.length:=rfl
  have h1:=load_len ns
  have h2:=quoT_len2 t.text
  rw [e]
  simp only [List.flatten_append,List.length_append,List.flatten_cons,List.flatten_nil,List.length_cons,List.length_nil]
  omega
 ·have hp:=nameS_pos h
  have e1:=List.length_tail (l:=r)
  have e2:=List.length_tail (l:=r.tail)
  refine .tl (by omega) (.tl (by omega) ((ih.expr 0 _).then fun x u => .ok ?_))
  have e : sz i (.mk 3 (hdT r) [] x [] []) = ([hdT r,[32,61,32]] ++ exW x ++ [nl] : Pcs).flatten.length:=rfl
  have h1 : xz x = (exW x).flatten.length:=rfl
  rw [e]
  simp only [List.flatten_append,List.length_append,List.flatten_cons,List.flatten_nil,List.length_cons,List.length_nil,nl]
  show _ ≤ _ + (xz x + 50); omega
 ·have e : sz i (.mk 5 [] [] x [] []) = (exW x ++ [nl] : Pcs).flatten.length:=rfl
  have h1 : xz x = (exW x).flatten.length:=rfl
  rw [e]
  simp only [List.flatten_append,List.length_append,List.flatten_cons,List.flatten_nil,List.length_cons,List.length_nil,nl]
  show _ ≤ _ + (xz x + 50); omega
structure AllY (F : Nat) : Prop where
 stmts : ∀ i top b d ls r,i.length + 4 * F ≤ 4000000 → Zx (szL i ls) (szL i) r (stmtsS F top b d ls r)
 block : ∀ i b d r,i.length + 4 * F ≤ 4000000 → Zx 0 (szL (i ++ tab4)) r (blockS F b d r)
 stmt : ∀ i b d r,i.length + 4 * F ≤ 4000000 → Zx 0 (fun s => i.length + sz i s) r (stmtS F b d r)
theorem allY (F : Nat) : AllY F:=by
 induction F with
 | zero => exact ⟨fun _ _ _ _ _ _ _ => .out,fun _ _ _ _ _ => .out,fun _ _ _ _ _ => .out⟩
 | succ F ih =>
  have iz:=allZ F
  refine ⟨?_,?_,?_⟩
  ·intro i top b d ls r hi
   rw [stmtsS]
   refine .ite (fun _ => .ok (Nat.le_refl _)) (fun _ => (ih.stmt i b d r (by omega)).then fun s u => (ih.stmts i top b d _ u (by omega)).mono ?_)
   rw [szL_snoc]; exact Nat.le_refl _
  ·intro i b d r hi
   rw [blockS]
   have ht : (i ++ tab4).length = i.length + 4:=by simp [tab4]
   refine .must fun u => .take fun _ v => .take fun _ w => .bind ((ih.stmts (i ++ tab4) false (b + 1) d [] w (by omega)).mono (by show 0 ≤ _; omega)) fun l q => .bind (takeS_z _ q) fun _ o => .ok (by omega)
  ·intro i b d r hi
   rw [stmtS]
   refine .ite (fun h => .ite (fun _ => .bad) (fun _ => .tl (isS_pos h) (.take fun t u => .must fun v => .bind (m:=fun ns => 10000000 + 2 * (hdT r).length + 10000000 + 2 * t.text.length + 10000000 + pz ns) (.ite (fun _ => ?_) (fun _ => .ok (by show _ + 0 ≤ _; omega))) fun ns w => .must fun q => (ih.block i b (d + 1) q (by omega)).then fun l o => .ok ?_))) (fun _ => .ite (fun h => .tl (isS_pos h) ((iz.expr 0 _).then fun x u => (ih.block i b d u (by omega)).then fun l v => .ite (fun he => .tl (isS_pos he) ((ih.block i b d _ (by omega)).then fun m w => .ok ?_)) (fun _ => .ok ?_))) (fun _ => .ite (fun h => .tl (isS_pos h) (.take fun t u => .must fun v => (iz.expr 0 v).then fun x w => (ih.block i b d w (by omega)).then fun l q => .ok ?_)) (fun _ => (smallS_z F b d i r).then fun s u => .bind (takeS_z 6 u) fun _ v => .ok ?_)))
   ·exact ((paramS_z F [] v).add _).mono (by show _ + 0 ≤ _; omega)
   ·have e : sz i (.mk 6 t.text ns .zero l []) = ([[100,101,102,32],t.text,[40],joinT ns,[41]] ++ ([[58,10]] ++ stWs l (i ++ tab4)) : Pcs).flatten.length:=rfl
    have h1:=join_len ns
    have h2 : szL (i ++ tab4) l = (stWs l (i ++ tab4)).flatten.length:=rfl
    show i.length + sz i _ ≤ _
    rw [e]
    simp only [List.flatten_append,List.length_append,List.flatten_cons,List.flatten_nil,List.length_cons,List.length_nil]
    omega
   ·have e : sz i (.mk 7 [] [] x l m) = ([[105,102,32]] ++ exW x ++ ([[58,10]] ++ stWs l (i ++ tab4)) ++ (if m.length > 0 then [i,wElse] ++ ([[58,10]] ++ stWs m (i ++ tab4)) else []) : Pcs).flatten.length:=rfl
    have h1 : mz x = (exW x).flatten.length + 50:=rfl
    have h2 : szL (i ++ tab4) l = (stWs l (i ++ tab4)).flatten.length:=rfl
    have h3 : szL (i ++ tab4) m = (stWs m (i ++ tab4)).flatten.length:=rfl
    have h4 : ((if m.length > 0 then [i,wElse] ++ ([[58,10]] ++ stWs m (i ++ tab4)) else []) : Pcs).flatten.length ≤ i.length + 6 + szL (i ++ tab4) m:=by
     split
     ·simp only [List.flatten_append,List.length_append,List.flatten_cons,List.flatten_nil,List.length_cons,List.length_nil,wElse]; omega
     ·simp
    show i.length + sz i _ ≤ _
    rw [e]
    simp only [List.flatten_append,List.length_append,List.flatten_cons,List.flatten_nil,List.length_cons,List.length_nil] at h4 ⊢
    omega
   ·have e : sz i (.mk 7 [] [] x l []) = ([[105,102,32]] ++ exW x ++ ([[58,10]] ++ stWs l (i ++ tab4)) ++ [] : Pcs).flatten.length:=rfl
    have h1 : mz x = (exW x).flatten.length + 50:=rfl
    have h2 : szL (i ++ tab4) l = (stWs l (i ++ tab4)).flatten.length:=rfl
    show i.length + sz i _ ≤ _
    rw [e]
    simp only [List.flatten_append,List.length_append,List.flatten_cons,List.flatten_nil,List.length_cons,List.length_nil]
    omega
   ·have e : sz i (.mk 8 t.text [] x l []) = ([[102,111,114,32],t.text,[32,105,110,32]] ++ exW x ++ ([[58,10]] ++ stWs l (i ++ tab4)) : Pcs).flatten.length:=rfl
    have h1 : mz x = (exW x).flatten.length + 50:=rfl
    have h2 : szL (i ++ tab4) l = (stWs l (i ++ tab4)).flatten.length:=rfl
    show i.length + sz i _ ≤ _
    rw [e]
    simp only [List.flatten_append,List.length_append,List.flatten_cons,List.flatten_nil,List.length_cons,List.length_nil]
    omega
   ·show i.length + sz i s ≤ 0 + sz i s + 10000000 + _; omega
def laysJoin_ren : Go.Shelf.Ren:=⟨fun | 156 => 74 | 165 => 106 | 166 => 72 | 169 => 31 | 240 => 40 | 241 => 122 | 276 => 70 | 277 => 131 | n => n,fun | 31 => 51 | 9 => 9 | 3 => 3 | 4 => 4 | 0 => 0 | 20 => 20 | 72 => 61 | 76 => 100 | 70 => 59 | 37 => 40 | 75 => 63 | 127 => 83 | 164 => 98 | 5 => 5 | 80 => 66 | n => n,fun | n => n⟩
theorem laysJoin : Go.Proofs.Lays.n156 Tryz.prog laysJoin_ren:={
 mixed:=by kernel_rfl
 f156:=Tryz.func74.trans (congrArg some (by kernel_rfl))
 f165:=Tryz.func106.trans (congrArg some (by kernel_rfl))
 f166:=Tryz.func72.trans (congrArg some (by kernel_rfl))
 f169:=Tryz.func31.trans (congrArg some (by kernel_rfl))
 f240:=Tryz.func40.trans (congrArg some (by kernel_rfl))
 f241:=Tryz.func122.trans (congrArg some (by kernel_rfl))
 f276:=Tryz.func70.trans (congrArg some (by kernel_rfl))
 f277:=Tryz.func131.trans (congrArg some (by kernel_rfl))
 t0:=Tryz.underlying0
 a0:=Tryz.isAgg0
 z0:=Tryz.sizeOf0
 v0:=Tryz.zeroValue0
 t3:=Tryz.underlying3
 a3:=Tryz.isAgg3
 z3:=Tryz.sizeOf3
 v3:=Tryz.zeroValue3
 t4:=Tryz.underlying4
 a4:=Tryz.isAgg4
 z4:=Tryz.sizeOf4
 v4:=Tryz.zeroValue4
 t9:=Tryz.underlying9
 a9:=Tryz.isAgg9
 z9:=Tryz.sizeOf9
 v9:=Tryz.zeroValue9
 t20:=Tryz.underlying20
 a20:=Tryz.isAgg20
 z20:=Tryz.sizeOf20
 v20:=Tryz.zeroValue20
 t31:=Tryz.underlying51
 a31:=Tryz.isAgg51
 z31:=Tryz.sizeOf51
 v31:=Tryz.zeroValue51
 t37:=Tryz.underlying40
 a37:=Tryz.isAgg40
 z37:=Tryz.sizeOf40
 v37:=Tryz.zeroValue40
 t70:=Tryz.underlying59
 a70:=Tryz.isAgg59
 z70:=Tryz.sizeOf59
 v70:=Tryz.zeroValue59
 t72:=Tryz.underlying61
 a72:=Tryz.isAgg61
 z72:=Tryz.sizeOf61
 v72:=Tryz.zeroValue61
 t75:=Tryz.underlying63
 a75:=Tryz.isAgg63
 z75:=Tryz.sizeOf63
 v75:=Tryz.zeroValue63
 t76:=Tryz.underlying100
 a76:=Tryz.isAgg100
 z76:=Tryz.sizeOf100
 v76:=Tryz.zeroValue100
 t127:=Tryz.underlying83
 a127:=Tryz.isAgg83
 z127:=Tryz.sizeOf83
 v127:=Tryz.zeroValue83
 t164:=Tryz.underlying98
 a164:=Tryz.isAgg98
 z164:=Tryz.sizeOf98
 v164:=Tryz.zeroValue98 }
theorem extraJoin : Go.Proofs.Builder.Extra Tryz.prog laysJoin_ren:={
 sizeBuilder:=by kernel_rfl
 liesBuilder:=by kernel_rfl
 t5:=Tryz.underlying5
 a5:=Tryz.isAgg5
 z5:=Tryz.sizeOf5
 v5:=Tryz.zeroValue5
 infoByte:=by kernel_rfl
 cellsByte:=by kernel_rfl
 sizeByte:=by kernel_rfl
 neB5:=by decide }
theorem toldB {cx : Cx} {f : FuncId} {args : List AV} {res : AV} (he : Enters cx.P f) (hf : Free true res)
  (h : ∀ r w vs,Inv cx r [] w → VRels r w vs args → ∃ v,(∀ w',VRel r w' v res) ∧ Calls cx.P f vs w fun e w' => e = .returned v ∧ RowKit.Below w.heap.size w w') : Calc cx f args res :=
 calc_of hf ⟨he,fun r w vs hi hv => by
  obtain ⟨v,h1,h2⟩:=h r w vs hi hv
  refine h2.mono fun e w' ⟨he,hb⟩ => ?_
  subst he
  obtain ⟨q1,q2⟩:=hi.grown (w':=w') hb.block hb.size hb.os hb.output hb.tape
  exact ⟨.ret res,[],r,⟨res,rfl,.refl hf⟩,h1 _,q1,q2⟩⟩
theorem joinT_eq (ns : List (List UInt8)) : joinT ns = Lib.join ns [44,32]:=by
 cases ns with
 | nil => rfl
 | cons x r =>
  rw [Lib.join_cons]
  show x ++ r.flatMap (fun t => [44,32] ++ t) = x ++ (r.map ([44,32] ++ ·)).flatten
  rw [List.flatMap_def]
theorem Join_ok (ns : List (List UInt8)) (h1 : ns.length ≤ 800000) (h2 : (joinT ns).length ≤ 140737488355328) : Calc cx 74 [.sl true false 1 (texts ns),.str [44,32]] (.str (joinT ns)) :=
 toldB (fun a w => Tryz.call74 a w) .str fun r w vs hi hv => by
  obtain ⟨hs,hv⟩:=hv
  have g0:=hv 0 (by simp)
  have g1:=hv 1 (by simp)
  have hvs : vs = #[vs.getD 0 undef,vs.getD 1 undef]:=by
   have hs : vs.size = 2:=hs
   refine Array.ext (by simp [hs]) fun i h1 h2 => ?_
   match i,h1 with
   | 0,h1 => simp [Array.getD,h1]
   | 1,h1 => simp [Array.getD,h1]
   | i + 2,h1 => omega
  generalize vs.getD 0 undef = a at g0 hvs
  generalize vs.getD 1 undef = b at g1 hvs
  subst hvs
  have g1 : VRel r w b (.str [44,32]):=g1
  have g0 : VRel r w a (.sl true false 1 (texts ns)):=g0
  refine ⟨.string ⟨(joinT ns).toArray⟩,fun w' => .str rfl,?_⟩
  cases g1 with
  | @str sep _ hsep =>
  generalize hx : texts ns = xs at g0
  cases g0 with
  | @sl0 _ _ _ ad cap _ =>
   have hn : ns = []:=by simpa [texts] using hx
   subst hn
   exact (Any.strings_Join_none laysJoin extraJoin ad cap sep w).mono fun e w' ⟨he,hw⟩ => ⟨he,hw ▸ RowKit.Below.refl _ _⟩
  | @sl _ _ _ bk o _ n cap hn hc0 hf hI hS hsz f hc hvv =>
   subst hx
   have hl : (texts ns).length = ns.length:=texts_len ns
   have key : ∀ (j : Nat) (hj : j < ns.length),f j 0 = .string ⟨ns[j].toArray⟩:=fun j hj => by
    have hj' : j < (texts ns).length:=by omega
    have ht : (texts ns)[j] = .str ns[j]:=by simp [texts]
    have h0 : 0 < (AV.cells ((texts ns)[j]'hj')).length:=by rw [ht]; exact Nat.zero_lt_one
    have hv:=hvv j hj' 0 h0
    have hv : VRel r w (f j 0) (.str ns[j]):=by
     have e : (AV.cells ((texts ns)[j]'hj'))[0]'h0 = .str ns[j]:=by simp [ht,AV.cells]
     rwa [e] at hv
    generalize f j 0 = q at hv
    cases hv with
    | @str s _ hs =>
     congr 1
     cases s with
     | mk d => rw [← hs]
   have hxs : ((ns.map fun l => (⟨l.toArray⟩ : ByteArray)).map (·.data.toList)) = ns:=by
    rw [List.map_map]
    conv => rhs; rw [← List.map_id ns]
    rfl
   have hJ:=Any.strings_Join laysJoin extraJoin bk o cap (ns.map fun l => (⟨l.toArray⟩ : ByteArray)) sep w (fun j x hx => by
     rw [List.getElem?_map] at hx
     have hj : j < ns.length:=by
      rcases Nat.lt_or_ge j ns.length with h | h
      ·exact h
      ·rw [List.getElem?_eq_none h] at hx; cases hx
     rw [List.getElem?_eq_getElem hj] at hx
     cases hx
     have:=hc j (by omega) 0 (by omega)
     rw [Nat.mul_one,Nat.add_zero] at this
     rw [this,key j hj])
    (hi.Ilt bk hI) (by simp; omega) (by simp; omega) (by rw [hxs,hsep,← joinT_eq]; exact h2)
   rw [hxs,hsep,← joinT_eq,List.length_map] at hJ
   have hnn : n = ns.length:=by omega
   subst hnn
   exact hJ
theorem wL_le (K : Nat) : ∀ l : List Tok,(∀ t ∈ l,wT t ≤ K) → wL l ≤ K * l.length
 | [],_ => Nat.zero_le _
 | t :: r,h => by
  have h1:=wL_le K r fun x hx => h x (List.mem_cons_of_mem _ hx)
  have h2:=h t (List.mem_cons_self ..)
  show wT t + wL r ≤ K * (r.length + 1)
  rw [Nat.mul_add]; omega
theorem srcT_len (s : List UInt8) : (srcT (parseS s).1).length ≤ 70000000000000:=by
 have hg:=splitS_good s
 have hw:=splitS_w s
 have hz:=splitS_size s
 have hs : (splitS s).2.1 = 0 → s.length ≤ 6000:=by
  unfold splitS
  split
  ·intro h; cases h
  ·intro _; omega
 unfold parseS
 generalize splitS s = y at hg hw hz hs ⊢
 obtain ⟨l,f⟩:=y
 have hz : l.length ≤ 24040:=hz
 simp only
 by_cases hf : f.1 ≠ 0
 ·rw [if_pos hf]; exact Nat.zero_le _
 rw [if_neg hf]
 have hs : s.length ≤ 6000:=hs (by simpa using hf)
 have hl : wL l ≤ 10012021 * l.length:=wL_le _ l fun t ht => by
  have h1:=(hg t ht).size
  have h2:=(hw t ht).num
  have h3:=Lib.itoa_length_le (t.num : Int) (by omega) (by omega)
  show 10000000 + 2 * t.text.length + (Lib.itoa t.num).length ≤ _
  omega
 have hY:=(allY (fuelS l)).stmts [] true 0 0 [] l (by unfold fuelS; simp; omega)
 cases hx : stmtsS (fuelS l) true 0 0 [] l with
 | out => exact Nat.zero_le _
 | bad k u => exact Nat.zero_le _
 | ok x u =>
  have h:=hY x u hx
  have e : szL [] [] = 0:=rfl
  have e2 : szL [] x = (srcT x).length:=rfl
  rw [e,e2] at h
  show (srcT x).length ≤ _
  omega
theorem stWs_mem (i : List UInt8) : ∀ (l : List St) (s : St),s ∈ l → (stW s i).flatten.length ≤ (stWs l i).flatten.length
 | x :: r,s,h => by
  rw [stWs,List.flatten_append,List.length_append,List.flatten_append,List.length_append]
  rcases List.mem_cons.1 h with rfl | h
  ·omega
  ·have:=stWs_mem i r s h; omega
theorem allJ_of {B : Nat} {s : St} (h : Ws 800000 s) : ∀ i,(stW s i).flatten.length ≤ B → AllJ (fun ns => ns.length ≤ 800000 ∧ (joinT ns).length ≤ B) s:=by
 induction h with
 | @mk k t ns x b e h1 h2 h3 h4 h5 h6 ihb ihe =>
  intro i hl
  match k,h6,hl with
  | 1,h6,_ => rw [h6.2.2.2.1,h6.2.2.2.2]; exact .mk (fun h => by cases h) nofun nofun
  | 2,h6,_ => rw [h6.2.2.2.1,h6.2.2.2.2]; exact .mk (fun h => by cases h) nofun nofun
  | 3,h6,_ => rw [h6.2.2.2.1,h6.2.2.2.2]; exact .mk (fun h => by cases h) nofun nofun
  | 4,h6,_ => rw [h6.2.2.2.1,h6.2.2.2.2]; exact .mk (fun h => by cases h) nofun nofun
  | 5,h6,_ => rw [h6.2.2.2.1,h6.2.2.2.2]; exact .mk (fun h => by cases h) nofun nofun
  | 6,h6,hl =>
   have hl : ([[100,101,102,32],t,[40],joinT ns,[41]] ++ ([[58,10]] ++ stWs b (i ++ tab4)) : Pcs).flatten.length ≤ B:=hl
   simp only [List.flatten_append,List.length_append,List.flatten_cons,List.flatten_nil,List.length_cons,List.length_nil] at hl
   rw [h6.2.2.2]
   exact .mk (fun _ => ⟨h1,by omega⟩) (fun s hs => ihb s hs (i ++ tab4) (by have:=stWs_mem (i ++ tab4) b s hs; omega)) nofun
  | 7,h6,hl =>
   have hl : ([[105,102,32]] ++ exW x ++ ([[58,10]] ++ stWs b (i ++ tab4)) ++ (if e.length > 0 then [i,wElse] ++ ([[58,10]] ++ stWs e (i ++ tab4)) else []) : Pcs).flatten.length ≤ B:=hl
   refine .mk (fun h => by cases h) (fun s hs => ihb s hs (i ++ tab4) ?_) (fun s hs => ihe s hs (i ++ tab4) ?_)
   ·have:=stWs_mem (i ++ tab4) b s hs
    simp only [List.flatten_append,List.length_append,List.flatten_cons,List.flatten_nil,List.length_cons,List.length_nil] at hl
    omega
   ·have:=stWs_mem (i ++ tab4) e s hs
    have hp : e.length > 0:=List.length_pos_of_mem hs
    rw [if_pos hp] at hl
    simp only [List.flatten_append,List.length_append,List.flatten_cons,List.flatten_nil,List.length_cons,List.length_nil] at hl
    omega
  | 8,h6,hl =>
   have hl : ([[102,111,114,32],t,[32,105,110,32]] ++ exW x ++ ([[58,10]] ++ stWs b (i ++ tab4)) : Pcs).flatten.length ≤ B:=hl
   simp only [List.flatten_append,List.length_append,List.flatten_cons,List.flatten_nil,List.length_cons,List.length_nil] at hl
   rw [h6.2.2.2]
   exact .mk (fun h => by cases h) (fun s hs => ihb s hs (i ++ tab4) (by have:=stWs_mem (i ++ tab4) b s hs; omega)) nofun
  | 0,h6,_ => exact h6.elim
  | k + 9,h6,_ => exact h6.elim
theorem CanonF_ok (s : List UInt8) : Calc cx 16 [.str s] (canonAV (canonS s)):=by
 have hw:=parseS_w s
 have hl:=srcT_len s
 exact Canon_ok (J:=fun ns => ns.length ≤ 800000 ∧ (joinT ns).length ≤ 70000000000000) (fun ns h => Join_ok ns h.1 (by have:=h.2; omega)) s (fun x hx => allJ_of (hw.2 x hx) [] (by
  have:=stWs_mem [] _ x hx
  have e : (srcT (parseS s).1).length = (stWs (parseS s).1 []).flatten.length:=rfl
  omega)) hl
theorem outW_mem (i : List UInt8) (l : List St) (s : St) (h : s ∈ l) : (stW s i).flatten.length ≤ (outW l i).length:=stWs_mem i l s h
def RunS (l : List St) (i : List UInt8) : Prop:=Calc cx 33 [.sl true false 10 (stL l),.str i] (.str (outW l i))
theorem elseL {k : Nat} {t : List UInt8} {ns : List (List UInt8)} {x : Ex} {b e : List St} (i : List UInt8) {M B : Nat} (h : shs M k t ns x b e) (hl : (stW (.mk k t ns x b e) i).flatten.length ≤ B) : (outW e (i ++ tab4)).length ≤ B:=by
 have z : (outW [] (i ++ tab4)).length ≤ B:=Nat.zero_le _
 match k,h,hl with
 | 1,h,hl => rw [h.2.2.2.2]; exact z
 | 2,h,hl => rw [h.2.2.2.2]; exact z
 | 3,h,hl => rw [h.2.2.2.2]; exact z
 | 4,h,hl => rw [h.2.2.2.2]; exact z
 | 5,h,hl => rw [h.2.2.2.2]; exact z
 | 6,h,hl => rw [h.2.2.2]; exact z
 | 7,h,hl =>
  by_cases he : e.length > 0
  ·rw [stq7,if_pos he] at hl; simp only [List.length_append] at hl; omega
  ·rw [List.length_eq_zero_iff.1 (by omega : e.length = 0)]; exact z
 | 8,h,hl => rw [h.2.2.2]; exact z
 | 0,h,_ => exact h.elim
 | k + 9,h,_ => exact h.elim
theorem runS (s : St) (h : Ws 800000 s) : ∀ i,(stW s i).flatten.length ≤ 70000000000000 → RunS (bdS s) (i ++ tab4) ∧ RunS (elS s) (i ++ tab4):=by
 induction h with
 | @mk k t ns x b e h1 h2 h3 h4 h5 h6 ihb ihe =>
  intro i hl
  have hb:=bodyL i h6 hl
  have he:=elseL i h6 hl
  refine ⟨stepS b (i ++ tab4) h2 hb h4 (fun s hs => ?_) (fun s hs => ?_),stepS e (i ++ tab4) h3 he h5 (fun s hs => ?_) (fun s hs => ?_)⟩
  ·exact (ihb s hs (i ++ tab4) (Nat.le_trans (outW_mem _ _ _ hs) hb)).1
  ·exact (ihb s hs (i ++ tab4) (Nat.le_trans (outW_mem _ _ _ hs) hb)).2
  ·exact (ihe s hs (i ++ tab4) (Nat.le_trans (outW_mem _ _ _ hs) he)).1
  ·exact (ihe s hs (i ++ tab4) (Nat.le_trans (outW_mem _ _ _ hs) he)).2
theorem StmtsSource_ok (s : List UInt8) : Calc cx 33 [.sl true false 10 (stL (parseS s).1),.str []] (.str (srcT (parseS s).1)):=by
 have hw:=parseS_w s
 have hl : (outW (parseS s).1 []).length ≤ 70000000000000:=srcT_len s
 exact stepS _ [] hw.1 hl hw.2 (fun x hx => (runS x (hw.2 x hx) [] (Nat.le_trans (outW_mem _ _ _ hx) hl)).1) (fun x hx => (runS x (hw.2 x hx) [] (Nat.le_trans (outW_mem _ _ _ hx) hl)).2)
theorem CanonSource_ok (s : List UInt8) : Calc cx 17 [.str s] (canonAV (canonS s)) :=
 pure_intro (fun a w => Tryz.call17 a w) Tryz.func17 rfl Tryz.ntmps17 rfl (canonAV_free _) fun B => by
  have h1:=ParseSource_ok s
  have h2:=StmtsSource_ok s
  have h3:=ParseSource_ok (srcT (parseS s).1)
  unfold canonS
  obtain ⟨l,e1,e2,hp⟩ : ∃ l e1 e2,parseS s = (l,(e1,e2)):=⟨_,_,_,rfl⟩
  rw [hp] at h1 h2 h3 ⊢
  simp only at h2 h3 ⊢
  obtain ⟨m,f1,f2,hq⟩ : ∃ m f1 f2,parseS (srcT l) = (m,(f1,f2)):=⟨_,_,_,rfl⟩
  rw [hq] at h3 ⊢
  simp only
  by_cases he : e1 = 0
  ·subst he
   rw [if_neg (by simp)]
   by_cases hl : 6000 < (srcT l).length
   ·rw [if_pos (.inl hl)]
    have e0 : decide ((((srcT l).length : Nat) : Int) > 6000) = true:=decide_eq_true (by omega)
    refine pa [.v (parseAV (l,(0,e2))),.b false,.v (.str (srcT l)),.v (parseAV (m,(f1,f2))),.b true,.b true] rfl ?_ ?_
    ·(repeat' with_reducible apply AllP_cons) <;> try exact aC
     ·exact ⟨_,h1,.cons (.refl .str) (.nil _)⟩
     ·exact ⟨_,h2,.cons (.refl (.sl (fun h => by cases h) (stL_free l))) (.cons (.refl .str) (.nil _))⟩
     ·exact ⟨_,h3,.cons (.refl .str) (.nil _)⟩
    exact S_retc (canonAV_free _) rfl ⟨rfl,trivial⟩ rfl
   ·have e0 : decide ((((srcT l).length : Nat) : Int) > 6000) = false:=decide_eq_false (by omega)
    by_cases hf : f1 = 0
    ·subst hf
     rw [if_neg (by simp [hl])]
     refine pa [.v (parseAV (l,(0,e2))),.b false,.v (.str (srcT l)),.v (parseAV (m,(0,f2))),.b false,.b false] rfl ?_ ?_
     ·(repeat' with_reducible apply AllP_cons) <;> try exact aC
      ·exact ⟨_,h1,.cons (.refl .str) (.nil _)⟩
      ·exact ⟨_,h2,.cons (.refl (.sl (fun h => by cases h) (stL_free l))) (.cons (.refl .str) (.nil _))⟩
      ·exact ⟨_,h3,.cons (.refl .str) (.nil _)⟩
     exact S_retc (canonAV_free _) rfl ⟨rfl,trivial⟩ rfl
    ·rw [if_pos (.inr hf)]
     have e1 : ((f1 : Int) != 0) = true:=by simpa using hf
     refine pa [.v (parseAV (l,(0,e2))),.b false,.v (.str (srcT l)),.v (parseAV (m,(f1,f2))),.b false,.b true] rfl ?_ ?_
     ·(repeat' with_reducible apply AllP_cons) <;> try exact aC
      ·exact ⟨_,h1,.cons (.refl .str) (.nil _)⟩
      ·exact ⟨_,h2,.cons (.refl (.sl (fun h => by cases h) (stL_free l))) (.cons (.refl .str) (.nil _))⟩
      ·exact ⟨_,h3,.cons (.refl .str) (.nil _)⟩
     exact S_retc (canonAV_free _) rfl ⟨rfl,trivial⟩ rfl
  ·rw [if_pos he]
   have e0 : ((e1 : Int) != 0) = true:=by simpa using he
   refine pa [.v (parseAV (l,(e1,e2))),.b true] rfl ?_ ?_
   ·(repeat' with_reducible apply AllP_cons) <;> try exact aC
    ·exact ⟨_,h1,.cons (.refl .str) (.nil _)⟩
   exact S_retc (canonAV_free _) rfl ⟨rfl,trivial⟩ rfl
theorem SyntaxCanons_ok (s : List UInt8) (hs : s.length ≤ 1048576) : Calc cx 5 [.str s] (.bool true) :=
 pure_intro (fun a w => Tryz.call5 a w) Tryz.func5 rfl Tryz.ntmps5 rfl .bool fun B => by
  have h1:=CanonF_ok s
  have h2:=CanonSource_ok s
  obtain ⟨t,e1,e2,hp⟩ : ∃ t e1 e2,canonS s = (t,(e1,e2)):=⟨_,_,_,rfl⟩
  rw [hp] at h1 h2
  refine pa [.v (canonAV (t,(e1,e2))),.v (canonAV (t,(e1,e2))),.v (.bool true),.b true,.b true] rfl ?_ ?_
  ·(repeat' with_reducible apply AllP_cons) <;> try exact aC
   ·exact ⟨_,h1,.cons (.refl .str) (.nil _)⟩
   ·exact ⟨_,h2,.cons (.refl .str) (.nil _)⟩
   ·exact ⟨_,syntaxBegun_ok,.nil _⟩
   ·kernel_rfl
   ·simp
  refine S_retc .bool rfl trivial ?_
  show AV.bool (t == t) = .bool true
  rw [beq_self_eq_true]
end Go.Proofs.YtonjhfeabphaaaaGreatDoor
end
