/-
  The packer at any place of the heap, with its error.
-/
import Derived.Test.YtjpmngjoohoddaaDoorWireD
set_option linter.unusedVariables false
set_option linter.unusedSimpArgs false
set_option maxRecDepth 20000
namespace Go.Proofs.YtjpmngjoohoddaaDoor
open Go Go.Ab

/-- The packer: its builder holds these bytes; its error. -/
def pkE (v u : Nat) (a : AV) (bs : List UInt8) (e : Nat) : Heap := [(v, some (bBox 52 a (.ms 1 u 0 bs.length 1 false) [.int .i64 e])), (u, some (byBox bs))]

/-- What a method of the packer leaves. -/
def PkR (v : Nat) (o0 : AV) (bs : List UInt8) (e : Nat) : Out → Heap → Prop := fun o σ' => o = .ret o0 ∧ ∃ u a, (a = .nilp ∨ a = .ptr 0 v 0) ∧ σ' = pkE v u a bs e

theorem pnumber_ok (v u : Nat) (a : AV) (ha : a = .nilp ∨ a = .ptr 0 v 0) (bs : List UInt8) (m : Nat) (hm : m ≤ 9223372036854775807) (hl : bs.length + 10 ≤ 140737488355328) :
    CallOk cx 33 [.ptr 0 v 0, .int .i64 m] (pkE v u a bs 0) (PkR v (.tup []) (bs ++ packN 9 m) 0) :=
  (number_ok v u a ha bs m hm hl).mono fun o σ' ⟨h1, u', h2⟩ => ⟨h1, u', _, .inr rfl, h2⟩

theorem ptext_ok (v u : Nat) (a : AV) (ha : a = .nilp ∨ a = .ptr 0 v 0) (bs s : List UInt8) (hl : bs.length + 10 + s.length ≤ 140737488355328) :
    CallOk cx 32 [.ptr 0 v 0, .str s] (pkE v u a bs 0) (PkR v (.tup []) (bs ++ packT s) 0) :=
  (text_ok v u a ha bs s hl).mono fun o σ' ⟨h1, u', h2⟩ => ⟨h1, u', _, .inr rfl, h2⟩

theorem ptexts_ok {st fl : Bool} (v u : Nat) (a : AV) (ha : a = .nilp ∨ a = .ptr 0 v 0) (bs : List UInt8) (l : List (List UInt8)) (hn : l.length ≤ 1048576) (hs : ∀ s ∈ l, s.length ≤ 100000) (hl : bs.length ≤ 1048576000) :
    CallOk cx 31 [.ptr 0 v 0, .sl st fl 1 (texts l)] (pkE v u a bs 0) (PkR v (.tup []) (bs ++ packTs l) 0) :=
  (packerTexts_ok v u a ha bs l hn hs hl).mono fun o σ' ⟨h1, u', h2⟩ => ⟨h1, u', _, .inr rfl, h2⟩

/-- The first error stays. -/
def failE (is : Bool) (e e0 : Nat) : Nat := if is = true ∧ e0 = 0 then e else e0

theorem fail_ok (v u : Nat) (a : AV) (ha : a = .nilp ∨ a = .ptr 0 v 0) (bs : List UInt8) (is : Bool) (e e0 : Nat) :
    CallOk cx 24 [.ptr 0 v 0, .bool is, .int .i64 e] (pkE v u a bs e0) (PkR v (.tup []) bs (failE is e e0)) :=
  callOk_intro (fun a w => Tryd.call24 a w) Tryd.func24 rfl Tryd.ntmps24 rfl fun B => by
    refine ab 1000 rfl trivial ?_
    cases is with
    | false =>
      refine S_guard rfl rfl rfl rfl (fun h => by cases h) (fun _ => ?_)
      refine ab 1000 rfl trivial ?_
      refine S_cond rfl (fun h => by cases h) (fun _ => ?_)
      refine ab 1000 rfl trivial ?_
      exact S_nil ⟨_, _, rfl, trivial, rfl, u, a, ha, by rw [failE, if_neg (by simp)]; rfl⟩
    | true =>
      refine S_guard rfl rfl rfl rfl (fun _ => ?_) (fun h => by cases h)
      refine ab 1000 rfl ⟨rfl, trivial⟩ ?_
      refine S_beq rfl (fun h => ?_) (fun h => ?_)
      · have h0 : e0 = 0 := by omega
        subst h0
        refine ab 1000 rfl ⟨lble rfl, rfl, trivial⟩ ?_
        exact S_nil ⟨_, _, rfl, trivial, rfl, u, a, ha, by rw [failE, if_pos ⟨rfl, rfl⟩]; rfl⟩
      · have h0 : e0 ≠ 0 := by omega
        refine ab 1000 rfl trivial ?_
        exact S_nil ⟨_, _, rfl, trivial, rfl, u, a, ha, by rw [failE, if_neg (by simp [h0])]; rfl⟩

theorem doneE_ok (v u : Nat) (a : AV) (bs : List UInt8) (e : Nat) (he : e ≠ 0) :
    CallOk cx 30 [.ptr 0 v 0] (pkE v u a bs e) (fun o σ' => o = .ret (.tup [.str [], .int .i64 e]) ∧ σ' = pkE v u a bs e) :=
  callOk_intro (fun a w => Tryd.call30 a w) Tryd.func30 rfl Tryd.ntmps30 rfl fun B => by
    refine ab 1000 rfl ⟨rfl, trivial⟩ ?_
    refine S_bne rfl (fun _ => ?_) (fun h => by omega)
    refine ab 1000 rfl trivial ?_
    refine S_draw 5 [] [] rfl rfl rfl rfl ⟨rfl, rfl, rfl, rfl, rfl, rfl, trivial⟩ ?_
    refine ab 1000 rfl trivial ?_
    exact S_ret ⟨_, _, rfl, trivial, rfl, rfl⟩

/-- The packer's boxes at the places j and k. -/
def pkB (j k v u : Nat) (a : AV) (bs : List UInt8) (e : Nat) : Nat × Option Box := (v, some (bBox 52 a (.ms k u 0 bs.length 1 false) [.int .i64 e]))
def byB (u : Nat) (bs : List UInt8) : Nat × Option Box := (u, some (byBox bs))

theorem bytes_free (bs : List UInt8) : ∀ x ∈ bs.map byteAV, Free false x := by
  intro x hx
  obtain ⟨y, _, rfl⟩ := List.mem_map.1 hx
  exact .int

theorem pk_rn {j k v u e : Nat} {a a' : AV} {bs : List UInt8} (ha : (a = .nilp ∧ a' = .nilp) ∨ (a = .ptr 0 v 0 ∧ a' = .ptr j v 0)) : RnE [j, k] (v, some (bBox 52 a (.ms 1 u 0 bs.length 1 false) [.int .i64 e])) (pkB j k v u a' bs e) := by
  refine .live (.cells (.cons ?_ (.cons (.ms rfl) (.cons (.free .int) (.nil _)))))
  rcases ha with ⟨rfl, rfl⟩ | ⟨rfl, rfl⟩
  · exact .free .nilp
  · exact .ptr rfl

section
variable {n : Nat} {B : Bs} {k : List AI} {Q : Post} {fr : Fr} {σ : Heap}

/-- A call of a packer's method. -/
theorem S_pk {all : Array Oper} {o : Oper} {l : List Oper} {K : List Nat} {f : FuncId} {v u e e' : Nat} {a : AV} {bs bs' : List UInt8} {xs xs' : List AV} {o0 : AV} (j i : Nat) (hc : callA cx fr o.op = some (f, .ptr j v 0 :: xs)) (hg : guardA all o K fr = some true) (hd : dstOk n o.dst = true)
    (hji : ndB [j, i] = true) (hj : σ[j]? = some (pkB j i v u a bs e)) (hi : σ[i]? = some (byB u bs)) (ha : a = .nilp ∨ a = .ptr j v 0) (has : xs = xs') (hfa : ∀ y ∈ xs', Free false y)
    (hcall : ∀ a, (a = .nilp ∨ a = .ptr 0 v 0) → CallOk cx f (.ptr 0 v 0 :: xs') (pkE v u a bs e) (PkR v o0 bs' e')) (ho : Free false o0)
    (hr : ∀ u a, (a = .nilp ∨ a = .ptr j v 0) → S cx n B (.ops all l K :: k) Q (setA o.dst o0 fr) ((σ.set j (pkB j i v u a bs' e')).set i (byB u bs'))) : S cx n B (.ops all (o :: l) K :: k) Q fr σ := by
  subst has
  obtain ⟨a0, ha0, haa⟩ : ∃ a0 : AV, (a0 = .nilp ∨ a0 = .ptr 0 v 0) ∧ ((a0 = .nilp ∧ a = .nilp) ∨ (a0 = .ptr 0 v 0 ∧ a = .ptr j v 0)) := by
    rcases ha with rfl | rfl
    · exact ⟨.nilp, .inl rfl, .inl ⟨rfl, rfl⟩⟩
    · exact ⟨.ptr 0 v 0, .inr rfl, .inr ⟨rfl, rfl⟩⟩
  refine S_callf [j, i] (hcall a0 ha0) hc (.cons (.ptr rfl) (.free hfa)) (Part.mk' (es := [pkB j i v u a bs e, byB u bs]) hji ?_ (.cons (pk_rn haa) (.cons (.live (.cells (Rns.free (bytes_free bs)))) (.nil _)))) hg hd ?_ ?_
  · simp only [pickAll, hj, hi]
  · rintro y σ1 ⟨h1, u', a', ha', rfl⟩
    cases h1
    have hbn : ∃ a2 : AV, ((a' = .nilp ∧ a2 = .nilp) ∨ (a' = .ptr 0 v 0 ∧ a2 = .ptr j v 0)) ∧ (a2 = .nilp ∨ a2 = .ptr j v 0) := by
      rcases ha' with rfl | rfl
      · exact ⟨.nilp, .inl ⟨rfl, rfl⟩, .inl rfl⟩
      · exact ⟨.ptr j v 0, .inr ⟨rfl, rfl⟩, .inr rfl⟩
    obtain ⟨a2, h2, h3⟩ := hbn
    refine ⟨o0, [pkB j i v u' a2 bs' e', byB u' bs'], .cons (pk_rn h2) (.cons (.live (.cells (Rns.free (bytes_free bs')))) (.nil _)), .free ho, ?_⟩
    simpa [putAll] using hr u' a2 h3
  · rintro y σ1 ⟨h1, _⟩
    cases h1

theorem S_done0 {all : Array Oper} {o : Oper} {l : List Oper} {K : List Nat} {v u : Nat} {a : AV} {bs : List UInt8} (j i : Nat) (hc : callA cx fr o.op = some (30, [.ptr j v 0])) (hg : guardA all o K fr = some true) (hd : dstOk n o.dst = true)
    (hji : ndB [j, i] = true) (hj : σ[j]? = some (pkB j i v u a bs 0)) (hi : σ[i]? = some (byB u bs)) (ha : a = .nilp ∨ a = .ptr j v 0) (h0 : bs ≠ []) (hl : bs.length ≤ 140737488355328)
    (hr : S cx n B (.ops all l K :: k) Q (setA o.dst (.tup [.str bs, .int .i64 0]) fr) ((σ.set j (pkB j i v u a bs 0)).set i (u, none))) : S cx n B (.ops all (o :: l) K :: k) Q fr σ := by
  obtain ⟨a0, haa⟩ : ∃ a0 : AV, ((a0 = .nilp ∧ a = .nilp) ∨ (a0 = .ptr 0 v 0 ∧ a = .ptr j v 0)) := by
    rcases ha with rfl | rfl
    · exact ⟨.nilp, .inl ⟨rfl, rfl⟩⟩
    · exact ⟨.ptr 0 v 0, .inr ⟨rfl, rfl⟩⟩
  refine S_callf [j, i] (done_ok v u a0 bs h0 hl) hc (.cons (.ptr rfl) (.nil _)) (Part.mk' (es := [pkB j i v u a bs 0, byB u bs]) hji ?_ (.cons (pk_rn haa) (.cons (.live (.cells (Rns.free (bytes_free bs)))) (.nil _)))) hg hd ?_ ?_
  · simp only [pickAll, hj, hi]
  · rintro y σ1 ⟨h1, rfl⟩
    cases h1
    refine ⟨_, [pkB j i v u a bs 0, (u, none)], .cons (pk_rn haa) (.cons .dead (.nil _)), .free (.tup (by intro x hx; simp at hx; rcases hx with rfl | rfl; exact .str; exact .int)), ?_⟩
    simpa [putAll] using hr
  · rintro y σ1 ⟨h1, _⟩
    cases h1

theorem S_doneE {all : Array Oper} {o : Oper} {l : List Oper} {K : List Nat} {v u e : Nat} {a : AV} {bs : List UInt8} (j i : Nat) (hc : callA cx fr o.op = some (30, [.ptr j v 0])) (hg : guardA all o K fr = some true) (hd : dstOk n o.dst = true)
    (hji : ndB [j, i] = true) (hj : σ[j]? = some (pkB j i v u a bs e)) (hi : σ[i]? = some (byB u bs)) (ha : a = .nilp ∨ a = .ptr j v 0) (he : e ≠ 0)
    (hr : S cx n B (.ops all l K :: k) Q (setA o.dst (.tup [.str [], .int .i64 e]) fr) ((σ.set j (pkB j i v u a bs e)).set i (byB u bs))) : S cx n B (.ops all (o :: l) K :: k) Q fr σ := by
  obtain ⟨a0, haa⟩ : ∃ a0 : AV, ((a0 = .nilp ∧ a = .nilp) ∨ (a0 = .ptr 0 v 0 ∧ a = .ptr j v 0)) := by
    rcases ha with rfl | rfl
    · exact ⟨.nilp, .inl ⟨rfl, rfl⟩⟩
    · exact ⟨.ptr 0 v 0, .inr ⟨rfl, rfl⟩⟩
  refine S_callf [j, i] (doneE_ok v u a0 bs e he) hc (.cons (.ptr rfl) (.nil _)) (Part.mk' (es := [pkB j i v u a bs e, byB u bs]) hji ?_ (.cons (pk_rn haa) (.cons (.live (.cells (Rns.free (bytes_free bs)))) (.nil _)))) hg hd ?_ ?_
  · simp only [pickAll, hj, hi]
  · rintro y σ1 ⟨h1, rfl⟩
    cases h1
    refine ⟨_, [pkB j i v u a bs e, byB u bs], .cons (pk_rn haa) (.cons (.live (.cells (Rns.free (bytes_free bs)))) (.nil _)), .free (.tup (by intro x hx; simp at hx; rcases hx with rfl | rfl; exact .str; exact .int)), ?_⟩
    simpa [putAll] using hr
  · rintro y σ1 ⟨h1, _⟩
    cases h1

theorem free_bi {st : Bool} {b : Bool} {n : Int} {k : IntKind} : ∀ y ∈ [AV.bool b, AV.int k n], Free st y := by
  intro y hy; simp at hy; rcases hy with rfl | rfl; exact .bool; exact .int
theorem free_i {st : Bool} {n : Int} {k : IntKind} : ∀ y ∈ [AV.int k n], Free st y := by
  intro y hy; simp at hy; subst hy; exact .int
theorem free_s {st : Bool} {s : List UInt8} : ∀ y ∈ [AV.str s], Free st y := by
  intro y hy; simp at hy; subst hy; exact .str
theorem free_u {st : Bool} : Free st (.tup []) := .tup (by simp)
end

end Go.Proofs.YtjpmngjoohoddaaDoor
