/- A clock: what it holds, and what each of its methods does. -/
import Derived.Test.YtiiglipmekeikaaA3
import Derived.Test.YtiiglipmekeikaaHxMaps
set_option linter.unusedVariables false
set_option linter.unusedSimpArgs false
namespace Go.Proofs.Ytiiglipmekeikaa
open Go.Hx

/-- The alarms of a clock: by number, its tick. -/
abbrev Al := Int → Option Int
def put (S : Al) (k : Int) (x : Option Int) : Al := fun k' => if k' = k then x else S k'
theorem put_same (S : Al) (k : Int) (x : Option Int) : put S k x k = x := by simp [put]
theorem put_ne (S : Al) (k : Int) (x : Option Int) {k' : Int} (h : k' ≠ k) : put S k x k' = S k' := by simp [put, h]
def Cl (c m : Nat) (ob : Option Nat) (a : Nat → E) (n : Nat) (b : Nat) : Prop := b = m ∨ CB c ob a n b
structure ClkD (h : Hp) (c m : Nat) (rv : Value) (ob : Option Nat) (a : Nat → E) (n : Nat) (l : List (Int × Value)) (S : Al) : Prop where
  hg : Hg h c rv ob a n (.map (some m))
  ord : HeapOrd a n
  map : KMap encI (h m) l
  ent : ∀ i, i < n → lk l (a i).id = some (ptr (a i).b)
  all : ∀ k v, lk l k = some v → ∃ i, i < n ∧ (a i).id = k
  len : l.length = n
  to : ∀ i, i < n → S (a i).id = some (a i).at_
  from_ : ∀ k t, S k = some t → ∃ i, i < n ∧ (a i).id = k ∧ (a i).at_ = t
def Clk (h : Hp) (c : Nat) (F : Nat → Prop) (S : Al) (n : Nat) : Prop := ∃ m rv ob a l, ClkD h c m rv ob a n l S ∧ F = Cl c m ob a n
def Step (F F' : Nat → Prop) (h h' : Hp) : Prop := Fr F h h' ∧ ∀ b, F' b → F b ∨ h b = none
theorem Step.trans {F F' F'' : Nat → Prop} {h h' h'' : Hp} (s1 : Step F F' h h') (s2 : Step F' F'' h' h'') : Step F F'' h h'' := by
  refine ⟨fun b o e n => s2.1 b o (s1.1 b o e n) ?_, ?_⟩
  · intro f
    rcases s1.2 b f with f | f
    · exact n f
    · rw [f] at e; cases e
  · intro b f
    rcases s2.2 b f with f | f
    · exact s1.2 b f
    · by_cases hb : F b
      · exact .inl hb
      · refine .inr ?_
        cases hh : h b with
        | none => rfl
        | some o => rw [s1.1 b o hh hb] at f; cases f
theorem Step.refl (F : Nat → Prop) (h : Hp) : Step F F h h := ⟨Fr.refl _ _, fun _ f => .inl f⟩
theorem ClkD.ne_m {h : Hp} {c m n : Nat} {rv : Value} {ob : Option Nat} {a : Nat → E} {l : List (Int × Value)} {S : Al} (hc : ClkD h c m rv ob a n l S) : ¬ CB c ob a n m := by
  obtain ⟨es, ck, hm, _⟩ := hc.map
  rintro (e | e | ⟨k, hk, e⟩)
  · subst e; rw [hc.hg.clk] at hm; cases hm
  · subst e
    obtain ⟨cap, cs, _, hb, _⟩ := hc.hg.own
    rw [hb] at hm; cases hm
  · subst e; rw [hc.hg.ent k hk] at hm; cases hm
theorem Clk.alloc {h : Hp} {c n : Nat} {F : Nat → Prop} {S : Al} (hc : Clk h c F S n) {b : Nat} (hb : F b) : h b ≠ none := by
  obtain ⟨m, rv, ob, a, l, hd, rfl⟩ := hc
  rcases hb with e | e | e | ⟨k, hk, e⟩
  · obtain ⟨es, ck, hm, _⟩ := hd.map
    rw [e, hm]; simp
  · rw [e, hd.hg.clk]; simp
  · subst e
    obtain ⟨cap, cs, _, hb, _⟩ := hd.hg.own
    rw [hb]; simp
  · rw [e, hd.hg.ent k hk]; simp
/-- A clock stays one when its blocks stay. -/
theorem Clk.frame {h h' : Hp} {c n : Nat} {F : Nat → Prop} {S : Al} (hc : Clk h c F S n) (hf : ∀ b, F b → h' b = h b) : Clk h' c F S n := by
  obtain ⟨m, rv, ob, a, l, hd, rfl⟩ := hc
  refine ⟨m, rv, ob, a, l, ⟨⟨?_, ?_, ?_, hd.hg.inj⟩, hd.ord, ?_, hd.ent, hd.all, hd.len, hd.to, hd.from_⟩, rfl⟩
  · rw [hf c (.inr (.inl rfl))]; exact hd.hg.clk
  · exact hd.hg.own.frame fun b hb => hf b (.inr (.inr (.inl hb)))
  · intro i hi
    rw [hf _ (.inr (.inr (.inr ⟨i, hi, rfl⟩)))]; exact hd.hg.ent i hi
  · rw [hf m (.inl rfl)]; exact hd.map
theorem Clk.upd {h : Hp} {c n b : Nat} {F : Nat → Prop} {S : Al} (hc : Clk h c F S n) (hb : ¬ F b) (o : Obj) : Clk (upd h b o) c F S n :=
  hc.frame fun b' hb' => upd_ne _ _ _ (by rintro rfl; exact hb hb')

theorem new_ok (h : Hp) : CallK Try.prog 7 [] h fun v h' => ∃ c F, v = ptr c ∧ Clk h' c F (fun _ => none) 0 ∧ (∀ b o, h b = some o → h' b = some o) ∧ ∀ b, F b → h b = none := by
  refine CallK.of Try.func7 (by kernel_rfl) rfl Try.ntmps7 (rs := _) Try.results7 (by simp) ?_; simp only [envOf, Nat.zero_add, Nat.reduceAdd]
  (repeat refine HW.seqL ?_); refine HW.seqR rfl (fun K hK => ?_)
  simp -implicitDefEqProofs only [↓XA, XB, XC, TF, UF, exists_eq_left', exists_eq_left, exists_eq_right, implies_true, forall_const, ↓reduceIte, reduceCtorEq, Nat.reduceLeDiff, Nat.reduceLT, Nat.reduceAdd, Nat.reduceMul, Nat.reduceEqDiff, Nat.reduceBEq, Nat.reduceSub, Int.reduceToNat, Int.reduceEq, Int.reduceNe, Int.reduceLT, Int.reduceLE, Int.reduceGT, Int.reduceGE, Int.reduceBEq, Int.reduceBNe, Int.reduceAdd, Int.reduceSub, Int.reduceMul, Int.reduceNeg, evM, nilV, extrV, binV, binI, binS, unV, convV, mkIfV, loadV, rdN, storeV, fieldAddrV, idxAddrV, idxV, fieldV, partV, lenV, capV, sliceV, bndV, stO, wrL, unfr, oneC, Value.cells, ptrV, eqD, tasV, buildV, bslL, buildL, setL, zrepL, eqL, leafEq]
  ((refine hK _ _ ?_); clear hK K)
  (repeat refine HW.seqL ?_); refine HW.seqR rfl (fun K hK => ?_)
  simp -implicitDefEqProofs only [↓XA, XB, XC, TF, UF, exists_eq_left', exists_eq_left, exists_eq_right, implies_true, forall_const, ↓reduceIte, reduceCtorEq, Nat.reduceLeDiff, Nat.reduceLT, Nat.reduceAdd, Nat.reduceMul, Nat.reduceEqDiff, Nat.reduceBEq, Nat.reduceSub, Int.reduceToNat, Int.reduceEq, Int.reduceNe, Int.reduceLT, Int.reduceLE, Int.reduceGT, Int.reduceGE, Int.reduceBEq, Int.reduceBNe, Int.reduceAdd, Int.reduceSub, Int.reduceMul, Int.reduceNeg, evM, nilV, extrV, binV, binI, binS, unV, convV, mkIfV, loadV, rdN, storeV, fieldAddrV, idxAddrV, idxV, fieldV, partV, lenV, capV, sliceV, bndV, stO, wrL, unfr, oneC, Value.cells, ptrV, eqD, tasV, buildV, bslL, buildL, setL, zrepL, eqL, leafEq]
  intro m hm
  (try simp -implicitDefEqProofs only [↓XA, XB, XC, TF, UF, exists_eq_left', exists_eq_left, exists_eq_right, implies_true, forall_const, ↓reduceIte, reduceCtorEq, Nat.reduceLeDiff, Nat.reduceLT, Nat.reduceAdd, Nat.reduceMul, Nat.reduceEqDiff, Nat.reduceBEq, Nat.reduceSub, Int.reduceToNat, Int.reduceEq, Int.reduceNe, Int.reduceLT, Int.reduceLE, Int.reduceGT, Int.reduceGE, Int.reduceBEq, Int.reduceBNe, Int.reduceAdd, Int.reduceSub, Int.reduceMul, Int.reduceNeg, evM, nilV, extrV, binV, binI, binS, unV, convV, mkIfV, loadV, rdN, storeV, fieldAddrV, idxAddrV, idxV, fieldV, partV, lenV, capV, sliceV, bndV, stO, wrL, unfr, oneC, Value.cells, ptrV, eqD, tasV, buildV, bslL, buildL, setL, zrepL, eqL, leafEq])
  intro c hc
  (try simp -implicitDefEqProofs only [↓XA, XB, XC, TF, UF, exists_eq_left', exists_eq_left, exists_eq_right, implies_true, forall_const, ↓reduceIte, reduceCtorEq, Nat.reduceLeDiff, Nat.reduceLT, Nat.reduceAdd, Nat.reduceMul, Nat.reduceEqDiff, Nat.reduceBEq, Nat.reduceSub, Int.reduceToNat, Int.reduceEq, Int.reduceNe, Int.reduceLT, Int.reduceLE, Int.reduceGT, Int.reduceGE, Int.reduceBEq, Int.reduceBNe, Int.reduceAdd, Int.reduceSub, Int.reduceMul, Int.reduceNeg, evM, nilV, extrV, binV, binI, binS, unV, convV, mkIfV, loadV, rdN, storeV, fieldAddrV, idxAddrV, idxV, fieldV, partV, lenV, capV, sliceV, bndV, stO, wrL, unfr, oneC, Value.cells, ptrV, eqD, tasV, buildV, bslL, buildL, setL, zrepL, eqL, leafEq])
  ((refine hK _ _ ?_); clear hK K)
  ((refine HW.ret ?_); (repeat (first | (with_reducible refine Seq.ret ?_) | (with_reducible refine Blk.ret ?_))); (refine RetK.one rfl ?_))
  have hcm : c ≠ m := by rintro rfl; simp [upd_apply] at hc
  have hc' : h c = none := by simpa [upd_apply, hcm] using hc
  refine ⟨c, _, rfl, ⟨m, .slice none 0 0, none, fun _ => ⟨0, 0, 0⟩, [], ⟨⟨upd_same _ _ _, ⟨rfl, rfl, rfl⟩, fun i hi => absurd hi (by omega), fun i j hi => absurd hi (by omega)⟩, fun k h0 h1 => absurd h1 (by omega), ?_, fun i hi => absurd hi (by omega), fun k v hk => by simp [lk_nil] at hk, rfl, fun i hi => absurd hi (by omega), fun k t hk => by cases hk⟩, rfl⟩, ?_, ?_⟩
  · rw [upd_ne _ _ _ hcm.symm, upd_same]; exact KMap.new
  · intro b o hb
    rw [upd_ne _ _ _ (by rintro rfl; rw [hb] at hc'; cases hc'), upd_ne _ _ _ (by rintro rfl; rw [hb] at hm; cases hm)]
    exact hb
  · rintro b (rfl | rfl | e | ⟨k, hk, _⟩)
    · exact hm
    · exact hc'
    · cases e
    · omega

theorem ClkD.find {h : Hp} {c m n : Nat} {rv : Value} {ob : Option Nat} {a : Nat → E} {l : List (Int × Value)} {S : Al} (hc : ClkD h c m rv ob a n l S) (k : Int) :
    (S k = none ∧ lk l k = none) ∨ ∃ i, i < n ∧ (a i).id = k ∧ S k = some (a i).at_ ∧ lk l k = some (ptr (a i).b) := by
  cases hs : lk l k with
  | none =>
    left
    refine ⟨?_, rfl⟩
    cases ht : S k with
    | none => rfl
    | some t =>
      obtain ⟨i, hi, e1, e2⟩ := hc.from_ k t ht
      have := hc.ent i hi
      rw [e1, hs] at this; cases this
  | some v =>
    right
    obtain ⟨i, hi, e1⟩ := hc.all k v hs
    refine ⟨i, hi, e1, ?_, ?_⟩
    · rw [← e1]; exact hc.to i hi
    · rw [← hs, ← e1]; exact hc.ent i hi
theorem ClkD.ids {h : Hp} {c m n : Nat} {rv : Value} {ob : Option Nat} {a : Nat → E} {l : List (Int × Value)} {S : Al} (hc : ClkD h c m rv ob a n l S) {i j : Nat} (hi : i < n) (hj : j < n) (e : (a i).id = (a j).id) : i = j := by
  have h1 := hc.ent i hi
  have h2 := hc.ent j hj
  rw [e, h2] at h1
  simp only [ptr, Option.some.injEq, Value.pointer.injEq, Addr.mk.injEq, and_true] at h1
  exact (hc.hg.inj j i hj hi h1).symm
theorem ClkD.get {h : Hp} {c m n : Nat} {rv : Value} {ob : Option Nat} {a : Nat → E} {l : List (Int × Value)} {S : Al} (hc : ClkD h c m rv ob a n l S) (k : Int) (ok : Bool) :
    lookupV Try.prog 50 (.map (some m)) (.int .i64 k) ok h = some (hitO (.pointer none) ok (lk l k)) :=
  hc.map.lookup lawI mapK_50 zeroK_55 k ok

theorem at_ok {h : Hp} {c n : Nat} {F : Nat → Prop} {S : Al} (hc : Clk h c F S n) (k : Int) :
    CallK Try.prog 17 [ptr c, .int .i64 k] h fun v h' => v = .tuple #[.int .i64 ((S k).getD 0), .bool (S k).isSome] ∧ h' = h := by
  obtain ⟨m, rv, ob, a, l, hd, rfl⟩ := hc
  have hg := hd.get k false
  have hclk := hd.hg.clk
  rcases hd.find k with ⟨e1, e2⟩ | ⟨i, hi, e1, e2, e3⟩
  · rw [e2] at hg
    simp only [hitO] at hg
    refine CallK.of Try.func17 (by kernel_rfl) rfl Try.ntmps17 (rs := _) Try.results17 (by simp) ?_; simp only [envOf, Nat.zero_add, Nat.reduceAdd]
    (repeat refine HW.seqL ?_); refine HW.seqR rfl (fun K hK => ?_)
    simp -implicitDefEqProofs only [↓XA, XB, XC, TF, UF, exists_eq_left', exists_eq_left, exists_eq_right, implies_true, forall_const, ↓reduceIte, reduceCtorEq, Nat.reduceLeDiff, Nat.reduceLT, Nat.reduceAdd, Nat.reduceMul, Nat.reduceEqDiff, Nat.reduceBEq, Nat.reduceSub, Int.reduceToNat, Int.reduceEq, Int.reduceNe, Int.reduceLT, Int.reduceLE, Int.reduceGT, Int.reduceGE, Int.reduceBEq, Int.reduceBNe, Int.reduceAdd, Int.reduceSub, Int.reduceMul, Int.reduceNeg, evM, nilV, extrV, binV, binI, binS, unV, convV, mkIfV, loadV, rdN, storeV, fieldAddrV, idxAddrV, idxV, fieldV, partV, lenV, capV, sliceV, bndV, stO, wrL, unfr, oneC, Value.cells, ptrV, eqD, tasV, buildV, bslL, buildL, setL, zrepL, eqL, leafEq, ptr]
    ((refine hK _ _ ?_); clear hK K)
    (repeat refine HW.seqL ?_); refine HW.seqR rfl (fun K hK => ?_)
    simp -implicitDefEqProofs only [↓XA, XB, XC, TF, UF, exists_eq_left', exists_eq_left, exists_eq_right, implies_true, forall_const, ↓reduceIte, reduceCtorEq, Nat.reduceLeDiff, Nat.reduceLT, Nat.reduceAdd, Nat.reduceMul, Nat.reduceEqDiff, Nat.reduceBEq, Nat.reduceSub, Int.reduceToNat, Int.reduceEq, Int.reduceNe, Int.reduceLT, Int.reduceLE, Int.reduceGT, Int.reduceGE, Int.reduceBEq, Int.reduceBNe, Int.reduceAdd, Int.reduceSub, Int.reduceMul, Int.reduceNeg, evM, nilV, extrV, binV, binI, binS, unV, convV, mkIfV, loadV, rdN, storeV, fieldAddrV, idxAddrV, idxV, fieldV, partV, lenV, capV, sliceV, bndV, stO, wrL, unfr, oneC, Value.cells, ptrV, eqD, tasV, buildV, bslL, buildL, setL, zrepL, eqL, leafEq, ptr, hclk, hg]
    ((refine hK _ _ ?_); clear hK K)
    (repeat refine HW.seqL ?_); refine HW.seqR rfl (fun K hK => ?_)
    simp -implicitDefEqProofs only [↓XA, XB, XC, TF, UF, exists_eq_left', exists_eq_left, exists_eq_right, implies_true, forall_const, ↓reduceIte, reduceCtorEq, Nat.reduceLeDiff, Nat.reduceLT, Nat.reduceAdd, Nat.reduceMul, Nat.reduceEqDiff, Nat.reduceBEq, Nat.reduceSub, Int.reduceToNat, Int.reduceEq, Int.reduceNe, Int.reduceLT, Int.reduceLE, Int.reduceGT, Int.reduceGE, Int.reduceBEq, Int.reduceBNe, Int.reduceAdd, Int.reduceSub, Int.reduceMul, Int.reduceNeg, evM, nilV, extrV, binV, binI, binS, unV, convV, mkIfV, loadV, rdN, storeV, fieldAddrV, idxAddrV, idxV, fieldV, partV, lenV, capV, sliceV, bndV, stO, wrL, unfr, oneC, Value.cells, ptrV, eqD, tasV, buildV, bslL, buildL, setL, zrepL, eqL, leafEq]
    ((refine hK _ _ ?_); clear hK K)
    (repeat refine HW.seqL ?_); first | refine HW.ite rfl (fun hb => ?_) (fun hb => ?_) | refine HW.iteS rfl (fun hb => ?_) (fun hb => ?_)
    · (repeat refine HW.seqL ?_); refine HW.seqR rfl (fun K hK => ?_)
      simp -implicitDefEqProofs only [↓XA, XB, XC, TF, UF, exists_eq_left', exists_eq_left, exists_eq_right, implies_true, forall_const, ↓reduceIte, reduceCtorEq, Nat.reduceLeDiff, Nat.reduceLT, Nat.reduceAdd, Nat.reduceMul, Nat.reduceEqDiff, Nat.reduceBEq, Nat.reduceSub, Int.reduceToNat, Int.reduceEq, Int.reduceNe, Int.reduceLT, Int.reduceLE, Int.reduceGT, Int.reduceGE, Int.reduceBEq, Int.reduceBNe, Int.reduceAdd, Int.reduceSub, Int.reduceMul, Int.reduceNeg, evM, nilV, extrV, binV, binI, binS, unV, convV, mkIfV, loadV, rdN, storeV, fieldAddrV, idxAddrV, idxV, fieldV, partV, lenV, capV, sliceV, bndV, stO, wrL, unfr, oneC, Value.cells, ptrV, eqD, tasV, buildV, bslL, buildL, setL, zrepL, eqL, leafEq]
      ((refine hK _ _ ?_); clear hK K)
      ((refine HW.ret ?_); (repeat (first | (with_reducible refine Seq.ret ?_) | (with_reducible refine Blk.ret ?_))); (refine RetK.two rfl rfl ?_))
      rw [e1]; exact ⟨rfl, rfl⟩
    · exact absurd hb (by decide)
  · rw [e3] at hg
    simp only [hitO] at hg
    have he := hd.hg.ent i hi
    simp only [entO, ptr] at he hg
    refine CallK.of Try.func17 (by kernel_rfl) rfl Try.ntmps17 (rs := _) Try.results17 (by simp) ?_; simp only [envOf, Nat.zero_add, Nat.reduceAdd]
    (repeat refine HW.seqL ?_); refine HW.seqR rfl (fun K hK => ?_)
    simp -implicitDefEqProofs only [↓XA, XB, XC, TF, UF, exists_eq_left', exists_eq_left, exists_eq_right, implies_true, forall_const, ↓reduceIte, reduceCtorEq, Nat.reduceLeDiff, Nat.reduceLT, Nat.reduceAdd, Nat.reduceMul, Nat.reduceEqDiff, Nat.reduceBEq, Nat.reduceSub, Int.reduceToNat, Int.reduceEq, Int.reduceNe, Int.reduceLT, Int.reduceLE, Int.reduceGT, Int.reduceGE, Int.reduceBEq, Int.reduceBNe, Int.reduceAdd, Int.reduceSub, Int.reduceMul, Int.reduceNeg, evM, nilV, extrV, binV, binI, binS, unV, convV, mkIfV, loadV, rdN, storeV, fieldAddrV, idxAddrV, idxV, fieldV, partV, lenV, capV, sliceV, bndV, stO, wrL, unfr, oneC, Value.cells, ptrV, eqD, tasV, buildV, bslL, buildL, setL, zrepL, eqL, leafEq, ptr]
    ((refine hK _ _ ?_); clear hK K)
    (repeat refine HW.seqL ?_); refine HW.seqR rfl (fun K hK => ?_)
    simp -implicitDefEqProofs only [↓XA, XB, XC, TF, UF, exists_eq_left', exists_eq_left, exists_eq_right, implies_true, forall_const, ↓reduceIte, reduceCtorEq, Nat.reduceLeDiff, Nat.reduceLT, Nat.reduceAdd, Nat.reduceMul, Nat.reduceEqDiff, Nat.reduceBEq, Nat.reduceSub, Int.reduceToNat, Int.reduceEq, Int.reduceNe, Int.reduceLT, Int.reduceLE, Int.reduceGT, Int.reduceGE, Int.reduceBEq, Int.reduceBNe, Int.reduceAdd, Int.reduceSub, Int.reduceMul, Int.reduceNeg, evM, nilV, extrV, binV, binI, binS, unV, convV, mkIfV, loadV, rdN, storeV, fieldAddrV, idxAddrV, idxV, fieldV, partV, lenV, capV, sliceV, bndV, stO, wrL, unfr, oneC, Value.cells, ptrV, eqD, tasV, buildV, bslL, buildL, setL, zrepL, eqL, leafEq, ptr, hclk, hg]
    ((refine hK _ _ ?_); clear hK K)
    (repeat refine HW.seqL ?_); refine HW.seqR rfl (fun K hK => ?_)
    simp -implicitDefEqProofs only [↓XA, XB, XC, TF, UF, exists_eq_left', exists_eq_left, exists_eq_right, implies_true, forall_const, ↓reduceIte, reduceCtorEq, Nat.reduceLeDiff, Nat.reduceLT, Nat.reduceAdd, Nat.reduceMul, Nat.reduceEqDiff, Nat.reduceBEq, Nat.reduceSub, Int.reduceToNat, Int.reduceEq, Int.reduceNe, Int.reduceLT, Int.reduceLE, Int.reduceGT, Int.reduceGE, Int.reduceBEq, Int.reduceBNe, Int.reduceAdd, Int.reduceSub, Int.reduceMul, Int.reduceNeg, evM, nilV, extrV, binV, binI, binS, unV, convV, mkIfV, loadV, rdN, storeV, fieldAddrV, idxAddrV, idxV, fieldV, partV, lenV, capV, sliceV, bndV, stO, wrL, unfr, oneC, Value.cells, ptrV, eqD, tasV, buildV, bslL, buildL, setL, zrepL, eqL, leafEq]
    ((refine hK _ _ ?_); clear hK K)
    (repeat refine HW.seqL ?_); first | refine HW.ite rfl (fun hb => ?_) (fun hb => ?_) | refine HW.iteS rfl (fun hb => ?_) (fun hb => ?_)
    · cases hb
    · refine HW.skip ?_
      (repeat (first | (with_reducible refine Seq.ret ?_) | (with_reducible refine Blk.ret ?_) | (with_reducible refine Blk.here ?_) | (with_reducible refine Seq.exit ?_) | (with_reducible refine Blk.out (by decide) ?_) | (with_reducible refine Blk.normal ?_) | (with_reducible refine Seq.normal ?_)))
      (repeat refine HW.seqL ?_); refine HW.seqR rfl (fun K hK => ?_)
      simp -implicitDefEqProofs only [↓XA, XB, XC, TF, UF, exists_eq_left', exists_eq_left, exists_eq_right, implies_true, forall_const, ↓reduceIte, reduceCtorEq, Nat.reduceLeDiff, Nat.reduceLT, Nat.reduceAdd, Nat.reduceMul, Nat.reduceEqDiff, Nat.reduceBEq, Nat.reduceSub, Int.reduceToNat, Int.reduceEq, Int.reduceNe, Int.reduceLT, Int.reduceLE, Int.reduceGT, Int.reduceGE, Int.reduceBEq, Int.reduceBNe, Int.reduceAdd, Int.reduceSub, Int.reduceMul, Int.reduceNeg, evM, nilV, extrV, binV, binI, binS, unV, convV, mkIfV, loadV, rdN, storeV, fieldAddrV, idxAddrV, idxV, fieldV, partV, lenV, capV, sliceV, bndV, stO, wrL, unfr, oneC, Value.cells, ptrV, eqD, tasV, buildV, bslL, buildL, setL, zrepL, eqL, leafEq, he]
      ((refine hK _ _ ?_); clear hK K)
      ((refine HW.ret ?_); (repeat (first | (with_reducible refine Seq.ret ?_) | (with_reducible refine Blk.ret ?_))); (refine RetK.two rfl rfl ?_))
      rw [e2]; exact ⟨rfl, rfl⟩

theorem len_ok {h : Hp} {c n : Nat} {F : Nat → Prop} {S : Al} (hc : Clk h c F S n) :
    CallK Try.prog 11 [ptr c] h fun v h' => v = .int .i64 n ∧ h' = h := by
  obtain ⟨m, rv, ob, a, l, hd, rfl⟩ := hc
  have hclk := hd.hg.clk
  obtain ⟨es, hes, hel⟩ := hd.map.ents
  refine CallK.of Try.func11 (by kernel_rfl) rfl Try.ntmps11 (rs := _) Try.results11 (by simp) ?_; simp only [envOf, Nat.zero_add, Nat.reduceAdd]
  (repeat refine HW.seqL ?_); refine HW.seqR rfl (fun K hK => ?_)
  simp -implicitDefEqProofs only [↓XA, XB, XC, TF, UF, exists_eq_left', exists_eq_left, exists_eq_right, implies_true, forall_const, ↓reduceIte, reduceCtorEq, Nat.reduceLeDiff, Nat.reduceLT, Nat.reduceAdd, Nat.reduceMul, Nat.reduceEqDiff, Nat.reduceBEq, Nat.reduceSub, Int.reduceToNat, Int.reduceEq, Int.reduceNe, Int.reduceLT, Int.reduceLE, Int.reduceGT, Int.reduceGE, Int.reduceBEq, Int.reduceBNe, Int.reduceAdd, Int.reduceSub, Int.reduceMul, Int.reduceNeg, evM, nilV, extrV, binV, binI, binS, unV, convV, mkIfV, loadV, rdN, storeV, fieldAddrV, idxAddrV, idxV, fieldV, partV, lenV, capV, sliceV, bndV, stO, wrL, unfr, oneC, Value.cells, ptrV, eqD, tasV, buildV, bslL, buildL, setL, zrepL, eqL, leafEq]
  ((refine hK _ _ ?_); clear hK K)
  (repeat refine HW.seqL ?_); refine HW.seqR rfl (fun K hK => ?_)
  simp -implicitDefEqProofs only [↓XA, XB, XC, TF, UF, exists_eq_left', exists_eq_left, exists_eq_right, implies_true, forall_const, ↓reduceIte, reduceCtorEq, Nat.reduceLeDiff, Nat.reduceLT, Nat.reduceAdd, Nat.reduceMul, Nat.reduceEqDiff, Nat.reduceBEq, Nat.reduceSub, Int.reduceToNat, Int.reduceEq, Int.reduceNe, Int.reduceLT, Int.reduceLE, Int.reduceGT, Int.reduceGE, Int.reduceBEq, Int.reduceBNe, Int.reduceAdd, Int.reduceSub, Int.reduceMul, Int.reduceNeg, evM, nilV, extrV, binV, binI, binS, unV, convV, mkIfV, loadV, rdN, storeV, fieldAddrV, idxAddrV, idxV, fieldV, partV, lenV, capV, sliceV, bndV, stO, wrL, unfr, oneC, Value.cells, ptrV, eqD, tasV, buildV, bslL, buildL, setL, zrepL, eqL, leafEq, ptr, hclk, hes]
  ((refine hK _ _ ?_); clear hK K)
  ((refine HW.ret ?_); (repeat (first | (with_reducible refine Seq.ret ?_) | (with_reducible refine Blk.ret ?_))); (refine RetK.one rfl ?_))
  exact ⟨by rw [hel, hd.len], rfl⟩

/-- The one that rings first. -/
def First (S : Al) (k t : Int) : Prop := S k = some t ∧ ∀ k' t', S k' = some t' → t < t' ∨ t = t' ∧ k ≤ k'
theorem ClkD.first {h : Hp} {c m n : Nat} {rv : Value} {ob : Option Nat} {a : Nat → E} {l : List (Int × Value)} {S : Al} (hc : ClkD h c m rv ob a n l S) (hn : 0 < n) : First S (a 0).id (a 0).at_ := by
  refine ⟨hc.to 0 hn, fun k' t' hs => ?_⟩
  obtain ⟨i, hi, e1, e2⟩ := hc.from_ k' t' hs
  have := heap_min hc.ord i hi
  rw [ltE_no, e1, e2] at this
  omega
theorem ClkD.row {h : Hp} {c m n : Nat} {rv : Value} {ob : Option Nat} {a : Nat → E} {l : List (Int × Value)} {S : Al} (hc : ClkD h c m rv ob a n l S) (hn : 0 < n) : ∃ rb cap cs, ob = some rb ∧ rv = row rb n cap ∧ h rb = some (.cells cs 55 (0, 0)) ∧ cs[0]? = some (ptr (a 0).b) ∧ Hd h c rb cap a n (.map (some m)) := by
  cases hob : ob with
  | none =>
    have := hc.hg.own
    rw [hob] at this
    obtain ⟨_, e, _⟩ := this
    omega
  | some rb =>
    subst hob
    obtain ⟨cap, e, hd⟩ := hc.hg.to
    obtain ⟨cs, h1, h2, h3⟩ := hd.row.blk
    exact ⟨rb, cap, cs, rfl, e, h1, h3 0 hn, hd⟩

theorem next_ok {h : Hp} {c n : Nat} {F : Nat → Prop} {S : Al} (hc : Clk h c F S n) :
    CallK Try.prog 12 [ptr c] h fun v h' => h' = h ∧ ((n = 0 ∧ (∀ k, S k = none) ∧ v = .tuple #[.int .i64 0, .int .i64 0, .bool false]) ∨ ∃ k t, First S k t ∧ 0 < n ∧ v = .tuple #[.int .i64 k, .int .i64 t, .bool true]) := by
  obtain ⟨m, rv, ob, a, l, hd, rfl⟩ := hc
  by_cases hn : n = 0
  · subst hn
    obtain ⟨base, cap, rfl⟩ := Own.val hd.hg.own
    have hclk := hd.hg.clk
    have hS : ∀ k, S k = none := by
      intro k
      cases ht : S k with
      | none => rfl
      | some t => obtain ⟨i, hi, _⟩ := hd.from_ k t ht; omega
    refine CallK.of Try.func12 (by kernel_rfl) rfl Try.ntmps12 (rs := _) Try.results12 (by simp) ?_; simp only [envOf, Nat.zero_add, Nat.reduceAdd]
    (repeat refine HW.seqL ?_); refine HW.seqR rfl (fun K hK => ?_)
    simp -implicitDefEqProofs only [↓XA, XB, XC, TF, UF, exists_eq_left', exists_eq_left, exists_eq_right, implies_true, forall_const, ↓reduceIte, reduceCtorEq, Nat.reduceLeDiff, Nat.reduceLT, Nat.reduceAdd, Nat.reduceMul, Nat.reduceEqDiff, Nat.reduceBEq, Nat.reduceSub, Int.reduceToNat, Int.reduceEq, Int.reduceNe, Int.reduceLT, Int.reduceLE, Int.reduceGT, Int.reduceGE, Int.reduceBEq, Int.reduceBNe, Int.reduceAdd, Int.reduceSub, Int.reduceMul, Int.reduceNeg, evM, nilV, extrV, binV, binI, binS, unV, convV, mkIfV, loadV, rdN, storeV, fieldAddrV, idxAddrV, idxV, fieldV, partV, lenV, capV, sliceV, bndV, stO, wrL, unfr, oneC, Value.cells, ptrV, eqD, tasV, buildV, bslL, buildL, setL, zrepL, eqL, leafEq]
    ((refine hK _ _ ?_); clear hK K)
    (repeat refine HW.seqL ?_); refine HW.seqR rfl (fun K hK => ?_)
    simp -implicitDefEqProofs only [↓XA, XB, XC, TF, UF, exists_eq_left', exists_eq_left, exists_eq_right, implies_true, forall_const, ↓reduceIte, reduceCtorEq, Nat.reduceLeDiff, Nat.reduceLT, Nat.reduceAdd, Nat.reduceMul, Nat.reduceEqDiff, Nat.reduceBEq, Nat.reduceSub, Int.reduceToNat, Int.reduceEq, Int.reduceNe, Int.reduceLT, Int.reduceLE, Int.reduceGT, Int.reduceGE, Int.reduceBEq, Int.reduceBNe, Int.reduceAdd, Int.reduceSub, Int.reduceMul, Int.reduceNeg, evM, nilV, extrV, binV, binI, binS, unV, convV, mkIfV, loadV, rdN, storeV, fieldAddrV, idxAddrV, idxV, fieldV, partV, lenV, capV, sliceV, bndV, stO, wrL, unfr, oneC, Value.cells, ptrV, eqD, tasV, buildV, bslL, buildL, setL, zrepL, eqL, leafEq, ptr, hclk, Int.natCast_zero, beq_self_eq_true]
    ((refine hK _ _ ?_); clear hK K)
    (repeat refine HW.seqL ?_); first | refine HW.ite rfl (fun hb => ?_) (fun hb => ?_) | refine HW.iteS rfl (fun hb => ?_) (fun hb => ?_)
    · (repeat refine HW.seqL ?_); refine HW.seqR rfl (fun K hK => ?_)
      simp -implicitDefEqProofs only [↓XA, XB, XC, TF, UF, exists_eq_left', exists_eq_left, exists_eq_right, implies_true, forall_const, ↓reduceIte, reduceCtorEq, Nat.reduceLeDiff, Nat.reduceLT, Nat.reduceAdd, Nat.reduceMul, Nat.reduceEqDiff, Nat.reduceBEq, Nat.reduceSub, Int.reduceToNat, Int.reduceEq, Int.reduceNe, Int.reduceLT, Int.reduceLE, Int.reduceGT, Int.reduceGE, Int.reduceBEq, Int.reduceBNe, Int.reduceAdd, Int.reduceSub, Int.reduceMul, Int.reduceNeg, evM, nilV, extrV, binV, binI, binS, unV, convV, mkIfV, loadV, rdN, storeV, fieldAddrV, idxAddrV, idxV, fieldV, partV, lenV, capV, sliceV, bndV, stO, wrL, unfr, oneC, Value.cells, ptrV, eqD, tasV, buildV, bslL, buildL, setL, zrepL, eqL, leafEq]
      ((refine hK _ _ ?_); clear hK K)
      ((refine HW.ret ?_); (repeat (first | (with_reducible refine Seq.ret ?_) | (with_reducible refine Blk.ret ?_))); (refine RetK.three rfl rfl rfl ?_))
      exact ⟨rfl, .inl ⟨by trivial, hS, rfl⟩⟩
    · cases hb
  · obtain ⟨rb, cap, cs, rfl, rfl, hB, h0, _⟩ := hd.row (by omega)
    have hclk := hd.hg.clk
    have he := hd.hg.ent 0 (by omega)
    simp only [entO, ptr, Go.Proofs.Ytiiglipmekeikaa.row] at he h0 hclk
    have hn0 : ((n : Int) == 0) = false := by simp; omega
    have hn1 : (0 : Int) < n := by omega
    refine CallK.of Try.func12 (by kernel_rfl) rfl Try.ntmps12 (rs := _) Try.results12 (by simp) ?_; simp only [envOf, Nat.zero_add, Nat.reduceAdd]
    (repeat refine HW.seqL ?_); refine HW.seqR rfl (fun K hK => ?_)
    simp -implicitDefEqProofs only [↓XA, XB, XC, TF, UF, exists_eq_left', exists_eq_left, exists_eq_right, implies_true, forall_const, ↓reduceIte, reduceCtorEq, Nat.reduceLeDiff, Nat.reduceLT, Nat.reduceAdd, Nat.reduceMul, Nat.reduceEqDiff, Nat.reduceBEq, Nat.reduceSub, Int.reduceToNat, Int.reduceEq, Int.reduceNe, Int.reduceLT, Int.reduceLE, Int.reduceGT, Int.reduceGE, Int.reduceBEq, Int.reduceBNe, Int.reduceAdd, Int.reduceSub, Int.reduceMul, Int.reduceNeg, evM, nilV, extrV, binV, binI, binS, unV, convV, mkIfV, loadV, rdN, storeV, fieldAddrV, idxAddrV, idxV, fieldV, partV, lenV, capV, sliceV, bndV, stO, wrL, unfr, oneC, Value.cells, ptrV, eqD, tasV, buildV, bslL, buildL, setL, zrepL, eqL, leafEq]
    ((refine hK _ _ ?_); clear hK K)
    (repeat refine HW.seqL ?_); refine HW.seqR rfl (fun K hK => ?_)
    simp -implicitDefEqProofs only [↓XA, XB, XC, TF, UF, exists_eq_left', exists_eq_left, exists_eq_right, implies_true, forall_const, ↓reduceIte, reduceCtorEq, Nat.reduceLeDiff, Nat.reduceLT, Nat.reduceAdd, Nat.reduceMul, Nat.reduceEqDiff, Nat.reduceBEq, Nat.reduceSub, Int.reduceToNat, Int.reduceEq, Int.reduceNe, Int.reduceLT, Int.reduceLE, Int.reduceGT, Int.reduceGE, Int.reduceBEq, Int.reduceBNe, Int.reduceAdd, Int.reduceSub, Int.reduceMul, Int.reduceNeg, evM, nilV, extrV, binV, binI, binS, unV, convV, mkIfV, loadV, rdN, storeV, fieldAddrV, idxAddrV, idxV, fieldV, partV, lenV, capV, sliceV, bndV, stO, wrL, unfr, oneC, Value.cells, ptrV, eqD, tasV, buildV, bslL, buildL, setL, zrepL, eqL, leafEq, ptr, hclk, hn0]
    ((refine hK _ _ ?_); clear hK K)
    (repeat refine HW.seqL ?_); first | refine HW.ite rfl (fun hb => ?_) (fun hb => ?_) | refine HW.iteS rfl (fun hb => ?_) (fun hb => ?_)
    · cases hb
    · refine HW.skip ?_
      (repeat (first | (with_reducible refine Seq.ret ?_) | (with_reducible refine Blk.ret ?_) | (with_reducible refine Blk.here ?_) | (with_reducible refine Seq.exit ?_) | (with_reducible refine Blk.out (by decide) ?_) | (with_reducible refine Blk.normal ?_) | (with_reducible refine Seq.normal ?_)))
      (repeat refine HW.seqL ?_); refine HW.seqD (by kernel_rfl) (by rfl) [(0, [], []), (1, [], []), (2, [], []), (3, [], []), (4, [], []), (5, [], []), (6, [], []), (7, [], []), (8, [], []), (9, [], []), (10, [], []), (11, [], []), (12, [], []), (13, [], []), (14, [], []), (15, [], []), (16, [], []), (17, [], []), (18, [9, 10, 11, 12, 13, 14, 15, 16, 17], [8, 0, 1, 2, 3, 4, 5, 6, 7]), (19, [], [17, 18, 0, 1, 2, 3, 4, 5, 6, 7, 8, 9, 10, 11, 12, 13, 14, 15, 16]), (20, [], [19, 0, 1, 2, 3, 4, 5, 6, 7, 8, 9, 10, 11, 12, 13, 14, 15, 16, 17, 18])] (by kernel_rfl) (by rfl) (fun K hK => ?_)
      simp -implicitDefEqProofs only [↓XA, XB, XC, TF, UF, exists_eq_left', exists_eq_left, exists_eq_right, implies_true, forall_const, ↓reduceIte, reduceCtorEq, Nat.reduceLeDiff, Nat.reduceLT, Nat.reduceAdd, Nat.reduceMul, Nat.reduceEqDiff, Nat.reduceBEq, Nat.reduceSub, Int.reduceToNat, Int.reduceEq, Int.reduceNe, Int.reduceLT, Int.reduceLE, Int.reduceGT, Int.reduceGE, Int.reduceBEq, Int.reduceBNe, Int.reduceAdd, Int.reduceSub, Int.reduceMul, Int.reduceNeg, evM, nilV, extrV, binV, binI, binS, unV, convV, mkIfV, loadV, rdN, storeV, fieldAddrV, idxAddrV, idxV, fieldV, partV, lenV, capV, sliceV, bndV, stO, wrL, unfr, oneC, Value.cells, ptrV, eqD, tasV, buildV, bslL, buildL, setL, zrepL, eqL, leafEq, hclk, hB, h0, he, hn1]
      ((refine hK _ _ ?_); clear hK K)
      ((refine HW.ret ?_); (repeat (first | (with_reducible refine Seq.ret ?_) | (with_reducible refine Blk.ret ?_))); (refine RetK.three rfl rfl rfl ?_))
      exact ⟨rfl, .inr ⟨_, _, hd.first (by omega), by omega, rfl⟩⟩

theorem set_bad {h : Hp} (cv : Value) (k t : Int) (ht : t < 0 ∨ 1099511627776 < t) :
    CallK Try.prog 8 [cv, .int .i64 k, .int .i64 t] h fun v h' => v = .int .i64 4 ∧ h' = h := by
  have hc : (if decide (t < 0) = true then some (Value.bool true) else some (Value.bool (decide (1099511627776 < t)))) = some (Value.bool true) := by
    rcases ht with h | h
    · simp [h]
    · by_cases h0 : t < 0 <;> simp [h0, h]
  refine CallK.of Try.func8 (by kernel_rfl) rfl Try.ntmps8 (rs := _) Try.results8 (by simp) ?_; simp only [envOf, Nat.zero_add, Nat.reduceAdd]
  (repeat refine HW.seqL ?_); refine HW.seqR rfl (fun K hK => ?_)
  simp -implicitDefEqProofs only [↓XA, XB, XC, TF, UF, exists_eq_left', exists_eq_left, exists_eq_right, implies_true, forall_const, ↓reduceIte, reduceCtorEq, Nat.reduceLeDiff, Nat.reduceLT, Nat.reduceAdd, Nat.reduceMul, Nat.reduceEqDiff, Nat.reduceBEq, Nat.reduceSub, Int.reduceToNat, Int.reduceEq, Int.reduceNe, Int.reduceLT, Int.reduceLE, Int.reduceGT, Int.reduceGE, Int.reduceBEq, Int.reduceBNe, Int.reduceAdd, Int.reduceSub, Int.reduceMul, Int.reduceNeg, evM, nilV, extrV, binV, binI, binS, unV, convV, mkIfV, loadV, rdN, storeV, fieldAddrV, idxAddrV, idxV, fieldV, partV, lenV, capV, sliceV, bndV, stO, wrL, unfr, oneC, Value.cells, ptrV, eqD, tasV, buildV, bslL, buildL, setL, zrepL, eqL, leafEq]
  ((refine hK _ _ ?_); clear hK K)
  by_cases h0 : t < 0
  · (repeat refine HW.seqL ?_); refine HW.seqR rfl (fun K hK => ?_)
    simp -implicitDefEqProofs only [↓XA, XB, XC, TF, UF, exists_eq_left', exists_eq_left, exists_eq_right, implies_true, forall_const, ↓reduceIte, reduceCtorEq, Nat.reduceLeDiff, Nat.reduceLT, Nat.reduceAdd, Nat.reduceMul, Nat.reduceEqDiff, Nat.reduceBEq, Nat.reduceSub, Int.reduceToNat, Int.reduceEq, Int.reduceNe, Int.reduceLT, Int.reduceLE, Int.reduceGT, Int.reduceGE, Int.reduceBEq, Int.reduceBNe, Int.reduceAdd, Int.reduceSub, Int.reduceMul, Int.reduceNeg, evM, nilV, extrV, binV, binI, binS, unV, convV, mkIfV, loadV, rdN, storeV, fieldAddrV, idxAddrV, idxV, fieldV, partV, lenV, capV, sliceV, bndV, stO, wrL, unfr, oneC, Value.cells, ptrV, eqD, tasV, buildV, bslL, buildL, setL, zrepL, eqL, leafEq, h0]
    ((refine hK _ _ ?_); clear hK K)
    (repeat refine HW.seqL ?_); first | refine HW.ite rfl (fun hb => ?_) (fun hb => ?_) | refine HW.iteS rfl (fun hb => ?_) (fun hb => ?_)
    · (repeat refine HW.seqL ?_); refine HW.seqR rfl (fun K hK => ?_)
      simp -implicitDefEqProofs only [↓XA, XB, XC, TF, UF, exists_eq_left', exists_eq_left, exists_eq_right, implies_true, forall_const, ↓reduceIte, reduceCtorEq, Nat.reduceLeDiff, Nat.reduceLT, Nat.reduceAdd, Nat.reduceMul, Nat.reduceEqDiff, Nat.reduceBEq, Nat.reduceSub, Int.reduceToNat, Int.reduceEq, Int.reduceNe, Int.reduceLT, Int.reduceLE, Int.reduceGT, Int.reduceGE, Int.reduceBEq, Int.reduceBNe, Int.reduceAdd, Int.reduceSub, Int.reduceMul, Int.reduceNeg, evM, nilV, extrV, binV, binI, binS, unV, convV, mkIfV, loadV, rdN, storeV, fieldAddrV, idxAddrV, idxV, fieldV, partV, lenV, capV, sliceV, bndV, stO, wrL, unfr, oneC, Value.cells, ptrV, eqD, tasV, buildV, bslL, buildL, setL, zrepL, eqL, leafEq]
      ((refine hK _ _ ?_); clear hK K)
      ((refine HW.ret ?_); (repeat (first | (with_reducible refine Seq.ret ?_) | (with_reducible refine Blk.ret ?_))); (refine RetK.one rfl ?_))
      exact ⟨rfl, rfl⟩
    · cases hb
  · have h1 : 1099511627776 < t := by omega
    (repeat refine HW.seqL ?_); refine HW.seqR rfl (fun K hK => ?_)
    simp -implicitDefEqProofs only [↓XA, XB, XC, TF, UF, exists_eq_left', exists_eq_left, exists_eq_right, implies_true, forall_const, ↓reduceIte, reduceCtorEq, Nat.reduceLeDiff, Nat.reduceLT, Nat.reduceAdd, Nat.reduceMul, Nat.reduceEqDiff, Nat.reduceBEq, Nat.reduceSub, Int.reduceToNat, Int.reduceEq, Int.reduceNe, Int.reduceLT, Int.reduceLE, Int.reduceGT, Int.reduceGE, Int.reduceBEq, Int.reduceBNe, Int.reduceAdd, Int.reduceSub, Int.reduceMul, Int.reduceNeg, evM, nilV, extrV, binV, binI, binS, unV, convV, mkIfV, loadV, rdN, storeV, fieldAddrV, idxAddrV, idxV, fieldV, partV, lenV, capV, sliceV, bndV, stO, wrL, unfr, oneC, Value.cells, ptrV, eqD, tasV, buildV, bslL, buildL, setL, zrepL, eqL, leafEq, h0, h1, gt_iff_lt]
    ((refine hK _ _ ?_); clear hK K)
    (repeat refine HW.seqL ?_); first | refine HW.ite rfl (fun hb => ?_) (fun hb => ?_) | refine HW.iteS rfl (fun hb => ?_) (fun hb => ?_)
    · (repeat refine HW.seqL ?_); refine HW.seqR rfl (fun K hK => ?_)
      simp -implicitDefEqProofs only [↓XA, XB, XC, TF, UF, exists_eq_left', exists_eq_left, exists_eq_right, implies_true, forall_const, ↓reduceIte, reduceCtorEq, Nat.reduceLeDiff, Nat.reduceLT, Nat.reduceAdd, Nat.reduceMul, Nat.reduceEqDiff, Nat.reduceBEq, Nat.reduceSub, Int.reduceToNat, Int.reduceEq, Int.reduceNe, Int.reduceLT, Int.reduceLE, Int.reduceGT, Int.reduceGE, Int.reduceBEq, Int.reduceBNe, Int.reduceAdd, Int.reduceSub, Int.reduceMul, Int.reduceNeg, evM, nilV, extrV, binV, binI, binS, unV, convV, mkIfV, loadV, rdN, storeV, fieldAddrV, idxAddrV, idxV, fieldV, partV, lenV, capV, sliceV, bndV, stO, wrL, unfr, oneC, Value.cells, ptrV, eqD, tasV, buildV, bslL, buildL, setL, zrepL, eqL, leafEq]
      ((refine hK _ _ ?_); clear hK K)
      ((refine HW.ret ?_); (repeat (first | (with_reducible refine Seq.ret ?_) | (with_reducible refine Blk.ret ?_))); (refine RetK.one rfl ?_))
      exact ⟨rfl, rfl⟩
    · cases hb
end Go.Proofs.Ytiiglipmekeikaa
