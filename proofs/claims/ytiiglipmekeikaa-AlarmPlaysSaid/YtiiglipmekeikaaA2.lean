/- container/heap over the alarms' row: what going up, going down, Fix, Push and Remove come to. -/
import Derived.Test.YtiiglipmekeikaaA1
import Derived.Test.YtiiglipmekeikaaHxApp
set_option linter.unusedVariables false
set_option linter.unusedSimpArgs false
namespace Go.Proofs.Ytiiglipmekeikaa
open Go.Hx

abbrev row (rb n cap : Nat) : Value := .slice (some ⟨rb, 0, none⟩) n cap
/-- A clock's block, and its row. -/
structure Hd (h : Hp) (c rb cap : Nat) (a : Nat → E) (n : Nat) (mv : Value) : Prop where
  clk : h c = some (.cells [row rb n cap, mv].toArray 54 (0, 0))
  row : Row h rb cap a n
theorem Hd.ne_rb {h : Hp} {c rb cap : Nat} {a : Nat → E} {n : Nat} {mv : Value} (hd : Hd h c rb cap a n mv) : c ≠ rb := by
  intro e
  obtain ⟨cs, h1, _⟩ := hd.row.blk
  have := hd.clk
  rw [e, h1] at this
  simp at this
theorem Hd.ne_ent {h : Hp} {c rb cap : Nat} {a : Nat → E} {n : Nat} {mv : Value} (hd : Hd h c rb cap a n mv) {i : Nat} (hi : i < n) : c ≠ (a i).b := by
  intro e
  have h1 := hd.row.ent i hi
  have := hd.clk
  rw [e, h1] at this
  simp [entO] at this
abbrev itf (c : Nat) : Value := .iface 59 (.pointer (some ⟨c, 0, none⟩))
/-- The row's own blocks. -/
def RB (a : Nat → E) (n rb : Nat) (b : Nat) : Prop := b = rb ∨ ∃ k, k < n ∧ b = (a k).b
theorem RB.same {a a' : Nat → E} {n rb : Nat} (hs : SameSet a a' n) {b : Nat} (h : RB a' n rb b) : RB a n rb b := by
  rcases h with h | ⟨k, hk, rfl⟩
  · exact .inl h
  · obtain ⟨i, hi, e⟩ := (hs (a' k)).1 ⟨k, hk, rfl⟩
    exact .inr ⟨i, hi, by rw [e]⟩
def Still (h h' : Hp) : Prop := ∀ b, h b = none → h' b = none
theorem mLess : methK Try.prog 59 "Less" = some (40, some 52) := by kernel_rfl
theorem mSwap : methK Try.prog 59 "Swap" = some (41, some 52) := by kernel_rfl
theorem mLen : methK Try.prog 59 "Len" = some (39, some 52) := by kernel_rfl
theorem Hd.load {h : Hp} {c rb cap : Nat} {a : Nat → E} {n : Nat} {mv : Value} (hd : Hd h c rb cap a n mv) : loadV Try.prog 52 (.pointer (some ⟨c, 0, none⟩)) h = some (.slice (some ⟨rb, 0, none⟩) n cap) := by
  have := hd.clk
  simp only [Go.Proofs.Ytiiglipmekeikaa.row] at this
  simp -implicitDefEqProofs only [↓XA, XB, XC, TF, UF, exists_eq_left', exists_eq_left, exists_eq_right, implies_true, forall_const, ↓reduceIte, reduceCtorEq, Nat.reduceLeDiff, Nat.reduceLT, Nat.reduceAdd, Nat.reduceMul, Nat.reduceEqDiff, Nat.reduceBEq, Nat.reduceSub, Int.reduceToNat, Int.reduceEq, Int.reduceNe, Int.reduceLT, Int.reduceLE, Int.reduceGT, Int.reduceGE, Int.reduceBEq, Int.reduceBNe, Int.reduceAdd, Int.reduceSub, Int.reduceMul, Int.reduceNeg, evM, nilV, extrV, binV, binI, binS, unV, convV, mkIfV, loadV, rdN, storeV, fieldAddrV, idxAddrV, idxV, fieldV, partV, lenV, capV, sliceV, bndV, stO, wrL, unfr, oneC, Value.cells, ptrV, eqD, tasV, buildV, bslL, buildL, setL, zrepL, eqL, leafEq, this]
theorem Hd.less {h : Hp} {c rb cap : Nat} {a : Nat → E} {n : Nat} {mv : Value} (hd : Hd h c rb cap a n mv) {i j : Nat} (hi : i < n) (hj : j < n) {K : Value → Hp → Prop} (hk : K (.bool (ltE (a i) (a j))) h) :
    InvK Try.prog (itf c) "Less" [.int .i64 i, .int .i64 j] h K :=
  InvK.ptr mLess hd.load ((less_ok hd.row i j hi hj).mono fun v h' ⟨e1, e2⟩ => by subst e1; subst e2; exact hk)
theorem Hd.len {h : Hp} {c rb cap : Nat} {a : Nat → E} {n : Nat} {mv : Value} (hd : Hd h c rb cap a n mv) {K : Value → Hp → Prop} (hk : K (.int .i64 n) h) :
    InvK Try.prog (itf c) "Len" [] h K :=
  InvK.ptr mLen hd.load ((rlen_ok _ n cap).mono fun v h' ⟨e1, e2⟩ => by subst e1; subst e2; exact hk)
theorem Hd.swap {h : Hp} {c rb cap : Nat} {a : Nat → E} {n : Nat} {mv : Value} (hd : Hd h c rb cap a n mv) {i j : Nat} (hi : i < n) (hj : j < n) (hne : i ≠ j) {K : Value → Hp → Prop}
    (hk : ∀ v h', Hd h' c rb cap (swp a i j) n mv → Fr (RB a n rb) h h' → Still h h' → K v h') : InvK Try.prog (itf c) "Swap" [.int .i64 i, .int .i64 j] h K := by
  refine InvK.ptr mSwap hd.load ((swap_ok hd.row i j hi hj hne).mono fun v h' ⟨hr, hf, hs⟩ => hk v h' ⟨?_, hr⟩ hf hs)
  refine hf c _ hd.clk ?_
  rintro (e | ⟨k, hk, e⟩)
  · exact hd.ne_rb e
  · exact hd.ne_ent hk e

/-- What a piece of work on the row's first m entries leaves behind. -/
structure Did (h h' : Hp) (c rb cap : Nat) (a a' : Nat → E) (n m : Nat) (mv : Value) : Prop where
  hd : Hd h' c rb cap a' n mv
  fr : Fr (RB a n rb) h h'
  still : Still h h'
  le : m ≤ n
  mv : Moved a a' m
theorem Did.refl {h : Hp} {c rb cap : Nat} {a : Nat → E} {n m : Nat} {mv : Value} (hd : Hd h c rb cap a n mv) (hm : m ≤ n) : Did h h c rb cap a a n m mv := ⟨hd, Fr.refl _ _, fun _ e => e, hm, Moved.refl _ _⟩
theorem Did.trans {h h' h'' : Hp} {c rb cap : Nat} {a a' a'' : Nat → E} {n m : Nat} {mv : Value} (d1 : Did h h' c rb cap a a' n m mv) (d2 : Did h' h'' c rb cap a' a'' n m mv) : Did h h'' c rb cap a a'' n m mv :=
  ⟨d2.hd, d1.fr.trans (d2.fr.mono fun b hb => hb.same (d1.mv.set d1.le)), fun b e => d2.still b (d1.still b e), d1.le, d1.mv.trans d2.mv⟩

theorem up_ok {h : Hp} {c rb cap n m : Nat} {a : Nat → E} {mv : Value} (hd : Hd h c rb cap a n mv) (hn : n < 2 ^ 60) (hm : m ≤ n) (j : Nat) (hj : j < m) (hu : UpInv a m j) :
    CallK Try.prog 22 [itf c, .int .i64 j] h fun v h' => ∃ a', Did h h' c rb cap a a' n m mv ∧ HeapOrd a' m := by
  refine CallK.of Try.func22 (by kernel_rfl) rfl Try.ntmps22 (rs := _) Try.results22 (by simp) ?_; simp only [envOf, Nat.zero_add, Nat.reduceAdd]
  refine HW.block ?_
  refine HW.loopV (α := (Nat → E) × Nat) [0, 1] (fun x => [itf c, .int .i64 x.2]) (fun x h' => Did h h' c rb cap a x.1 n m mv ∧ x.2 < m ∧ UpInv x.1 m x.2) (fun x => x.2) (a, j) ⟨Did.refl hd hm, hj, hu⟩ ⟨rfl, rfl, trivial⟩ ?_
  rintro ⟨a1, j1⟩ h1 ⟨hd1, hj1, hu1⟩
  simp only at hd1 hj1 hu1
  refine HW.block ?_
  simp only [List.zip_cons_cons, List.zip_nil_left]
  by_cases j0 : j1 = 0
  · subst j0
    (repeat refine HW.seqL ?_); refine HW.seqR rfl (fun K hK => ?_)
    simp -implicitDefEqProofs only [↓XA, XB, XC, TF, UF, exists_eq_left', exists_eq_left, exists_eq_right, implies_true, forall_const, ↓reduceIte, reduceCtorEq, Nat.reduceLeDiff, Nat.reduceLT, Nat.reduceAdd, Nat.reduceMul, Nat.reduceEqDiff, Nat.reduceBEq, Nat.reduceSub, Int.reduceToNat, Int.reduceEq, Int.reduceNe, Int.reduceLT, Int.reduceLE, Int.reduceGT, Int.reduceGE, Int.reduceBEq, Int.reduceBNe, Int.reduceAdd, Int.reduceSub, Int.reduceMul, Int.reduceNeg, evM, nilV, extrV, binV, binI, binS, unV, convV, mkIfV, loadV, rdN, storeV, fieldAddrV, idxAddrV, idxV, fieldV, partV, lenV, capV, sliceV, bndV, stO, wrL, unfr, oneC, Value.cells, ptrV, eqD, tasV, buildV, bslL, buildL, setL, zrepL, eqL, leafEq, show IntKind.i64.wrap (-1) = -1 from by decide, show IntKind.i64.wrap (Int.tdiv (-1) 2) = 0 from by decide]
    ((refine hK _ _ ?_); clear hK K)
    (repeat refine HW.seqL ?_); refine HW.seqR rfl (fun K hK => ?_)
    simp -implicitDefEqProofs only [↓XA, XB, XC, TF, UF, exists_eq_left', exists_eq_left, exists_eq_right, implies_true, forall_const, ↓reduceIte, reduceCtorEq, Nat.reduceLeDiff, Nat.reduceLT, Nat.reduceAdd, Nat.reduceMul, Nat.reduceEqDiff, Nat.reduceBEq, Nat.reduceSub, Int.reduceToNat, Int.reduceEq, Int.reduceNe, Int.reduceLT, Int.reduceLE, Int.reduceGT, Int.reduceGE, Int.reduceBEq, Int.reduceBNe, Int.reduceAdd, Int.reduceSub, Int.reduceMul, Int.reduceNeg, evM, nilV, extrV, binV, binI, binS, unV, convV, mkIfV, loadV, rdN, storeV, fieldAddrV, idxAddrV, idxV, fieldV, partV, lenV, capV, sliceV, bndV, stO, wrL, unfr, oneC, Value.cells, ptrV, eqD, tasV, buildV, bslL, buildL, setL, zrepL, eqL, leafEq, beq_self_eq_true]
    ((refine hK _ _ ?_); clear hK K)
    (repeat refine HW.seqL ?_); first | refine HW.ite rfl (fun hb => ?_) (fun hb => ?_) | refine HW.iteS rfl (fun hb => ?_) (fun hb => ?_)
    · refine HW.exit ?_
      (repeat (first | (with_reducible refine Seq.ret ?_) | (with_reducible refine Blk.ret ?_) | (with_reducible refine Blk.here ?_) | (with_reducible refine Seq.exit ?_) | (with_reducible refine Blk.out (by decide) ?_) | (with_reducible refine Blk.normal ?_) | (with_reducible refine Seq.normal ?_)))
      exact RetK.nilN ⟨a1, hd1, up_stop hu1 (.inl rfl)⟩
    · cases hb
  · have w1 : IntKind.i64.wrap ((j1 : Int) - 1) = (j1 : Int) - 1 := wrap_i64 (by omega) (by omega)
    have w2 : IntKind.i64.wrap (((j1 : Int) - 1).tdiv 2) = (((j1 - 1) / 2 : Nat) : Int) := by
      rw [Go.Hx.tdiv_pos (by omega), wrap_i64 (by omega) (by omega)]; omega
    have hp : (j1 - 1) / 2 < m := by omega
    have hnb : ((((j1 - 1) / 2 : Nat) : Int) == (j1 : Int)) = false := by simp; omega
    (repeat refine HW.seqL ?_); refine HW.seqR rfl (fun K hK => ?_)
    simp -implicitDefEqProofs only [↓XA, XB, XC, TF, UF, exists_eq_left', exists_eq_left, exists_eq_right, implies_true, forall_const, ↓reduceIte, reduceCtorEq, Nat.reduceLeDiff, Nat.reduceLT, Nat.reduceAdd, Nat.reduceMul, Nat.reduceEqDiff, Nat.reduceBEq, Nat.reduceSub, Int.reduceToNat, Int.reduceEq, Int.reduceNe, Int.reduceLT, Int.reduceLE, Int.reduceGT, Int.reduceGE, Int.reduceBEq, Int.reduceBNe, Int.reduceAdd, Int.reduceSub, Int.reduceMul, Int.reduceNeg, evM, nilV, extrV, binV, binI, binS, unV, convV, mkIfV, loadV, rdN, storeV, fieldAddrV, idxAddrV, idxV, fieldV, partV, lenV, capV, sliceV, bndV, stO, wrL, unfr, oneC, Value.cells, ptrV, eqD, tasV, buildV, bslL, buildL, setL, zrepL, eqL, leafEq, w1, w2]
    ((refine hK _ _ ?_); clear hK K)
    (repeat refine HW.seqL ?_); refine HW.seqR rfl (fun K hK => ?_)
    simp -implicitDefEqProofs only [↓XA, XB, XC, TF, UF, exists_eq_left', exists_eq_left, exists_eq_right, implies_true, forall_const, ↓reduceIte, reduceCtorEq, Nat.reduceLeDiff, Nat.reduceLT, Nat.reduceAdd, Nat.reduceMul, Nat.reduceEqDiff, Nat.reduceBEq, Nat.reduceSub, Int.reduceToNat, Int.reduceEq, Int.reduceNe, Int.reduceLT, Int.reduceLE, Int.reduceGT, Int.reduceGE, Int.reduceBEq, Int.reduceBNe, Int.reduceAdd, Int.reduceSub, Int.reduceMul, Int.reduceNeg, evM, nilV, extrV, binV, binI, binS, unV, convV, mkIfV, loadV, rdN, storeV, fieldAddrV, idxAddrV, idxV, fieldV, partV, lenV, capV, sliceV, bndV, stO, wrL, unfr, oneC, Value.cells, ptrV, eqD, tasV, buildV, bslL, buildL, setL, zrepL, eqL, leafEq, hnb]
    refine hd1.hd.less (by omega) (by omega) ?_
    (try simp -implicitDefEqProofs only [↓XA, XB, XC, TF, UF, exists_eq_left', exists_eq_left, exists_eq_right, implies_true, forall_const, ↓reduceIte, reduceCtorEq, Nat.reduceLeDiff, Nat.reduceLT, Nat.reduceAdd, Nat.reduceMul, Nat.reduceEqDiff, Nat.reduceBEq, Nat.reduceSub, Int.reduceToNat, Int.reduceEq, Int.reduceNe, Int.reduceLT, Int.reduceLE, Int.reduceGT, Int.reduceGE, Int.reduceBEq, Int.reduceBNe, Int.reduceAdd, Int.reduceSub, Int.reduceMul, Int.reduceNeg, evM, nilV, extrV, binV, binI, binS, unV, convV, mkIfV, loadV, rdN, storeV, fieldAddrV, idxAddrV, idxV, fieldV, partV, lenV, capV, sliceV, bndV, stO, wrL, unfr, oneC, Value.cells, ptrV, eqD, tasV, buildV, bslL, buildL, setL, zrepL, eqL, leafEq])
    ((refine hK _ _ ?_); clear hK K)
    (repeat refine HW.seqL ?_); first | refine HW.ite rfl (fun hb => ?_) (fun hb => ?_) | refine HW.iteS rfl (fun hb => ?_) (fun hb => ?_)
    · refine HW.exit ?_
      (repeat (first | (with_reducible refine Seq.ret ?_) | (with_reducible refine Blk.ret ?_) | (with_reducible refine Blk.here ?_) | (with_reducible refine Seq.exit ?_) | (with_reducible refine Blk.out (by decide) ?_) | (with_reducible refine Blk.normal ?_) | (with_reducible refine Seq.normal ?_)))
      exact RetK.nilN ⟨a1, hd1, up_stop hu1 (.inr (by simpa using hb))⟩
    · refine HW.skip ?_
      (repeat (first | (with_reducible refine Seq.ret ?_) | (with_reducible refine Blk.ret ?_) | (with_reducible refine Blk.here ?_) | (with_reducible refine Seq.exit ?_) | (with_reducible refine Blk.out (by decide) ?_) | (with_reducible refine Blk.normal ?_) | (with_reducible refine Seq.normal ?_)))
      have hl : ltE (a1 j1) (a1 ((j1 - 1) / 2)) = true := by simpa using hb
      (repeat refine HW.seqL ?_); refine HW.seqR rfl (fun K hK => ?_)
      simp -implicitDefEqProofs only [↓XA, XB, XC, TF, UF, exists_eq_left', exists_eq_left, exists_eq_right, implies_true, forall_const, ↓reduceIte, reduceCtorEq, Nat.reduceLeDiff, Nat.reduceLT, Nat.reduceAdd, Nat.reduceMul, Nat.reduceEqDiff, Nat.reduceBEq, Nat.reduceSub, Int.reduceToNat, Int.reduceEq, Int.reduceNe, Int.reduceLT, Int.reduceLE, Int.reduceGT, Int.reduceGE, Int.reduceBEq, Int.reduceBNe, Int.reduceAdd, Int.reduceSub, Int.reduceMul, Int.reduceNeg, evM, nilV, extrV, binV, binI, binS, unV, convV, mkIfV, loadV, rdN, storeV, fieldAddrV, idxAddrV, idxV, fieldV, partV, lenV, capV, sliceV, bndV, stO, wrL, unfr, oneC, Value.cells, ptrV, eqD, tasV, buildV, bslL, buildL, setL, zrepL, eqL, leafEq]
      refine hd1.hd.swap (by omega) (by omega) (by omega) (fun v h2 hd2 hf2 hs2 => ?_)
      (try simp -implicitDefEqProofs only [↓XA, XB, XC, TF, UF, exists_eq_left', exists_eq_left, exists_eq_right, implies_true, forall_const, ↓reduceIte, reduceCtorEq, Nat.reduceLeDiff, Nat.reduceLT, Nat.reduceAdd, Nat.reduceMul, Nat.reduceEqDiff, Nat.reduceBEq, Nat.reduceSub, Int.reduceToNat, Int.reduceEq, Int.reduceNe, Int.reduceLT, Int.reduceLE, Int.reduceGT, Int.reduceGE, Int.reduceBEq, Int.reduceBNe, Int.reduceAdd, Int.reduceSub, Int.reduceMul, Int.reduceNeg, evM, nilV, extrV, binV, binI, binS, unV, convV, mkIfV, loadV, rdN, storeV, fieldAddrV, idxAddrV, idxV, fieldV, partV, lenV, capV, sliceV, bndV, stO, wrL, unfr, oneC, Value.cells, ptrV, eqD, tasV, buildV, bslL, buildL, setL, zrepL, eqL, leafEq])
      ((refine hK _ _ ?_); clear hK K)
      refine HW.rgnK rfl (fun K hK => ?_)
      simp -implicitDefEqProofs only [↓XA, XB, XC, TF, UF, exists_eq_left', exists_eq_left, exists_eq_right, implies_true, forall_const, ↓reduceIte, reduceCtorEq, Nat.reduceLeDiff, Nat.reduceLT, Nat.reduceAdd, Nat.reduceMul, Nat.reduceEqDiff, Nat.reduceBEq, Nat.reduceSub, Int.reduceToNat, Int.reduceEq, Int.reduceNe, Int.reduceLT, Int.reduceLE, Int.reduceGT, Int.reduceGE, Int.reduceBEq, Int.reduceBNe, Int.reduceAdd, Int.reduceSub, Int.reduceMul, Int.reduceNeg, evM, nilV, extrV, binV, binI, binS, unV, convV, mkIfV, loadV, rdN, storeV, fieldAddrV, idxAddrV, idxV, fieldV, partV, lenV, capV, sliceV, bndV, stO, wrL, unfr, oneC, Value.cells, ptrV, eqD, tasV, buildV, bslL, buildL, setL, zrepL, eqL, leafEq]
      ((refine hK _ _ ?_); clear hK K)
      (repeat (first | (with_reducible refine Seq.ret ?_) | (with_reducible refine Blk.ret ?_) | (with_reducible refine Blk.here ?_) | (with_reducible refine Seq.exit ?_) | (with_reducible refine Blk.out (by decide) ?_) | (with_reducible refine Blk.normal ?_) | (with_reducible refine Seq.normal ?_)))
      refine ⟨(swp a1 ((j1 - 1) / 2) j1, (j1 - 1) / 2), by simp only; omega, ⟨hd1.trans ⟨hd2, hf2, hs2, hm, Moved.swp hp hj1⟩, hp, up_step hu1 hj1 (by omega) hl⟩, rfl, rfl, trivial⟩

/-- Going down from i0: did it move? -/
theorem down_ok {h : Hp} {c rb cap n m : Nat} {a : Nat → E} {mv : Value} (hd : Hd h c rb cap a n mv) (hn : n < 2 ^ 60) (hm : m ≤ n) (i0 : Nat) (hi0 : i0 < m) (hu : DnInv a m i0 i0) :
    CallK Try.prog 21 [itf c, .int .i64 i0, .int .i64 m] h fun v h' => ∃ a' b, v = .bool b ∧ Did h h' c rb cap a a' n m mv ∧ (b = true → HeapOrd a' m) ∧ (b = false → UpInv a' m i0) := by
  refine CallK.of Try.func21 (by kernel_rfl) rfl Try.ntmps21 (rs := _) Try.results21 (by simp) ?_; simp only [envOf, Nat.zero_add, Nat.reduceAdd]
  (repeat refine HW.seqL ?_); refine HW.seqR rfl (fun K hK => ?_)
  simp -implicitDefEqProofs only [↓XA, XB, XC, TF, UF, exists_eq_left', exists_eq_left, exists_eq_right, implies_true, forall_const, ↓reduceIte, reduceCtorEq, Nat.reduceLeDiff, Nat.reduceLT, Nat.reduceAdd, Nat.reduceMul, Nat.reduceEqDiff, Nat.reduceBEq, Nat.reduceSub, Int.reduceToNat, Int.reduceEq, Int.reduceNe, Int.reduceLT, Int.reduceLE, Int.reduceGT, Int.reduceGE, Int.reduceBEq, Int.reduceBNe, Int.reduceAdd, Int.reduceSub, Int.reduceMul, Int.reduceNeg, evM, nilV, extrV, binV, binI, binS, unV, convV, mkIfV, loadV, rdN, storeV, fieldAddrV, idxAddrV, idxV, fieldV, partV, lenV, capV, sliceV, bndV, stO, wrL, unfr, oneC, Value.cells, ptrV, eqD, tasV, buildV, bslL, buildL, setL, zrepL, eqL, leafEq]
  ((refine hK _ _ ?_); clear hK K)
  (repeat refine HW.seqL ?_); refine HW.seqR rfl (fun K hK => ?_)
  simp -implicitDefEqProofs only [↓XA, XB, XC, TF, UF, exists_eq_left', exists_eq_left, exists_eq_right, implies_true, forall_const, ↓reduceIte, reduceCtorEq, Nat.reduceLeDiff, Nat.reduceLT, Nat.reduceAdd, Nat.reduceMul, Nat.reduceEqDiff, Nat.reduceBEq, Nat.reduceSub, Int.reduceToNat, Int.reduceEq, Int.reduceNe, Int.reduceLT, Int.reduceLE, Int.reduceGT, Int.reduceGE, Int.reduceBEq, Int.reduceBNe, Int.reduceAdd, Int.reduceSub, Int.reduceMul, Int.reduceNeg, evM, nilV, extrV, binV, binI, binS, unV, convV, mkIfV, loadV, rdN, storeV, fieldAddrV, idxAddrV, idxV, fieldV, partV, lenV, capV, sliceV, bndV, stO, wrL, unfr, oneC, Value.cells, ptrV, eqD, tasV, buildV, bslL, buildL, setL, zrepL, eqL, leafEq]
  ((refine hK _ _ ?_); clear hK K)
  refine HW.join (α := (Nat → E) × Nat) [1, 7] (fun x => [.int .i64 i0, .int .i64 x.2]) (fun x h' => Did h h' c rb cap a x.1 n m mv ∧ i0 ≤ x.2 ∧ x.2 < m ∧ (x.2 ≠ i0 → HeapOrd x.1 m) ∧ (x.2 = i0 → UpInv x.1 m i0)) ?_ ?_
  · refine HW.block ?_
    refine HW.loopV (α := (Nat → E) × Nat) [0, 1, 2, 7] (fun x => [itf c, .int .i64 i0, .int .i64 m, .int .i64 x.2]) (fun x h' => Did h h' c rb cap a x.1 n m mv ∧ i0 ≤ x.2 ∧ x.2 < m ∧ DnInv x.1 m i0 x.2) (fun x => m - x.2) (a, i0) ⟨Did.refl hd hm, Nat.le_refl _, hi0, hu⟩ ⟨rfl, rfl, rfl, rfl, trivial⟩ ?_
    rintro ⟨a1, i⟩ h1 ⟨hd1, hii, hi, hu1⟩
    simp only at hd1 hii hi hu1
    refine HW.block ?_
    simp only [List.zip_cons_cons, List.zip_nil_left]
    have w1 : IntKind.i64.wrap (2 * (i : Int)) = 2 * (i : Int) := wrap_i64 (by omega) (by omega)
    have w2 : IntKind.i64.wrap (2 * (i : Int) + 1) = ((2 * i + 1 : Nat) : Int) := by rw [wrap_i64 (by omega) (by omega)]; omega
    (repeat refine HW.seqL ?_); refine HW.seqR rfl (fun K hK => ?_)
    simp -implicitDefEqProofs only [↓XA, XB, XC, TF, UF, exists_eq_left', exists_eq_left, exists_eq_right, implies_true, forall_const, ↓reduceIte, reduceCtorEq, Nat.reduceLeDiff, Nat.reduceLT, Nat.reduceAdd, Nat.reduceMul, Nat.reduceEqDiff, Nat.reduceBEq, Nat.reduceSub, Int.reduceToNat, Int.reduceEq, Int.reduceNe, Int.reduceLT, Int.reduceLE, Int.reduceGT, Int.reduceGE, Int.reduceBEq, Int.reduceBNe, Int.reduceAdd, Int.reduceSub, Int.reduceMul, Int.reduceNeg, evM, nilV, extrV, binV, binI, binS, unV, convV, mkIfV, loadV, rdN, storeV, fieldAddrV, idxAddrV, idxV, fieldV, partV, lenV, capV, sliceV, bndV, stO, wrL, unfr, oneC, Value.cells, ptrV, eqD, tasV, buildV, bslL, buildL, setL, zrepL, eqL, leafEq, w1, w2]
    ((refine hK _ _ ?_); clear hK K)
    by_cases hleaf : m ≤ 2 * i + 1
    · have hg : ((m : Int) ≤ ((2 * i + 1 : Nat) : Int)) := by omega
      (repeat refine HW.seqL ?_); refine HW.seqR rfl (fun K hK => ?_)
      simp -implicitDefEqProofs only [↓XA, XB, XC, TF, UF, exists_eq_left', exists_eq_left, exists_eq_right, implies_true, forall_const, ↓reduceIte, reduceCtorEq, Nat.reduceLeDiff, Nat.reduceLT, Nat.reduceAdd, Nat.reduceMul, Nat.reduceEqDiff, Nat.reduceBEq, Nat.reduceSub, Int.reduceToNat, Int.reduceEq, Int.reduceNe, Int.reduceLT, Int.reduceLE, Int.reduceGT, Int.reduceGE, Int.reduceBEq, Int.reduceBNe, Int.reduceAdd, Int.reduceSub, Int.reduceMul, Int.reduceNeg, evM, nilV, extrV, binV, binI, binS, unV, convV, mkIfV, loadV, rdN, storeV, fieldAddrV, idxAddrV, idxV, fieldV, partV, lenV, capV, sliceV, bndV, stO, wrL, unfr, oneC, Value.cells, ptrV, eqD, tasV, buildV, bslL, buildL, setL, zrepL, eqL, leafEq, hg, ge_iff_le]
      ((refine hK _ _ ?_); clear hK K)
      (repeat refine HW.seqL ?_); first | refine HW.ite rfl (fun hb => ?_) (fun hb => ?_) | refine HW.iteS rfl (fun hb => ?_) (fun hb => ?_)
      · refine HW.exit ?_
        (repeat (first | (with_reducible refine Seq.ret ?_) | (with_reducible refine Blk.ret ?_) | (with_reducible refine Blk.here ?_) | (with_reducible refine Seq.exit ?_) | (with_reducible refine Blk.out (by decide) ?_) | (with_reducible refine Blk.normal ?_) | (with_reducible refine Seq.normal ?_)))
        have hst := dn_stop hu1 (fun k k0 kn kp => by omega)
        exact ⟨(a1, i), ⟨hd1, hii, hi, hst.1, hst.2⟩, rfl, rfl, trivial⟩
      · cases hb
    · have hg : ¬ ((m : Int) ≤ ((2 * i + 1 : Nat) : Int)) := by omega
      have hg2 : ¬ (((2 * i + 1 : Nat) : Int) < 0) := by omega
      (repeat refine HW.seqL ?_); refine HW.seqR rfl (fun K hK => ?_)
      simp -implicitDefEqProofs only [↓XA, XB, XC, TF, UF, exists_eq_left', exists_eq_left, exists_eq_right, implies_true, forall_const, ↓reduceIte, reduceCtorEq, Nat.reduceLeDiff, Nat.reduceLT, Nat.reduceAdd, Nat.reduceMul, Nat.reduceEqDiff, Nat.reduceBEq, Nat.reduceSub, Int.reduceToNat, Int.reduceEq, Int.reduceNe, Int.reduceLT, Int.reduceLE, Int.reduceGT, Int.reduceGE, Int.reduceBEq, Int.reduceBNe, Int.reduceAdd, Int.reduceSub, Int.reduceMul, Int.reduceNeg, evM, nilV, extrV, binV, binI, binS, unV, convV, mkIfV, loadV, rdN, storeV, fieldAddrV, idxAddrV, idxV, fieldV, partV, lenV, capV, sliceV, bndV, stO, wrL, unfr, oneC, Value.cells, ptrV, eqD, tasV, buildV, bslL, buildL, setL, zrepL, eqL, leafEq, hg, hg2, ge_iff_le]
      ((refine hK _ _ ?_); clear hK K)
      (repeat refine HW.seqL ?_); first | refine HW.ite rfl (fun hb => ?_) (fun hb => ?_) | refine HW.iteS rfl (fun hb => ?_) (fun hb => ?_)
      · cases hb
      · refine HW.skip ?_
        (repeat (first | (with_reducible refine Seq.ret ?_) | (with_reducible refine Blk.ret ?_) | (with_reducible refine Blk.here ?_) | (with_reducible refine Seq.exit ?_) | (with_reducible refine Blk.out (by decide) ?_) | (with_reducible refine Blk.normal ?_) | (with_reducible refine Seq.normal ?_)))
        have w3 : IntKind.i64.wrap (((2 * i + 1 : Nat) : Int) + 1) = ((2 * i + 2 : Nat) : Int) := by rw [wrap_i64 (by omega) (by omega)]; omega
        (repeat refine HW.seqL ?_); refine HW.seqR rfl (fun K hK => ?_)
        simp -implicitDefEqProofs only [↓XA, XB, XC, TF, UF, exists_eq_left', exists_eq_left, exists_eq_right, implies_true, forall_const, ↓reduceIte, reduceCtorEq, Nat.reduceLeDiff, Nat.reduceLT, Nat.reduceAdd, Nat.reduceMul, Nat.reduceEqDiff, Nat.reduceBEq, Nat.reduceSub, Int.reduceToNat, Int.reduceEq, Int.reduceNe, Int.reduceLT, Int.reduceLE, Int.reduceGT, Int.reduceGE, Int.reduceBEq, Int.reduceBNe, Int.reduceAdd, Int.reduceSub, Int.reduceMul, Int.reduceNeg, evM, nilV, extrV, binV, binI, binS, unV, convV, mkIfV, loadV, rdN, storeV, fieldAddrV, idxAddrV, idxV, fieldV, partV, lenV, capV, sliceV, bndV, stO, wrL, unfr, oneC, Value.cells, ptrV, eqD, tasV, buildV, bslL, buildL, setL, zrepL, eqL, leafEq]
        ((refine hK _ _ ?_); clear hK K)
        refine HW.join (α := Nat) [0, 1, 2, 7, 9] (fun j => [itf c, .int .i64 i0, .int .i64 m, .int .i64 i, .int .i64 j]) (fun j h' => h' = h1 ∧ j < m ∧ (j - 1) / 2 = i ∧ 0 < j ∧ ∀ k, 0 < k → k < m → (k - 1) / 2 = i → ltE (a1 k) (a1 j) = false) ?_ ?_
        · by_cases h2 : 2 * i + 2 < m
          · have hg3 : ((2 * i + 2 : Nat) : Int) < (m : Int) := by omega
            (repeat refine HW.seqL ?_); refine HW.seqR rfl (fun K hK => ?_)
            simp -implicitDefEqProofs only [↓XA, XB, XC, TF, UF, exists_eq_left', exists_eq_left, exists_eq_right, implies_true, forall_const, ↓reduceIte, reduceCtorEq, Nat.reduceLeDiff, Nat.reduceLT, Nat.reduceAdd, Nat.reduceMul, Nat.reduceEqDiff, Nat.reduceBEq, Nat.reduceSub, Int.reduceToNat, Int.reduceEq, Int.reduceNe, Int.reduceLT, Int.reduceLE, Int.reduceGT, Int.reduceGE, Int.reduceBEq, Int.reduceBNe, Int.reduceAdd, Int.reduceSub, Int.reduceMul, Int.reduceNeg, evM, nilV, extrV, binV, binI, binS, unV, convV, mkIfV, loadV, rdN, storeV, fieldAddrV, idxAddrV, idxV, fieldV, partV, lenV, capV, sliceV, bndV, stO, wrL, unfr, oneC, Value.cells, ptrV, eqD, tasV, buildV, bslL, buildL, setL, zrepL, eqL, leafEq, w3]
            ((refine hK _ _ ?_); clear hK K)
            (repeat refine HW.seqL ?_); refine HW.seqR rfl (fun K hK => ?_)
            simp -implicitDefEqProofs only [↓XA, XB, XC, TF, UF, exists_eq_left', exists_eq_left, exists_eq_right, implies_true, forall_const, ↓reduceIte, reduceCtorEq, Nat.reduceLeDiff, Nat.reduceLT, Nat.reduceAdd, Nat.reduceMul, Nat.reduceEqDiff, Nat.reduceBEq, Nat.reduceSub, Int.reduceToNat, Int.reduceEq, Int.reduceNe, Int.reduceLT, Int.reduceLE, Int.reduceGT, Int.reduceGE, Int.reduceBEq, Int.reduceBNe, Int.reduceAdd, Int.reduceSub, Int.reduceMul, Int.reduceNeg, evM, nilV, extrV, binV, binI, binS, unV, convV, mkIfV, loadV, rdN, storeV, fieldAddrV, idxAddrV, idxV, fieldV, partV, lenV, capV, sliceV, bndV, stO, wrL, unfr, oneC, Value.cells, ptrV, eqD, tasV, buildV, bslL, buildL, setL, zrepL, eqL, leafEq, hg3]
            refine hd1.hd.less (by omega) (by omega) ?_
            (try simp -implicitDefEqProofs only [↓XA, XB, XC, TF, UF, exists_eq_left', exists_eq_left, exists_eq_right, implies_true, forall_const, ↓reduceIte, reduceCtorEq, Nat.reduceLeDiff, Nat.reduceLT, Nat.reduceAdd, Nat.reduceMul, Nat.reduceEqDiff, Nat.reduceBEq, Nat.reduceSub, Int.reduceToNat, Int.reduceEq, Int.reduceNe, Int.reduceLT, Int.reduceLE, Int.reduceGT, Int.reduceGE, Int.reduceBEq, Int.reduceBNe, Int.reduceAdd, Int.reduceSub, Int.reduceMul, Int.reduceNeg, evM, nilV, extrV, binV, binI, binS, unV, convV, mkIfV, loadV, rdN, storeV, fieldAddrV, idxAddrV, idxV, fieldV, partV, lenV, capV, sliceV, bndV, stO, wrL, unfr, oneC, Value.cells, ptrV, eqD, tasV, buildV, bslL, buildL, setL, zrepL, eqL, leafEq])
            ((refine hK _ _ ?_); clear hK K)
            (repeat refine HW.seqL ?_); first | refine HW.ite rfl (fun hb => ?_) (fun hb => ?_) | refine HW.iteS rfl (fun hb => ?_) (fun hb => ?_)
            · refine HW.rgnK rfl (fun K hK => ?_)
              simp -implicitDefEqProofs only [↓XA, XB, XC, TF, UF, exists_eq_left', exists_eq_left, exists_eq_right, implies_true, forall_const, ↓reduceIte, reduceCtorEq, Nat.reduceLeDiff, Nat.reduceLT, Nat.reduceAdd, Nat.reduceMul, Nat.reduceEqDiff, Nat.reduceBEq, Nat.reduceSub, Int.reduceToNat, Int.reduceEq, Int.reduceNe, Int.reduceLT, Int.reduceLE, Int.reduceGT, Int.reduceGE, Int.reduceBEq, Int.reduceBNe, Int.reduceAdd, Int.reduceSub, Int.reduceMul, Int.reduceNeg, evM, nilV, extrV, binV, binI, binS, unV, convV, mkIfV, loadV, rdN, storeV, fieldAddrV, idxAddrV, idxV, fieldV, partV, lenV, capV, sliceV, bndV, stO, wrL, unfr, oneC, Value.cells, ptrV, eqD, tasV, buildV, bslL, buildL, setL, zrepL, eqL, leafEq]
              ((refine hK _ _ ?_); clear hK K)
              (repeat (first | (with_reducible refine Seq.ret ?_) | (with_reducible refine Blk.ret ?_) | (with_reducible refine Blk.here ?_) | (with_reducible refine Seq.exit ?_) | (with_reducible refine Blk.out (by decide) ?_) | (with_reducible refine Blk.normal ?_) | (with_reducible refine Seq.normal ?_)))
              refine ⟨2 * i + 2, ⟨rfl, h2, by omega, by omega, ?_⟩, rfl, rfl, rfl, rfl, rfl, trivial⟩
              intro k k0 kn kp
              rw [ltE_iff] at hb
              rw [ltE_no]
              obtain rfl | rfl : k = 2 * i + 1 ∨ k = 2 * i + 2 := by omega
              · omega
              · omega
            · refine HW.skip ?_
              (repeat (first | (with_reducible refine Seq.ret ?_) | (with_reducible refine Blk.ret ?_) | (with_reducible refine Blk.here ?_) | (with_reducible refine Seq.exit ?_) | (with_reducible refine Blk.out (by decide) ?_) | (with_reducible refine Blk.normal ?_) | (with_reducible refine Seq.normal ?_)))
              refine ⟨2 * i + 1, ⟨rfl, by omega, by omega, by omega, ?_⟩, rfl, rfl, rfl, rfl, rfl, trivial⟩
              intro k k0 kn kp
              rw [ltE_no] at hb
              rw [ltE_no]
              obtain rfl | rfl : k = 2 * i + 1 ∨ k = 2 * i + 2 := by omega
              · omega
              · exact hb
          · have hg3 : ¬ ((2 * i + 2 : Nat) : Int) < (m : Int) := by omega
            (repeat refine HW.seqL ?_); refine HW.seqR rfl (fun K hK => ?_)
            simp -implicitDefEqProofs only [↓XA, XB, XC, TF, UF, exists_eq_left', exists_eq_left, exists_eq_right, implies_true, forall_const, ↓reduceIte, reduceCtorEq, Nat.reduceLeDiff, Nat.reduceLT, Nat.reduceAdd, Nat.reduceMul, Nat.reduceEqDiff, Nat.reduceBEq, Nat.reduceSub, Int.reduceToNat, Int.reduceEq, Int.reduceNe, Int.reduceLT, Int.reduceLE, Int.reduceGT, Int.reduceGE, Int.reduceBEq, Int.reduceBNe, Int.reduceAdd, Int.reduceSub, Int.reduceMul, Int.reduceNeg, evM, nilV, extrV, binV, binI, binS, unV, convV, mkIfV, loadV, rdN, storeV, fieldAddrV, idxAddrV, idxV, fieldV, partV, lenV, capV, sliceV, bndV, stO, wrL, unfr, oneC, Value.cells, ptrV, eqD, tasV, buildV, bslL, buildL, setL, zrepL, eqL, leafEq, w3]
            ((refine hK _ _ ?_); clear hK K)
            (repeat refine HW.seqL ?_); refine HW.seqR rfl (fun K hK => ?_)
            simp -implicitDefEqProofs only [↓XA, XB, XC, TF, UF, exists_eq_left', exists_eq_left, exists_eq_right, implies_true, forall_const, ↓reduceIte, reduceCtorEq, Nat.reduceLeDiff, Nat.reduceLT, Nat.reduceAdd, Nat.reduceMul, Nat.reduceEqDiff, Nat.reduceBEq, Nat.reduceSub, Int.reduceToNat, Int.reduceEq, Int.reduceNe, Int.reduceLT, Int.reduceLE, Int.reduceGT, Int.reduceGE, Int.reduceBEq, Int.reduceBNe, Int.reduceAdd, Int.reduceSub, Int.reduceMul, Int.reduceNeg, evM, nilV, extrV, binV, binI, binS, unV, convV, mkIfV, loadV, rdN, storeV, fieldAddrV, idxAddrV, idxV, fieldV, partV, lenV, capV, sliceV, bndV, stO, wrL, unfr, oneC, Value.cells, ptrV, eqD, tasV, buildV, bslL, buildL, setL, zrepL, eqL, leafEq, hg3]
            ((refine hK _ _ ?_); clear hK K)
            (repeat refine HW.seqL ?_); first | refine HW.ite rfl (fun hb => ?_) (fun hb => ?_) | refine HW.iteS rfl (fun hb => ?_) (fun hb => ?_)
            · cases hb
            · refine HW.skip ?_
              (repeat (first | (with_reducible refine Seq.ret ?_) | (with_reducible refine Blk.ret ?_) | (with_reducible refine Blk.here ?_) | (with_reducible refine Seq.exit ?_) | (with_reducible refine Blk.out (by decide) ?_) | (with_reducible refine Blk.normal ?_) | (with_reducible refine Seq.normal ?_)))
              refine ⟨2 * i + 1, ⟨rfl, by omega, by omega, by omega, ?_⟩, rfl, rfl, rfl, rfl, rfl, trivial⟩
              intro k k0 kn kp
              obtain rfl : k = 2 * i + 1 := by omega
              rw [ltE_no]
              omega
        · rintro j h2 ⟨rfl, hj, hjp, hj0, hjs⟩
          simp only [List.zip_cons_cons, List.zip_nil_left]
          (repeat refine HW.seqL ?_); refine HW.seqR rfl (fun K hK => ?_)
          simp -implicitDefEqProofs only [↓XA, XB, XC, TF, UF, exists_eq_left', exists_eq_left, exists_eq_right, implies_true, forall_const, ↓reduceIte, reduceCtorEq, Nat.reduceLeDiff, Nat.reduceLT, Nat.reduceAdd, Nat.reduceMul, Nat.reduceEqDiff, Nat.reduceBEq, Nat.reduceSub, Int.reduceToNat, Int.reduceEq, Int.reduceNe, Int.reduceLT, Int.reduceLE, Int.reduceGT, Int.reduceGE, Int.reduceBEq, Int.reduceBNe, Int.reduceAdd, Int.reduceSub, Int.reduceMul, Int.reduceNeg, evM, nilV, extrV, binV, binI, binS, unV, convV, mkIfV, loadV, rdN, storeV, fieldAddrV, idxAddrV, idxV, fieldV, partV, lenV, capV, sliceV, bndV, stO, wrL, unfr, oneC, Value.cells, ptrV, eqD, tasV, buildV, bslL, buildL, setL, zrepL, eqL, leafEq]
          refine hd1.hd.less (by omega) (by omega) ?_
          (try simp -implicitDefEqProofs only [↓XA, XB, XC, TF, UF, exists_eq_left', exists_eq_left, exists_eq_right, implies_true, forall_const, ↓reduceIte, reduceCtorEq, Nat.reduceLeDiff, Nat.reduceLT, Nat.reduceAdd, Nat.reduceMul, Nat.reduceEqDiff, Nat.reduceBEq, Nat.reduceSub, Int.reduceToNat, Int.reduceEq, Int.reduceNe, Int.reduceLT, Int.reduceLE, Int.reduceGT, Int.reduceGE, Int.reduceBEq, Int.reduceBNe, Int.reduceAdd, Int.reduceSub, Int.reduceMul, Int.reduceNeg, evM, nilV, extrV, binV, binI, binS, unV, convV, mkIfV, loadV, rdN, storeV, fieldAddrV, idxAddrV, idxV, fieldV, partV, lenV, capV, sliceV, bndV, stO, wrL, unfr, oneC, Value.cells, ptrV, eqD, tasV, buildV, bslL, buildL, setL, zrepL, eqL, leafEq])
          ((refine hK _ _ ?_); clear hK K)
          (repeat refine HW.seqL ?_); first | refine HW.ite rfl (fun hb => ?_) (fun hb => ?_) | refine HW.iteS rfl (fun hb => ?_) (fun hb => ?_)
          · refine HW.exit ?_
            (repeat (first | (with_reducible refine Seq.ret ?_) | (with_reducible refine Blk.ret ?_) | (with_reducible refine Blk.here ?_) | (with_reducible refine Seq.exit ?_) | (with_reducible refine Blk.out (by decide) ?_) | (with_reducible refine Blk.normal ?_) | (with_reducible refine Seq.normal ?_)))
            have hst := dn_stop hu1 (fun k k0 kn kp => by
              have h3 := hjs k k0 kn kp
              have h4 : ltE (a1 j) (a1 i) = false := by simpa using hb
              rw [ltE_no] at h3 h4 ⊢
              omega)
            exact ⟨(a1, i), ⟨hd1, hii, hi, hst.1, hst.2⟩, rfl, rfl, trivial⟩
          · refine HW.skip ?_
            (repeat (first | (with_reducible refine Seq.ret ?_) | (with_reducible refine Blk.ret ?_) | (with_reducible refine Blk.here ?_) | (with_reducible refine Seq.exit ?_) | (with_reducible refine Blk.out (by decide) ?_) | (with_reducible refine Blk.normal ?_) | (with_reducible refine Seq.normal ?_)))
            have hl : ltE (a1 j) (a1 i) = true := by simpa using hb
            (repeat refine HW.seqL ?_); refine HW.seqR rfl (fun K hK => ?_)
            simp -implicitDefEqProofs only [↓XA, XB, XC, TF, UF, exists_eq_left', exists_eq_left, exists_eq_right, implies_true, forall_const, ↓reduceIte, reduceCtorEq, Nat.reduceLeDiff, Nat.reduceLT, Nat.reduceAdd, Nat.reduceMul, Nat.reduceEqDiff, Nat.reduceBEq, Nat.reduceSub, Int.reduceToNat, Int.reduceEq, Int.reduceNe, Int.reduceLT, Int.reduceLE, Int.reduceGT, Int.reduceGE, Int.reduceBEq, Int.reduceBNe, Int.reduceAdd, Int.reduceSub, Int.reduceMul, Int.reduceNeg, evM, nilV, extrV, binV, binI, binS, unV, convV, mkIfV, loadV, rdN, storeV, fieldAddrV, idxAddrV, idxV, fieldV, partV, lenV, capV, sliceV, bndV, stO, wrL, unfr, oneC, Value.cells, ptrV, eqD, tasV, buildV, bslL, buildL, setL, zrepL, eqL, leafEq]
            refine hd1.hd.swap (by omega) (by omega) (by omega) (fun v h3 hd3 hf3 hs3 => ?_)
            (try simp -implicitDefEqProofs only [↓XA, XB, XC, TF, UF, exists_eq_left', exists_eq_left, exists_eq_right, implies_true, forall_const, ↓reduceIte, reduceCtorEq, Nat.reduceLeDiff, Nat.reduceLT, Nat.reduceAdd, Nat.reduceMul, Nat.reduceEqDiff, Nat.reduceBEq, Nat.reduceSub, Int.reduceToNat, Int.reduceEq, Int.reduceNe, Int.reduceLT, Int.reduceLE, Int.reduceGT, Int.reduceGE, Int.reduceBEq, Int.reduceBNe, Int.reduceAdd, Int.reduceSub, Int.reduceMul, Int.reduceNeg, evM, nilV, extrV, binV, binI, binS, unV, convV, mkIfV, loadV, rdN, storeV, fieldAddrV, idxAddrV, idxV, fieldV, partV, lenV, capV, sliceV, bndV, stO, wrL, unfr, oneC, Value.cells, ptrV, eqD, tasV, buildV, bslL, buildL, setL, zrepL, eqL, leafEq])
            ((refine hK _ _ ?_); clear hK K)
            refine HW.rgnK rfl (fun K hK => ?_)
            simp -implicitDefEqProofs only [↓XA, XB, XC, TF, UF, exists_eq_left', exists_eq_left, exists_eq_right, implies_true, forall_const, ↓reduceIte, reduceCtorEq, Nat.reduceLeDiff, Nat.reduceLT, Nat.reduceAdd, Nat.reduceMul, Nat.reduceEqDiff, Nat.reduceBEq, Nat.reduceSub, Int.reduceToNat, Int.reduceEq, Int.reduceNe, Int.reduceLT, Int.reduceLE, Int.reduceGT, Int.reduceGE, Int.reduceBEq, Int.reduceBNe, Int.reduceAdd, Int.reduceSub, Int.reduceMul, Int.reduceNeg, evM, nilV, extrV, binV, binI, binS, unV, convV, mkIfV, loadV, rdN, storeV, fieldAddrV, idxAddrV, idxV, fieldV, partV, lenV, capV, sliceV, bndV, stO, wrL, unfr, oneC, Value.cells, ptrV, eqD, tasV, buildV, bslL, buildL, setL, zrepL, eqL, leafEq]
            ((refine hK _ _ ?_); clear hK K)
            (repeat (first | (with_reducible refine Seq.ret ?_) | (with_reducible refine Blk.ret ?_) | (with_reducible refine Blk.here ?_) | (with_reducible refine Seq.exit ?_) | (with_reducible refine Blk.out (by decide) ?_) | (with_reducible refine Blk.normal ?_) | (with_reducible refine Seq.normal ?_)))
            refine ⟨(swp a1 i j, j), by simp only; omega, ⟨hd1.trans ⟨hd3, hf3, hs3, hm, Moved.swp hi hj⟩, by omega, hj, dn_step hu1 hj hjp hj0 hl hjs hii⟩, rfl, rfl, rfl, rfl, trivial⟩
  · rintro ⟨a1, i⟩ h1 ⟨hd1, hii, hi, hA, hB⟩
    simp only at hd1 hii hi hA hB
    simp only [List.zip_cons_cons, List.zip_nil_left]
    (repeat refine HW.seqL ?_); refine HW.seqR rfl (fun K hK => ?_)
    simp -implicitDefEqProofs only [↓XA, XB, XC, TF, UF, exists_eq_left', exists_eq_left, exists_eq_right, implies_true, forall_const, ↓reduceIte, reduceCtorEq, Nat.reduceLeDiff, Nat.reduceLT, Nat.reduceAdd, Nat.reduceMul, Nat.reduceEqDiff, Nat.reduceBEq, Nat.reduceSub, Int.reduceToNat, Int.reduceEq, Int.reduceNe, Int.reduceLT, Int.reduceLE, Int.reduceGT, Int.reduceGE, Int.reduceBEq, Int.reduceBNe, Int.reduceAdd, Int.reduceSub, Int.reduceMul, Int.reduceNeg, evM, nilV, extrV, binV, binI, binS, unV, convV, mkIfV, loadV, rdN, storeV, fieldAddrV, idxAddrV, idxV, fieldV, partV, lenV, capV, sliceV, bndV, stO, wrL, unfr, oneC, Value.cells, ptrV, eqD, tasV, buildV, bslL, buildL, setL, zrepL, eqL, leafEq]
    ((refine hK _ _ ?_); clear hK K)
    ((refine HW.ret ?_); (repeat (first | (with_reducible refine Seq.ret ?_) | (with_reducible refine Blk.ret ?_))); (refine RetK.one rfl ?_))
    refine ⟨a1, _, rfl, hd1, fun e => hA ?_, fun e => hB ?_⟩
    · have := of_decide_eq_true e; omega
    · have := of_decide_eq_false e; omega
end Go.Proofs.Ytiiglipmekeikaa
