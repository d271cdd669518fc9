/- The alarms' heap: a row of entries, what it says, and the methods that container/heap calls. -/
import Derived.Test.YtiiglipmekeikaaFacts
import Derived.Test.YtiiglipmekeikaaHxApp
import Derived.Test.YtiiglipmekeikaaAP
set_option linter.unusedVariables false
set_option linter.unusedSimpArgs false
namespace Go.Proofs.Ytiiglipmekeikaa
open Go.Hx

/-- All but the blocks of F stays. -/
def Fr (F : Nat → Prop) (h h' : Hp) : Prop := ∀ b o, h b = some o → ¬ F b → h' b = some o
theorem Fr.refl (F : Nat → Prop) (h : Hp) : Fr F h h := fun _ _ e _ => e
theorem Fr.trans {F : Nat → Prop} {h h' h'' : Hp} (h1 : Fr F h h') (h2 : Fr F h' h'') : Fr F h h'' := fun b o e n => h2 b o (h1 b o e n) n
theorem Fr.upd {F : Nat → Prop} {h h' : Hp} {b : Nat} {o : Obj} (h1 : Fr F h h') (hb : F b ∨ h b = none) : Fr F h (upd h' b o) := by
  intro c oc e n
  rw [upd_apply]
  split
  · rename_i e2
    subst e2
    rcases hb with hb | hb
    · exact absurd hb n
    · rw [hb] at e; cases e
  · exact h1 c oc e n
theorem Fr.mono {F F' : Nat → Prop} {h h' : Hp} (h1 : Fr F h h') (hF : ∀ b, F b → F' b) : Fr F' h h' := fun b o e n => h1 b o e fun f => n (hF b f)

def entO (x : E) (i : Int) : Obj := .cells [Value.int .i64 x.at_, .int .i64 x.id, .int .i64 i].toArray 57 (0, 0)
abbrev ptr (b : Nat) : Value := .pointer (some ⟨b, 0, none⟩)
/-- A row of entries: n of them, in block rb. -/
structure Row (h : Hp) (rb cap : Nat) (a : Nat → E) (n : Nat) : Prop where
  le : n ≤ cap
  blk : ∃ cs : Array Value, h rb = some (.cells cs 55 (0, 0)) ∧ cap ≤ cs.size ∧ ∀ i, i < n → cs[i]? = some (ptr (a i).b)
  ent : ∀ i, i < n → h (a i).b = some (entO (a i) i)
  inj : ∀ i j, i < n → j < n → (a i).b = (a j).b → i = j
theorem Row.ne {h : Hp} {rb cap : Nat} {a : Nat → E} {n : Nat} (hr : Row h rb cap a n) {i : Nat} (hi : i < n) : (a i).b ≠ rb := by
  intro e
  obtain ⟨cs, h1, _⟩ := hr.blk
  have := hr.ent i hi
  rw [e, h1] at this
  simp [entO] at this

theorem rlen_ok {h : Hp} (s : Option Addr) (n cap : Nat) :
    CallK Try.prog 39 [.slice s n cap] h fun v h' => v = .int .i64 n ∧ h' = h := by
  refine CallK.of Try.func39 (by kernel_rfl) rfl Try.ntmps39 (rs := _) Try.results39 (by simp) ?_; simp only [envOf, Nat.zero_add, Nat.reduceAdd]
  (repeat refine HW.seqL ?_); refine HW.seqR rfl (fun K hK => ?_)
  simp -implicitDefEqProofs only [↓XA, XB, XC, TF, UF, exists_eq_left', exists_eq_left, exists_eq_right, implies_true, forall_const, ↓reduceIte, reduceCtorEq, Nat.reduceLeDiff, Nat.reduceLT, Nat.reduceAdd, Nat.reduceMul, Nat.reduceEqDiff, Nat.reduceBEq, Nat.reduceSub, Int.reduceToNat, Int.reduceEq, Int.reduceNe, Int.reduceLT, Int.reduceLE, Int.reduceGT, Int.reduceGE, Int.reduceBEq, Int.reduceBNe, Int.reduceAdd, Int.reduceSub, Int.reduceMul, Int.reduceNeg, evM, nilV, extrV, binV, binI, binS, unV, convV, mkIfV, loadV, rdN, storeV, fieldAddrV, idxAddrV, idxV, fieldV, partV, lenV, capV, sliceV, bndV, stO, wrL, unfr, oneC, Value.cells, ptrV, eqD, tasV, buildV, bslL, buildL, setL, zrepL, eqL, leafEq]
  ((refine hK _ _ ?_); clear hK K)
  (repeat refine HW.seqL ?_); refine HW.seqR rfl (fun K hK => ?_)
  simp -implicitDefEqProofs only [↓XA, XB, XC, TF, UF, exists_eq_left', exists_eq_left, exists_eq_right, implies_true, forall_const, ↓reduceIte, reduceCtorEq, Nat.reduceLeDiff, Nat.reduceLT, Nat.reduceAdd, Nat.reduceMul, Nat.reduceEqDiff, Nat.reduceBEq, Nat.reduceSub, Int.reduceToNat, Int.reduceEq, Int.reduceNe, Int.reduceLT, Int.reduceLE, Int.reduceGT, Int.reduceGE, Int.reduceBEq, Int.reduceBNe, Int.reduceAdd, Int.reduceSub, Int.reduceMul, Int.reduceNeg, evM, nilV, extrV, binV, binI, binS, unV, convV, mkIfV, loadV, rdN, storeV, fieldAddrV, idxAddrV, idxV, fieldV, partV, lenV, capV, sliceV, bndV, stO, wrL, unfr, oneC, Value.cells, ptrV, eqD, tasV, buildV, bslL, buildL, setL, zrepL, eqL, leafEq]
  ((refine hK _ _ ?_); clear hK K)
  ((refine HW.ret ?_); (repeat (first | (with_reducible refine Seq.ret ?_) | (with_reducible refine Blk.ret ?_))); (refine RetK.one rfl ?_))
  exact ⟨rfl, rfl⟩

theorem less_ok {h : Hp} {rb cap n : Nat} {a : Nat → E} (hr : Row h rb cap a n) (i j : Nat) (hi : i < n) (hj : j < n) :
    CallK Try.prog 40 [.slice (some ⟨rb, 0, none⟩) n cap, .int .i64 i, .int .i64 j] h fun v h' => v = .bool (ltE (a i) (a j)) ∧ h' = h := by
  have hi' : (i : Int) < n := by omega
  have hj' : (j : Int) < n := by omega
  obtain ⟨cs, hB, hc, hcell⟩ := hr.blk
  have c1 := hcell i hi
  have c2 := hcell j hj
  have e1 := hr.ent i hi
  have e2 := hr.ent j hj
  simp only [ptr, entO] at c1 c2 e1 e2
  refine CallK.of Try.func40 (by kernel_rfl) rfl Try.ntmps40 (rs := _) Try.results40 (by simp) ?_; simp only [envOf, Nat.zero_add, Nat.reduceAdd]
  (repeat refine HW.seqL ?_); refine HW.seqR rfl (fun K hK => ?_)
  simp -implicitDefEqProofs only [↓XA, XB, XC, TF, UF, exists_eq_left', exists_eq_left, exists_eq_right, implies_true, forall_const, ↓reduceIte, reduceCtorEq, Nat.reduceLeDiff, Nat.reduceLT, Nat.reduceAdd, Nat.reduceMul, Nat.reduceEqDiff, Nat.reduceBEq, Nat.reduceSub, Int.reduceToNat, Int.reduceEq, Int.reduceNe, Int.reduceLT, Int.reduceLE, Int.reduceGT, Int.reduceGE, Int.reduceBEq, Int.reduceBNe, Int.reduceAdd, Int.reduceSub, Int.reduceMul, Int.reduceNeg, evM, nilV, extrV, binV, binI, binS, unV, convV, mkIfV, loadV, rdN, storeV, fieldAddrV, idxAddrV, idxV, fieldV, partV, lenV, capV, sliceV, bndV, stO, wrL, unfr, oneC, Value.cells, ptrV, eqD, tasV, buildV, bslL, buildL, setL, zrepL, eqL, leafEq]
  ((refine hK _ _ ?_); clear hK K)
  (repeat refine HW.seqL ?_); refine HW.seqD (by kernel_rfl) (by rfl) [(0, [], []), (1, [], []), (2, [], []), (3, [], []), (4, [], []), (5, [], []), (6, [], []), (7, [], []), (8, [], []), (9, [], []), (10, [], []), (11, [], []), (12, [], []), (13, [], []), (14, [], [])] (by kernel_rfl) (by rfl) (fun K hK => ?_)
  simp -implicitDefEqProofs only [↓XA, XB, XC, TF, UF, exists_eq_left', exists_eq_left, exists_eq_right, implies_true, forall_const, ↓reduceIte, reduceCtorEq, Nat.reduceLeDiff, Nat.reduceLT, Nat.reduceAdd, Nat.reduceMul, Nat.reduceEqDiff, Nat.reduceBEq, Nat.reduceSub, Int.reduceToNat, Int.reduceEq, Int.reduceNe, Int.reduceLT, Int.reduceLE, Int.reduceGT, Int.reduceGE, Int.reduceBEq, Int.reduceBNe, Int.reduceAdd, Int.reduceSub, Int.reduceMul, Int.reduceNeg, evM, nilV, extrV, binV, binI, binS, unV, convV, mkIfV, loadV, rdN, storeV, fieldAddrV, idxAddrV, idxV, fieldV, partV, lenV, capV, sliceV, bndV, stO, wrL, unfr, oneC, Value.cells, ptrV, eqD, tasV, buildV, bslL, buildL, setL, zrepL, eqL, leafEq, hB, c1, c2, e1, e2, hi', hj']
  ((refine hK _ _ ?_); clear hK K)
  (repeat refine HW.seqL ?_); first | refine HW.ite rfl (fun hb => ?_) (fun hb => ?_) | refine HW.iteS rfl (fun hb => ?_) (fun hb => ?_)
  · (repeat refine HW.seqL ?_); refine HW.seqD (by kernel_rfl) (by rfl) [(0, [], []), (1, [], []), (2, [], []), (3, [], []), (4, [], []), (5, [], []), (6, [], []), (7, [], []), (8, [], []), (9, [], []), (10, [], []), (11, [], []), (12, [], []), (13, [], []), (14, [], []), (15, [], [14, 0, 1, 2, 3, 4, 5, 6, 7, 8, 9, 10, 11, 12, 13])] (by kernel_rfl) (by rfl) (fun K hK => ?_)
    simp -implicitDefEqProofs only [↓XA, XB, XC, TF, UF, exists_eq_left', exists_eq_left, exists_eq_right, implies_true, forall_const, ↓reduceIte, reduceCtorEq, Nat.reduceLeDiff, Nat.reduceLT, Nat.reduceAdd, Nat.reduceMul, Nat.reduceEqDiff, Nat.reduceBEq, Nat.reduceSub, Int.reduceToNat, Int.reduceEq, Int.reduceNe, Int.reduceLT, Int.reduceLE, Int.reduceGT, Int.reduceGE, Int.reduceBEq, Int.reduceBNe, Int.reduceAdd, Int.reduceSub, Int.reduceMul, Int.reduceNeg, evM, nilV, extrV, binV, binI, binS, unV, convV, mkIfV, loadV, rdN, storeV, fieldAddrV, idxAddrV, idxV, fieldV, partV, lenV, capV, sliceV, bndV, stO, wrL, unfr, oneC, Value.cells, ptrV, eqD, tasV, buildV, bslL, buildL, setL, zrepL, eqL, leafEq, hB, c1, c2, e1, e2, hi', hj']
    ((refine hK _ _ ?_); clear hK K)
    ((refine HW.ret ?_); (repeat (first | (with_reducible refine Seq.ret ?_) | (with_reducible refine Blk.ret ?_))); (refine RetK.one rfl ?_))
    exact ⟨by simp only [ltE, hb, if_true], rfl⟩
  · refine HW.skip ?_
    (repeat (first | (with_reducible refine Seq.ret ?_) | (with_reducible refine Blk.ret ?_) | (with_reducible refine Blk.here ?_) | (with_reducible refine Seq.exit ?_) | (with_reducible refine Blk.out (by decide) ?_) | (with_reducible refine Blk.normal ?_) | (with_reducible refine Seq.normal ?_)))
    (repeat refine HW.seqL ?_); refine HW.seqD (by kernel_rfl) (by rfl) [(0, [], []), (1, [], []), (2, [], []), (3, [], []), (4, [], []), (5, [], []), (6, [], []), (7, [], []), (8, [], []), (9, [], []), (10, [], []), (11, [], []), (12, [], []), (13, [], []), (14, [], []), (15, [], [14, 0, 1, 2, 3, 4, 5, 6, 7, 8, 9, 10, 11, 12, 13])] (by kernel_rfl) (by rfl) (fun K hK => ?_)
    simp -implicitDefEqProofs only [↓XA, XB, XC, TF, UF, exists_eq_left', exists_eq_left, exists_eq_right, implies_true, forall_const, ↓reduceIte, reduceCtorEq, Nat.reduceLeDiff, Nat.reduceLT, Nat.reduceAdd, Nat.reduceMul, Nat.reduceEqDiff, Nat.reduceBEq, Nat.reduceSub, Int.reduceToNat, Int.reduceEq, Int.reduceNe, Int.reduceLT, Int.reduceLE, Int.reduceGT, Int.reduceGE, Int.reduceBEq, Int.reduceBNe, Int.reduceAdd, Int.reduceSub, Int.reduceMul, Int.reduceNeg, evM, nilV, extrV, binV, binI, binS, unV, convV, mkIfV, loadV, rdN, storeV, fieldAddrV, idxAddrV, idxV, fieldV, partV, lenV, capV, sliceV, bndV, stO, wrL, unfr, oneC, Value.cells, ptrV, eqD, tasV, buildV, bslL, buildL, setL, zrepL, eqL, leafEq, hB, c1, c2, e1, e2, hi', hj']
    ((refine hK _ _ ?_); clear hK K)
    ((refine HW.ret ?_); (repeat (first | (with_reducible refine Seq.ret ?_) | (with_reducible refine Blk.ret ?_))); (refine RetK.one rfl ?_))
    exact ⟨by simp only [ltE, hb, Bool.false_eq_true, if_false], rfl⟩

theorem swap_ok {h : Hp} {rb cap n : Nat} {a : Nat → E} (hr : Row h rb cap a n) (i j : Nat) (hi : i < n) (hj : j < n) (hne : i ≠ j) :
    CallK Try.prog 41 [.slice (some ⟨rb, 0, none⟩) n cap, .int .i64 i, .int .i64 j] h fun v h' => Row h' rb cap (swp a i j) n ∧ Fr (fun b => b = rb ∨ ∃ k, k < n ∧ b = (a k).b) h h' ∧ ∀ b, h b = none → h' b = none := by
  have hi' : (i : Int) < n := by omega
  have hj' : (j : Int) < n := by omega
  obtain ⟨cs, hB, hc, hcell⟩ := hr.blk
  have hle := hr.le
  have c1 := hcell i hi
  have c2 := hcell j hj
  have e1 := hr.ent i hi
  have e2 := hr.ent j hj
  have n1 := hr.ne hi
  have n2 := hr.ne hj
  have n3 : (a i).b ≠ (a j).b := fun e => hne (hr.inj i j hi hj e)
  have l1 : i + 1 ≤ cs.size := by omega
  have l2 : j + 1 ≤ (cs.setIfInBounds i (ptr (a j).b)).size := by simp; omega
  simp only [ptr, entO] at c1 c2 e1 e2 l2
  refine CallK.of Try.func41 (by kernel_rfl) rfl Try.ntmps41 (rs := _) Try.results41 (by simp) ?_; simp only [envOf, Nat.zero_add, Nat.reduceAdd]
  (repeat refine HW.seqL ?_); refine HW.seqD (by kernel_rfl) (by rfl) [(0, [], []), (1, [], []), (2, [], []), (3, [], []), (4, [], []), (5, [], []), (6, [], []), (7, [], []), (8, [], []), (9, [], []), (10, [], []), (11, [], []), (12, [], []), (13, [2, 3], [12, 7, 0, 1, 4, 5, 6, 11, 10, 8, 9]), (14, [], []), (15, [], [14, 11, 13, 0, 1, 2, 3, 4, 5, 6, 7, 8, 9, 10, 12])] (by kernel_rfl) (by rfl) (fun K hK => ?_)
  simp -implicitDefEqProofs only [↓XA, XB, XC, TF, UF, exists_eq_left', exists_eq_left, exists_eq_right, implies_true, forall_const, ↓reduceIte, reduceCtorEq, Nat.reduceLeDiff, Nat.reduceLT, Nat.reduceAdd, Nat.reduceMul, Nat.reduceEqDiff, Nat.reduceBEq, Nat.reduceSub, Int.reduceToNat, Int.reduceEq, Int.reduceNe, Int.reduceLT, Int.reduceLE, Int.reduceGT, Int.reduceGE, Int.reduceBEq, Int.reduceBNe, Int.reduceAdd, Int.reduceSub, Int.reduceMul, Int.reduceNeg, evM, nilV, extrV, binV, binI, binS, unV, convV, mkIfV, loadV, rdN, storeV, fieldAddrV, idxAddrV, idxV, fieldV, partV, lenV, capV, sliceV, bndV, stO, wrL, unfr, oneC, Value.cells, ptrV, eqD, tasV, buildV, bslL, buildL, setL, zrepL, eqL, leafEq, hB, c1, c2, hi', hj', l1, l2]
  ((refine hK _ _ ?_); clear hK K)
  obtain ⟨cs2, hcs2⟩ : ∃ cs2, cs2 = (cs.setIfInBounds i (Value.pointer (some ⟨(a j).b, 0, none⟩))).setIfInBounds j (Value.pointer (some ⟨(a i).b, 0, none⟩)) := ⟨_, rfl⟩
  rw [← hcs2]
  have hsz : cs2.size = cs.size := by rw [hcs2]; simp
  have get2 : ∀ k, k < n → cs2[k]? = some (ptr (swp a i j k).b) := by
    intro k hk
    rw [hcs2]
    simp only [Array.getElem?_setIfInBounds, Array.size_setIfInBounds, swp]
    by_cases e1 : j = k
    · subst e1
      rw [if_pos rfl, if_pos (by omega), if_neg (fun e => hne e.symm), if_pos rfl]
    · rw [if_neg e1]
      by_cases e2 : i = k
      · subst e2
        rw [if_pos rfl, if_pos (by omega), if_pos rfl]
      · rw [if_neg e2, if_neg (fun e => e2 e.symm), if_neg (fun e => e1 e.symm)]
        exact hcell k hk
  have d1 := get2 i hi
  have d2 := get2 j hj
  have s1 : swp a i j i = a j := by simp [swp]
  have s2 : swp a i j j = a i := by simp [swp, hne.symm]
  rw [s1] at d1
  rw [s2] at d2
  simp only [ptr] at d1 d2
  clear hcs2
  (repeat refine HW.seqL ?_); refine HW.drawnK (by kernel_rfl) (by rfl) [(0, [], []), (1, [], []), (2, [], []), (3, [], []), (4, [], []), (5, [], []), (6, [], []), (7, [], []), (8, [], []), (9, [], []), (10, [], []), (11, [], []), (12, [9], [11, 8, 0, 1, 2, 3, 7, 10, 6, 4, 5]), (13, [], []), (14, [], []), (15, [], [14, 9, 12, 0, 1, 2, 3, 4, 5, 6, 7, 8, 10, 11, 13])] (by kernel_rfl) (by rfl) (fun K hK => ?_)
  simp -implicitDefEqProofs only [↓XA, XB, XC, TF, UF, exists_eq_left', exists_eq_left, exists_eq_right, implies_true, forall_const, ↓reduceIte, reduceCtorEq, Nat.reduceLeDiff, Nat.reduceLT, Nat.reduceAdd, Nat.reduceMul, Nat.reduceEqDiff, Nat.reduceBEq, Nat.reduceSub, Int.reduceToNat, Int.reduceEq, Int.reduceNe, Int.reduceLT, Int.reduceLE, Int.reduceGT, Int.reduceGE, Int.reduceBEq, Int.reduceBNe, Int.reduceAdd, Int.reduceSub, Int.reduceMul, Int.reduceNeg, evM, nilV, extrV, binV, binI, binS, unV, convV, mkIfV, loadV, rdN, storeV, fieldAddrV, idxAddrV, idxV, fieldV, partV, lenV, capV, sliceV, bndV, stO, wrL, unfr, oneC, Value.cells, ptrV, eqD, tasV, buildV, bslL, buildL, setL, zrepL, eqL, leafEq, hB, d1, d2, e1, e2, n1, n2, n3, n3.symm, hi', hj', l1, l2]
  ((refine hK _ _ ?_); clear hK K)
  refine RetK.nilN ⟨⟨hle, ⟨cs2, ?_, by omega, get2⟩, ?_, ?_⟩, ?_, ?_⟩
  · simp only [upd_apply, if_neg n1.symm, if_neg n2.symm, if_true]
  · intro k hk
    simp only [upd_apply]
    by_cases ei : k = i
    · subst ei
      rw [s1, if_neg n3.symm, if_pos rfl]
      rfl
    · by_cases ej : k = j
      · subst ej
        rw [s2, if_pos rfl]
        rfl
      · have hs : swp a i j k = a k := by simp [swp, ei, ej]
        rw [hs, if_neg (fun e => ei (hr.inj k i hk hi e)), if_neg (fun e => ej (hr.inj k j hk hj e)), if_neg (hr.ne hk)]
        exact hr.ent k hk
  · intro k l hk hl e
    simp only [swp] at e
    have := hr.inj
    repeat' split at e
    all_goals first | omega | (have := hr.inj _ _ ‹_› ‹_› e; omega) | (have := hr.inj _ _ hi hj e; omega) | (have := hr.inj _ _ hj hi e; omega) | (have := hr.inj _ _ hj hl e; omega) | (have := hr.inj _ _ hi hl e; omega) | (have := hr.inj _ _ hk hj e; omega) | (have := hr.inj _ _ hk hi e; omega) | (have := hr.inj _ _ hk hl e; omega)
  · refine (((Fr.refl _ h).upd (.inl (.inl rfl))).upd ?_).upd ?_
    · exact .inl (.inr ⟨j, hj, rfl⟩)
    · exact .inl (.inr ⟨i, hi, rfl⟩)
  · intro b hbn
    simp only [upd_apply]
    rw [if_neg (fun e => by subst e; rw [e1] at hbn; cases hbn), if_neg (fun e => by subst e; rw [e2] at hbn; cases hbn), if_neg (fun e => by subst e; rw [hB] at hbn; cases hbn)]
    exact hbn
end Go.Proofs.Ytiiglipmekeikaa
