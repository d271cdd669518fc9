/- What rings, told twice, is told alike; the first answers. -/
import Derived.Test.YtiiglipmekeikaaA5
set_option linter.unusedVariables false
set_option linter.unusedSimpArgs false
namespace Go.Proofs.Ytiiglipmekeikaa
open Go.Hx

theorem First.det {S : Al} {k t k' t' : Int} (h1 : First S k t) (h2 : First S k' t') : k = k' ∧ t = t' := by
  have a := h1.2 k' t' h2.1
  have b := h2.2 k t h1.1
  omega
theorem Rings.det {S : Al} {n : Nat} {now : Int} {xs : List Int} {S1 : Al} {n1 : Nat} (h1 : Rings S n now xs S1 n1) : ∀ {ys : List Int} {S2 : Al} {n2 : Nat}, Rings S n now ys S2 n2 → xs.length = ys.length → xs = ys ∧ S1 = S2 ∧ n1 = n2 := by
  induction h1 with
  | nil =>
    intro ys S2 n2 h2 hl
    cases h2 with
    | nil => exact ⟨rfl, rfl, rfl⟩
    | snoc a b c d => simp at hl
  | @snoc xs S1 n1 k t a b c d ih =>
    intro ys S2 n2 h2 hl
    cases h2 with
    | nil => simp at hl
    | @snoc ys S2 n2 k' t' a' b' c' d' =>
      simp at hl
      obtain ⟨rfl, rfl, rfl⟩ := ih a' hl
      obtain ⟨rfl, rfl⟩ := b.det b'
      exact ⟨rfl, rfl, rfl⟩
theorem Rings.pre {S : Al} {n : Nat} {now : Int} {ys : List Int} {S2 : Al} {n2 : Nat} (h : Rings S n now ys S2 n2) : ∀ j, j < ys.length → ∃ xs S1 n1 k t, Rings S n now xs S1 n1 ∧ xs.length = j ∧ First S1 k t ∧ t ≤ now := by
  induction h with
  | nil => intro j hj; simp at hj
  | @snoc xs S1 n1 k t a b c d ih =>
    intro j hj
    by_cases e : j = xs.length
    · exact ⟨xs, S1, n1, k, t, a, e.symm, b, c⟩
    · exact ih j (by simp at hj; omega)
theorem Rings.uniq {S : Al} {n : Nat} {now : Int} {xs ys : List Int} {S1 S2 : Al} {n1 n2 : Nat} (h1 : Rings S n now xs S1 n1) (q1 : Still2 now S1) (h2 : Rings S n now ys S2 n2) (q2 : Still2 now S2) : xs = ys ∧ S1 = S2 ∧ n1 = n2 := by
  rcases Nat.lt_trichotomy xs.length ys.length with h | h | h
  · obtain ⟨zs, S3, n3, k, t, a, b, c, d⟩ := h2.pre _ h
    obtain ⟨rfl, rfl, rfl⟩ := h1.det a b.symm
    have := q1 k t c.1
    omega
  · exact h1.det h2 h
  · obtain ⟨zs, S3, n3, k, t, a, b, c, d⟩ := h1.pre _ h
    obtain ⟨rfl, rfl, rfl⟩ := h2.det a b.symm
    have := q2 k t c.1
    omega
theorem Rings.spec {S : Al} {n : Nat} {now : Int} {xs : List Int} {S1 : Al} {n1 : Nat} (h : Rings S n now xs S1 n1) : xs.Nodup ∧ (∀ k, S1 k = if k ∈ xs then none else S k) ∧ ∀ k, k ∈ xs → ∃ t, S k = some t ∧ t ≤ now := by
  induction h with
  | nil => exact ⟨List.nodup_nil, fun k => by simp, fun k hk => by simp at hk⟩
  | @snoc xs S1 n1 k t a b c d ih =>
    obtain ⟨i1, i2, i3⟩ := ih
    have hk : k ∉ xs := by
      intro e
      have := i2 k
      rw [if_pos e, b.1] at this; cases this
    have hs : S k = some t := by
      have := i2 k
      rw [if_neg hk, b.1] at this; exact this.symm
    refine ⟨?_, ?_, ?_⟩
    · rw [List.nodup_append]
      refine ⟨i1, by simp, ?_⟩
      intro a ha b hb
      simp at hb
      subst hb
      rintro rfl
      exact hk ha
    · intro k'
      unfold put
      rw [i2 k']
      by_cases e : k' = k
      · simp [e]
      · simp [e]
    · intro k' hk'
      simp at hk'
      rcases hk' with e | e
      · exact i3 k' e
      · rw [e]; exact ⟨t, hs, c⟩

theorem Step.keep {F F' : Nat → Prop} {h0 h h' : Hp} (s : Step F F' h h') (k : Keep h0 h) (hf : ∀ b, F b → h0 b = none) : Keep h0 h' ∧ ∀ b, F' b → h0 b = none := by
  refine ⟨?_, ?_⟩
  · intro b o e
    refine s.1 b o (k b o e) ?_
    intro f
    rw [hf b f] at e; cases e
  · intro b f
    rcases s.2 b f with f | f
    · exact hf b f
    · exact k.none f

theorem awake_ok (h : Hp) : CallK Try.prog 6 [] h fun v h' => v = .bool true ∧ Keep h h' := by
  refine CallK.of Try.func6 (by kernel_rfl) rfl Try.ntmps6 (rs := _) Try.results6 (by simp) ?_; simp only [envOf, Nat.zero_add, Nat.reduceAdd]
  (repeat refine HW.seqL ?_); refine HW.seqR rfl (fun K hK => ?_)
  simp -implicitDefEqProofs only [↓XA, XB, XC, TF, UF, exists_eq_left', exists_eq_left, exists_eq_right, implies_true, forall_const, ↓reduceIte, reduceCtorEq, Nat.reduceLeDiff, Nat.reduceLT, Nat.reduceAdd, Nat.reduceMul, Nat.reduceEqDiff, Nat.reduceBEq, Nat.reduceSub, Int.reduceToNat, Int.reduceEq, Int.reduceNe, Int.reduceLT, Int.reduceLE, Int.reduceGT, Int.reduceGE, Int.reduceBEq, Int.reduceBNe, Int.reduceAdd, Int.reduceSub, Int.reduceMul, Int.reduceNeg, evM, nilV, extrV, binV, binI, binS, unV, convV, mkIfV, loadV, rdN, storeV, fieldAddrV, idxAddrV, idxV, fieldV, partV, lenV, capV, sliceV, bndV, stO, wrL, unfr, oneC, Value.cells, ptrV, eqD, tasV, buildV, bslL, buildL, setL, zrepL, eqL, leafEq]
  ((refine hK _ _ ?_); clear hK K)
  (repeat refine HW.seqL ?_); refine HW.seqR rfl (fun K hK => ?_)
  simp -implicitDefEqProofs only [↓XA, XB, XC, TF, UF, exists_eq_left', exists_eq_left, exists_eq_right, implies_true, forall_const, ↓reduceIte, reduceCtorEq, Nat.reduceLeDiff, Nat.reduceLT, Nat.reduceAdd, Nat.reduceMul, Nat.reduceEqDiff, Nat.reduceBEq, Nat.reduceSub, Int.reduceToNat, Int.reduceEq, Int.reduceNe, Int.reduceLT, Int.reduceLE, Int.reduceGT, Int.reduceGE, Int.reduceBEq, Int.reduceBNe, Int.reduceAdd, Int.reduceSub, Int.reduceMul, Int.reduceNeg, evM, nilV, extrV, binV, binI, binS, unV, convV, mkIfV, loadV, rdN, storeV, fieldAddrV, idxAddrV, idxV, fieldV, partV, lenV, capV, sliceV, bndV, stO, wrL, unfr, oneC, Value.cells, ptrV, eqD, tasV, buildV, bslL, buildL, setL, zrepL, eqL, leafEq]
  refine (new_ok h).mono ?_
  rintro v h1 ⟨c, F, rfl, hc, hk, hf⟩
  (try simp -implicitDefEqProofs only [↓XA, XB, XC, TF, UF, exists_eq_left', exists_eq_left, exists_eq_right, implies_true, forall_const, ↓reduceIte, reduceCtorEq, Nat.reduceLeDiff, Nat.reduceLT, Nat.reduceAdd, Nat.reduceMul, Nat.reduceEqDiff, Nat.reduceBEq, Nat.reduceSub, Int.reduceToNat, Int.reduceEq, Int.reduceNe, Int.reduceLT, Int.reduceLE, Int.reduceGT, Int.reduceGE, Int.reduceBEq, Int.reduceBNe, Int.reduceAdd, Int.reduceSub, Int.reduceMul, Int.reduceNeg, evM, nilV, extrV, binV, binI, binS, unV, convV, mkIfV, loadV, rdN, storeV, fieldAddrV, idxAddrV, idxV, fieldV, partV, lenV, capV, sliceV, bndV, stO, wrL, unfr, oneC, Value.cells, ptrV, eqD, tasV, buildV, bslL, buildL, setL, zrepL, eqL, leafEq])
  ((refine hK _ _ ?_); clear hK K)
  (repeat refine HW.seqL ?_); refine HW.seqR rfl (fun K hK => ?_)
  simp -implicitDefEqProofs only [↓XA, XB, XC, TF, UF, exists_eq_left', exists_eq_left, exists_eq_right, implies_true, forall_const, ↓reduceIte, reduceCtorEq, Nat.reduceLeDiff, Nat.reduceLT, Nat.reduceAdd, Nat.reduceMul, Nat.reduceEqDiff, Nat.reduceBEq, Nat.reduceSub, Int.reduceToNat, Int.reduceEq, Int.reduceNe, Int.reduceLT, Int.reduceLE, Int.reduceGT, Int.reduceGE, Int.reduceBEq, Int.reduceBNe, Int.reduceAdd, Int.reduceSub, Int.reduceMul, Int.reduceNeg, evM, nilV, extrV, binV, binI, binS, unV, convV, mkIfV, loadV, rdN, storeV, fieldAddrV, idxAddrV, idxV, fieldV, partV, lenV, capV, sliceV, bndV, stO, wrL, unfr, oneC, Value.cells, ptrV, eqD, tasV, buildV, bslL, buildL, setL, zrepL, eqL, leafEq]
  ((refine hK _ _ ?_); clear hK K)
  (repeat refine HW.seqL ?_); first | refine HW.ite rfl (fun hb => ?_) (fun hb => ?_) | refine HW.iteS rfl (fun hb => ?_) (fun hb => ?_)
  · cases hb
  · refine HW.skip ?_
    (repeat (first | (with_reducible refine Seq.ret ?_) | (with_reducible refine Blk.ret ?_) | (with_reducible refine Blk.here ?_) | (with_reducible refine Seq.exit ?_) | (with_reducible refine Blk.out (by decide) ?_) | (with_reducible refine Blk.normal ?_) | (with_reducible refine Seq.normal ?_)))
    (repeat refine HW.seqL ?_); refine HW.seqR rfl (fun K hK => ?_)
    simp -implicitDefEqProofs only [↓XA, XB, XC, TF, UF, exists_eq_left', exists_eq_left, exists_eq_right, implies_true, forall_const, ↓reduceIte, reduceCtorEq, Nat.reduceLeDiff, Nat.reduceLT, Nat.reduceAdd, Nat.reduceMul, Nat.reduceEqDiff, Nat.reduceBEq, Nat.reduceSub, Int.reduceToNat, Int.reduceEq, Int.reduceNe, Int.reduceLT, Int.reduceLE, Int.reduceGT, Int.reduceGE, Int.reduceBEq, Int.reduceBNe, Int.reduceAdd, Int.reduceSub, Int.reduceMul, Int.reduceNeg, evM, nilV, extrV, binV, binI, binS, unV, convV, mkIfV, loadV, rdN, storeV, fieldAddrV, idxAddrV, idxV, fieldV, partV, lenV, capV, sliceV, bndV, stO, wrL, unfr, oneC, Value.cells, ptrV, eqD, tasV, buildV, bslL, buildL, setL, zrepL, eqL, leafEq]
    refine (set_ok hc (by omega) 3 9 (by omega) (by omega)).mono ?_
    rintro v h2 ⟨rfl, F2, n2, hc2, hn2, hs2⟩
    (try simp -implicitDefEqProofs only [↓XA, XB, XC, TF, UF, exists_eq_left', exists_eq_left, exists_eq_right, implies_true, forall_const, ↓reduceIte, reduceCtorEq, Nat.reduceLeDiff, Nat.reduceLT, Nat.reduceAdd, Nat.reduceMul, Nat.reduceEqDiff, Nat.reduceBEq, Nat.reduceSub, Int.reduceToNat, Int.reduceEq, Int.reduceNe, Int.reduceLT, Int.reduceLE, Int.reduceGT, Int.reduceGE, Int.reduceBEq, Int.reduceBNe, Int.reduceAdd, Int.reduceSub, Int.reduceMul, Int.reduceNeg, evM, nilV, extrV, binV, binI, binS, unV, convV, mkIfV, loadV, rdN, storeV, fieldAddrV, idxAddrV, idxV, fieldV, partV, lenV, capV, sliceV, bndV, stO, wrL, unfr, oneC, Value.cells, ptrV, eqD, tasV, buildV, bslL, buildL, setL, zrepL, eqL, leafEq])
    ((refine hK _ _ ?_); clear hK K)
    rw [if_pos rfl] at hn2
    subst hn2
    obtain ⟨hk2, hf2⟩ := hs2.keep hk hf
    (repeat refine HW.seqL ?_); refine HW.seqR rfl (fun K hK => ?_)
    simp -implicitDefEqProofs only [↓XA, XB, XC, TF, UF, exists_eq_left', exists_eq_left, exists_eq_right, implies_true, forall_const, ↓reduceIte, reduceCtorEq, Nat.reduceLeDiff, Nat.reduceLT, Nat.reduceAdd, Nat.reduceMul, Nat.reduceEqDiff, Nat.reduceBEq, Nat.reduceSub, Int.reduceToNat, Int.reduceEq, Int.reduceNe, Int.reduceLT, Int.reduceLE, Int.reduceGT, Int.reduceGE, Int.reduceBEq, Int.reduceBNe, Int.reduceAdd, Int.reduceSub, Int.reduceMul, Int.reduceNeg, evM, nilV, extrV, binV, binI, binS, unV, convV, mkIfV, loadV, rdN, storeV, fieldAddrV, idxAddrV, idxV, fieldV, partV, lenV, capV, sliceV, bndV, stO, wrL, unfr, oneC, Value.cells, ptrV, eqD, tasV, buildV, bslL, buildL, setL, zrepL, eqL, leafEq]
    refine (set_ok hc2 (by omega) 1 9 (by omega) (by omega)).mono ?_
    rintro v h3 ⟨rfl, F3, n3, hc3, hn3, hs3⟩
    (try simp -implicitDefEqProofs only [↓XA, XB, XC, TF, UF, exists_eq_left', exists_eq_left, exists_eq_right, implies_true, forall_const, ↓reduceIte, reduceCtorEq, Nat.reduceLeDiff, Nat.reduceLT, Nat.reduceAdd, Nat.reduceMul, Nat.reduceEqDiff, Nat.reduceBEq, Nat.reduceSub, Int.reduceToNat, Int.reduceEq, Int.reduceNe, Int.reduceLT, Int.reduceLE, Int.reduceGT, Int.reduceGE, Int.reduceBEq, Int.reduceBNe, Int.reduceAdd, Int.reduceSub, Int.reduceMul, Int.reduceNeg, evM, nilV, extrV, binV, binI, binS, unV, convV, mkIfV, loadV, rdN, storeV, fieldAddrV, idxAddrV, idxV, fieldV, partV, lenV, capV, sliceV, bndV, stO, wrL, unfr, oneC, Value.cells, ptrV, eqD, tasV, buildV, bslL, buildL, setL, zrepL, eqL, leafEq])
    ((refine hK _ _ ?_); clear hK K)
    rw [if_pos (by simp [put])] at hn3
    subst hn3
    obtain ⟨hk3, hf3⟩ := hs3.keep hk2 hf2
    (repeat refine HW.seqL ?_); refine HW.seqR rfl (fun K hK => ?_)
    simp -implicitDefEqProofs only [↓XA, XB, XC, TF, UF, exists_eq_left', exists_eq_left, exists_eq_right, implies_true, forall_const, ↓reduceIte, reduceCtorEq, Nat.reduceLeDiff, Nat.reduceLT, Nat.reduceAdd, Nat.reduceMul, Nat.reduceEqDiff, Nat.reduceBEq, Nat.reduceSub, Int.reduceToNat, Int.reduceEq, Int.reduceNe, Int.reduceLT, Int.reduceLE, Int.reduceGT, Int.reduceGE, Int.reduceBEq, Int.reduceBNe, Int.reduceAdd, Int.reduceSub, Int.reduceMul, Int.reduceNeg, evM, nilV, extrV, binV, binI, binS, unV, convV, mkIfV, loadV, rdN, storeV, fieldAddrV, idxAddrV, idxV, fieldV, partV, lenV, capV, sliceV, bndV, stO, wrL, unfr, oneC, Value.cells, ptrV, eqD, tasV, buildV, bslL, buildL, setL, zrepL, eqL, leafEq]
    refine (set_ok hc3 (by omega) 2 5 (by omega) (by omega)).mono ?_
    rintro v h4 ⟨rfl, F4, n4, hc4, hn4, hs4⟩
    (try simp -implicitDefEqProofs only [↓XA, XB, XC, TF, UF, exists_eq_left', exists_eq_left, exists_eq_right, implies_true, forall_const, ↓reduceIte, reduceCtorEq, Nat.reduceLeDiff, Nat.reduceLT, Nat.reduceAdd, Nat.reduceMul, Nat.reduceEqDiff, Nat.reduceBEq, Nat.reduceSub, Int.reduceToNat, Int.reduceEq, Int.reduceNe, Int.reduceLT, Int.reduceLE, Int.reduceGT, Int.reduceGE, Int.reduceBEq, Int.reduceBNe, Int.reduceAdd, Int.reduceSub, Int.reduceMul, Int.reduceNeg, evM, nilV, extrV, binV, binI, binS, unV, convV, mkIfV, loadV, rdN, storeV, fieldAddrV, idxAddrV, idxV, fieldV, partV, lenV, capV, sliceV, bndV, stO, wrL, unfr, oneC, Value.cells, ptrV, eqD, tasV, buildV, bslL, buildL, setL, zrepL, eqL, leafEq])
    ((refine hK _ _ ?_); clear hK K)
    rw [if_pos (by simp [put])] at hn4
    subst hn4
    obtain ⟨hk4, hf4⟩ := hs4.keep hk3 hf3
    (repeat refine HW.seqL ?_); refine HW.seqR rfl (fun K hK => ?_)
    simp -implicitDefEqProofs only [↓XA, XB, XC, TF, UF, exists_eq_left', exists_eq_left, exists_eq_right, implies_true, forall_const, ↓reduceIte, reduceCtorEq, Nat.reduceLeDiff, Nat.reduceLT, Nat.reduceAdd, Nat.reduceMul, Nat.reduceEqDiff, Nat.reduceBEq, Nat.reduceSub, Int.reduceToNat, Int.reduceEq, Int.reduceNe, Int.reduceLT, Int.reduceLE, Int.reduceGT, Int.reduceGE, Int.reduceBEq, Int.reduceBNe, Int.reduceAdd, Int.reduceSub, Int.reduceMul, Int.reduceNeg, evM, nilV, extrV, binV, binI, binS, unV, convV, mkIfV, loadV, rdN, storeV, fieldAddrV, idxAddrV, idxV, fieldV, partV, lenV, capV, sliceV, bndV, stO, wrL, unfr, oneC, Value.cells, ptrV, eqD, tasV, buildV, bslL, buildL, setL, zrepL, eqL, leafEq]
    refine (due_ok hc4 (by omega) 9).mono ?_
    rintro v h5 ⟨xs, ob, F5, S5, n5, hr, hq, hc5, hs5, hown, hob⟩
    (try simp -implicitDefEqProofs only [↓XA, XB, XC, TF, UF, exists_eq_left', exists_eq_left, exists_eq_right, implies_true, forall_const, ↓reduceIte, reduceCtorEq, Nat.reduceLeDiff, Nat.reduceLT, Nat.reduceAdd, Nat.reduceMul, Nat.reduceEqDiff, Nat.reduceBEq, Nat.reduceSub, Int.reduceToNat, Int.reduceEq, Int.reduceNe, Int.reduceLT, Int.reduceLE, Int.reduceGT, Int.reduceGE, Int.reduceBEq, Int.reduceBNe, Int.reduceAdd, Int.reduceSub, Int.reduceMul, Int.reduceNeg, evM, nilV, extrV, binV, binI, binS, unV, convV, mkIfV, loadV, rdN, storeV, fieldAddrV, idxAddrV, idxV, fieldV, partV, lenV, capV, sliceV, bndV, stO, wrL, unfr, oneC, Value.cells, ptrV, eqD, tasV, buildV, bslL, buildL, setL, zrepL, eqL, leafEq])
    ((refine hK _ _ ?_); clear hK K)
    obtain ⟨hk5, hf5⟩ := hs5.keep hk4 hf4
    have hR : Rings (put (put (put (fun _ => none) 3 (some 9)) 1 (some 9)) 2 (some 5)) 3 9 [2, 1, 3] (put (put (put (put (put (put (fun _ => none) 3 (some 9)) 1 (some 9)) 2 (some 5)) 2 none) 1 none) 3 none) 0 := by
      have f1 : First (put (put (put (fun _ => none) 3 (some 9)) 1 (some 9)) 2 (some 5)) 2 5 := by
        refine ⟨by simp [put], fun k' t' hk' => ?_⟩
        simp only [put] at hk'
        repeat' split at hk'
        all_goals first | (simp only [Option.some.injEq] at hk'; omega) | (exact absurd hk' (by simp))
      have f2 : First (put (put (put (put (fun _ => none) 3 (some 9)) 1 (some 9)) 2 (some 5)) 2 none) 1 9 := by
        refine ⟨by simp [put], fun k' t' hk' => ?_⟩
        simp only [put] at hk'
        repeat' split at hk'
        all_goals first | (simp only [Option.some.injEq] at hk'; omega) | (exact absurd hk' (by simp))
      have f3 : First (put (put (put (put (put (fun _ => none) 3 (some 9)) 1 (some 9)) 2 (some 5)) 2 none) 1 none) 3 9 := by
        refine ⟨by simp [put], fun k' t' hk' => ?_⟩
        simp only [put] at hk'
        repeat' split at hk'
        all_goals first | (simp only [Option.some.injEq] at hk'; omega) | (exact absurd hk' (by simp))
      exact .snoc (.snoc (.snoc .nil f1 (by omega) (by omega)) f2 (by omega) (by omega)) f3 (by omega) (by omega)
    obtain ⟨rfl, rfl, rfl⟩ := hr.uniq hq hR (by
      intro k t hk
      simp only [put] at hk
      repeat' split at hk
      all_goals cases hk)
    obtain ⟨base, cap, rfl⟩ := Own.val hown
    obtain ⟨har, _, _⟩ := hown.ar
    obtain ⟨b0, o0, rfl, hr0⟩ := har.int (i := 0) (by simp)
    obtain ⟨b1, o1, e1, hr1⟩ := har.int (i := 1) (by simp)
    obtain ⟨b2, o2, e2, hr2⟩ := har.int (i := 2) (by simp)
    cases e1; cases e2
    simp only [Nat.add_zero, List.getElem_cons_zero, List.getElem_cons_succ] at hr0 hr1 hr2
    (repeat refine HW.seqL ?_); refine HW.seqR rfl (fun K hK => ?_)
    simp -implicitDefEqProofs only [↓XA, XB, XC, TF, UF, exists_eq_left', exists_eq_left, exists_eq_right, implies_true, forall_const, ↓reduceIte, reduceCtorEq, Nat.reduceLeDiff, Nat.reduceLT, Nat.reduceAdd, Nat.reduceMul, Nat.reduceEqDiff, Nat.reduceBEq, Nat.reduceSub, Int.reduceToNat, Int.reduceEq, Int.reduceNe, Int.reduceLT, Int.reduceLE, Int.reduceGT, Int.reduceGE, Int.reduceBEq, Int.reduceBNe, Int.reduceAdd, Int.reduceSub, Int.reduceMul, Int.reduceNeg, evM, nilV, extrV, binV, binI, binS, unV, convV, mkIfV, loadV, rdN, storeV, fieldAddrV, idxAddrV, idxV, fieldV, partV, lenV, capV, sliceV, bndV, stO, wrL, unfr, oneC, Value.cells, ptrV, eqD, tasV, buildV, bslL, buildL, setL, zrepL, eqL, leafEq, hr0, hr1, hr2]
    refine (len_ok hc5).mono ?_
    rintro v h6 ⟨rfl, rfl⟩
    (try simp -implicitDefEqProofs only [↓XA, XB, XC, TF, UF, exists_eq_left', exists_eq_left, exists_eq_right, implies_true, forall_const, ↓reduceIte, reduceCtorEq, Nat.reduceLeDiff, Nat.reduceLT, Nat.reduceAdd, Nat.reduceMul, Nat.reduceEqDiff, Nat.reduceBEq, Nat.reduceSub, Int.reduceToNat, Int.reduceEq, Int.reduceNe, Int.reduceLT, Int.reduceLE, Int.reduceGT, Int.reduceGE, Int.reduceBEq, Int.reduceBNe, Int.reduceAdd, Int.reduceSub, Int.reduceMul, Int.reduceNeg, evM, nilV, extrV, binV, binI, binS, unV, convV, mkIfV, loadV, rdN, storeV, fieldAddrV, idxAddrV, idxV, fieldV, partV, lenV, capV, sliceV, bndV, stO, wrL, unfr, oneC, Value.cells, ptrV, eqD, tasV, buildV, bslL, buildL, setL, zrepL, eqL, leafEq])
    ((refine hK _ _ ?_); clear hK K)
    ((refine HW.ret ?_); (repeat (first | (with_reducible refine Seq.ret ?_) | (with_reducible refine Blk.ret ?_))); (refine RetK.one rfl ?_))
    exact ⟨rfl, hk5⟩
end Go.Proofs.Ytiiglipmekeikaa
