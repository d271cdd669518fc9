/- AlarmAgain: what is set anew. -/
import Derived.Test.YtiiglipmekeikaaA6
set_option linter.unusedVariables false
set_option linter.unusedSimpArgs false
namespace Go.Proofs.Ytiiglipmekeikaa
open Go.Hx

def iv (t : Int) : Value := .int .i64 t
/-- The clock, the map beside it, and what was there before. -/
structure JJ (h0 h : Hp) (c q : Nat) (F : Nat → Prop) (lm : List (Int × Value)) (S : Al) (n : Nat) : Prop where
  clk : Clk h c F S n
  map : KMap encI (h q) lm
  nq : ¬ F q
  q0 : h0 q = none
  keep : Keep h0 h
  f0 : ∀ b, F b → h0 b = none
  lks : ∀ k, lk lm k = (S k).map iv
theorem JJ.qn {h0 h : Hp} {c q : Nat} {F : Nat → Prop} {lm : List (Int × Value)} {S : Al} {n : Nat} (j : JJ h0 h c q F lm S n) : h q ≠ none := by
  obtain ⟨es, ck, hm, _⟩ := j.map
  rw [hm]; simp
theorem JJ.same {h0 h h2 : Hp} {c q : Nat} {F F2 : Nat → Prop} {lm : List (Int × Value)} {S : Al} {n : Nat} (j : JJ h0 h c q F lm S n) (hs : Step F F2 h h2) : h2 q = h q := by
  cases hq : h q with
  | none => exact absurd hq j.qn
  | some o => exact hs.1 q o hq j.nq
theorem JJ.nq2 {h0 h h2 : Hp} {c q : Nat} {F F2 : Nat → Prop} {lm : List (Int × Value)} {S : Al} {n : Nat} (j : JJ h0 h c q F lm S n) (hs : Step F F2 h h2) : ¬ F2 q := by
  intro f
  rcases hs.2 q f with f | f
  · exact j.nq f
  · exact j.qn f
theorem JJ.put {h0 h h2 : Hp} {c q : Nat} {F F2 : Nat → Prop} {lm lm' : List (Int × Value)} {S S' : Al} {n n2 : Nat} {o : Obj} (j : JJ h0 h c q F lm S n) (hs : Step F F2 h h2) (hc : Clk h2 c F2 S' n2) (ho : KMap encI (some o) lm') (hl : ∀ k, lk lm' k = (S' k).map iv) :
    JJ h0 (upd h2 q o) c q F2 lm' S' n2 := by
  obtain ⟨k2, f2⟩ := hs.keep j.keep j.f0
  exact ⟨hc.upd (j.nq2 hs) o, by rw [upd_same]; exact ho, j.nq2 hs, j.q0, k2.upd j.q0 o, f2, hl⟩
def Small (S : Al) : Prop := ∀ k t, S k = some t → 0 ≤ t ∧ t ≤ 255
theorem Small.put {S : Al} (h : Small S) (k : Int) (r : Nat) (hr : r ≤ 255) : Small (put S k (some (r : Int))) := by
  intro k' t ht
  unfold Go.Proofs.Ytiiglipmekeikaa.put at ht
  split at ht
  · simp only [Option.some.injEq] at ht; omega
  · exact h k' t ht
theorem Small.del {S : Al} (h : Small S) (k : Int) : Small (Go.Proofs.Ytiiglipmekeikaa.put S k none) := by
  intro k' t ht
  unfold Go.Proofs.Ytiiglipmekeikaa.put at ht
  split at ht
  · cases ht
  · exact h k' t ht
theorem lks_set {lm : List (Int × Value)} {S : Al} (hn : (lm.map (·.1)).Nodup) (h : ∀ k, lk lm k = (S k).map iv) (k t : Int) : ∀ k', lk (setA lm k (iv t)) k' = (put S k (some t) k').map iv := by
  intro k'
  rw [setA_lk hn]
  unfold put
  split
  · rfl
  · exact h k'
theorem lks_del {lm : List (Int × Value)} {S : Al} (h : ∀ k, lk lm k = (S k).map iv) (k : Int) : ∀ k', lk (delA lm k) k' = (put S k none k').map iv := by
  intro k'
  rw [delA_lk]
  unfold put
  split
  · rfl
  · exact h k'
theorem KMap.nodup {o : Option Obj} {l : List (Int × Value)} (h : KMap encI o l) : (l.map (·.1)).Nodup := by
  obtain ⟨_, _, _, _, h4⟩ := h
  exact h4

theorem mem_take_succ {rs : List Int} {j : Nat} (hj : j < rs.length) (k : Int) : k ∈ rs.take (j + 1) ↔ k ∈ rs.take j ∨ k = rs[j] := by
  rw [List.take_add_one, List.getElem?_eq_getElem hj]
  simp only [Option.toList_some, List.mem_append, List.mem_singleton]
theorem not_in_take {rs : List Int} (hn : rs.Nodup) {j : Nat} (hj : j < rs.length) : rs[j] ∉ rs.take j := by
  intro e
  have h1 : (rs.take (j + 1)).Nodup := hn.sublist (List.take_sublist _ _)
  rw [List.take_add_one, List.getElem?_eq_getElem hj, List.nodup_append] at h1
  exact h1.2.2 _ e _ (by simp) rfl

set_option maxHeartbeats 1000000 in
theorem again_ok {h0 : Hp} {ba bb bc : Option Addr} {c0 c1 c2 : Nat} {xs ys zs : List Int} (hA : ArV h0 ba (ints xs)) (hB : ArV h0 bb (ints ys)) (hC : ArV h0 bc (ints zs)) :
    CallK Try.prog 3 [.slice ba xs.length c0, .slice bb ys.length c1, .slice bc zs.length c2] h0 fun v h' => v = .bool true ∧ Keep h0 h' := by
  refine CallK.of Try.func3 (by kernel_rfl) rfl Try.ntmps3 (rs := _) Try.results3 (by simp) ?_; simp only [envOf, Nat.zero_add, Nat.reduceAdd]
  (repeat refine HW.seqL ?_); refine HW.seqR rfl (fun K hK => ?_)
  simp -implicitDefEqProofs only [↓XA, XB, XC, TF, UF, exists_eq_left', exists_eq_left, exists_eq_right, implies_true, forall_const, ↓reduceIte, reduceCtorEq, Nat.reduceLeDiff, Nat.reduceLT, Nat.reduceAdd, Nat.reduceMul, Nat.reduceEqDiff, Nat.reduceBEq, Nat.reduceSub, Int.reduceToNat, Int.reduceEq, Int.reduceNe, Int.reduceLT, Int.reduceLE, Int.reduceGT, Int.reduceGE, Int.reduceBEq, Int.reduceBNe, Int.reduceAdd, Int.reduceSub, Int.reduceMul, Int.reduceNeg, evM, nilV, extrV, binV, binI, binS, unV, convV, mkIfV, loadV, rdN, storeV, fieldAddrV, idxAddrV, idxV, fieldV, partV, lenV, capV, sliceV, bndV, stO, wrL, unfr, oneC, Value.cells, ptrV, eqD, tasV, buildV, bslL, buildL, setL, zrepL, eqL, leafEq]
  ((refine hK _ _ ?_); clear hK K)
  (repeat refine HW.seqL ?_); refine HW.seqR rfl (fun K hK => ?_)
  simp -implicitDefEqProofs only [↓XA, XB, XC, TF, UF, exists_eq_left', exists_eq_left, exists_eq_right, implies_true, forall_const, ↓reduceIte, reduceCtorEq, Nat.reduceLeDiff, Nat.reduceLT, Nat.reduceAdd, Nat.reduceMul, Nat.reduceEqDiff, Nat.reduceBEq, Nat.reduceSub, Int.reduceToNat, Int.reduceEq, Int.reduceNe, Int.reduceLT, Int.reduceLE, Int.reduceGT, Int.reduceGE, Int.reduceBEq, Int.reduceBNe, Int.reduceAdd, Int.reduceSub, Int.reduceMul, Int.reduceNeg, evM, nilV, extrV, binV, binI, binS, unV, convV, mkIfV, loadV, rdN, storeV, fieldAddrV, idxAddrV, idxV, fieldV, partV, lenV, capV, sliceV, bndV, stO, wrL, unfr, oneC, Value.cells, ptrV, eqD, tasV, buildV, bslL, buildL, setL, zrepL, eqL, leafEq]
  refine (awake_ok h0).mono ?_
  rintro v h1 ⟨rfl, hk1⟩
  (try simp -implicitDefEqProofs only [↓XA, XB, XC, TF, UF, exists_eq_left', exists_eq_left, exists_eq_right, implies_true, forall_const, ↓reduceIte, reduceCtorEq, Nat.reduceLeDiff, Nat.reduceLT, Nat.reduceAdd, Nat.reduceMul, Nat.reduceEqDiff, Nat.reduceBEq, Nat.reduceSub, Int.reduceToNat, Int.reduceEq, Int.reduceNe, Int.reduceLT, Int.reduceLE, Int.reduceGT, Int.reduceGE, Int.reduceBEq, Int.reduceBNe, Int.reduceAdd, Int.reduceSub, Int.reduceMul, Int.reduceNeg, evM, nilV, extrV, binV, binI, binS, unV, convV, mkIfV, loadV, rdN, storeV, fieldAddrV, idxAddrV, idxV, fieldV, partV, lenV, capV, sliceV, bndV, stO, wrL, unfr, oneC, Value.cells, ptrV, eqD, tasV, buildV, bslL, buildL, setL, zrepL, eqL, leafEq])
  ((refine hK _ _ ?_); clear hK K)
  (repeat refine HW.seqL ?_); first | refine HW.ite rfl (fun hb => ?_) (fun hb => ?_) | refine HW.iteS rfl (fun hb => ?_) (fun hb => ?_)
  · cases hb
  · refine HW.skip ?_
    (repeat (first | (with_reducible refine Seq.ret ?_) | (with_reducible refine Blk.ret ?_) | (with_reducible refine Blk.here ?_) | (with_reducible refine Seq.exit ?_) | (with_reducible refine Blk.out (by decide) ?_) | (with_reducible refine Blk.normal ?_) | (with_reducible refine Seq.normal ?_)))
    (repeat refine HW.seqL ?_); refine HW.seqR rfl (fun K hK => ?_)
    simp -implicitDefEqProofs only [↓XA, XB, XC, TF, UF, exists_eq_left', exists_eq_left, exists_eq_right, implies_true, forall_const, ↓reduceIte, reduceCtorEq, Nat.reduceLeDiff, Nat.reduceLT, Nat.reduceAdd, Nat.reduceMul, Nat.reduceEqDiff, Nat.reduceBEq, Nat.reduceSub, Int.reduceToNat, Int.reduceEq, Int.reduceNe, Int.reduceLT, Int.reduceLE, Int.reduceGT, Int.reduceGE, Int.reduceBEq, Int.reduceBNe, Int.reduceAdd, Int.reduceSub, Int.reduceMul, Int.reduceNeg, evM, nilV, extrV, binV, binI, binS, unV, convV, mkIfV, loadV, rdN, storeV, fieldAddrV, idxAddrV, idxV, fieldV, partV, lenV, capV, sliceV, bndV, stO, wrL, unfr, oneC, Value.cells, ptrV, eqD, tasV, buildV, bslL, buildL, setL, zrepL, eqL, leafEq]
    refine (new_ok h1).mono ?_
    rintro v h2 ⟨c, F, rfl, hc, hk2, hf⟩
    (try simp -implicitDefEqProofs only [↓XA, XB, XC, TF, UF, exists_eq_left', exists_eq_left, exists_eq_right, implies_true, forall_const, ↓reduceIte, reduceCtorEq, Nat.reduceLeDiff, Nat.reduceLT, Nat.reduceAdd, Nat.reduceMul, Nat.reduceEqDiff, Nat.reduceBEq, Nat.reduceSub, Int.reduceToNat, Int.reduceEq, Int.reduceNe, Int.reduceLT, Int.reduceLE, Int.reduceGT, Int.reduceGE, Int.reduceBEq, Int.reduceBNe, Int.reduceAdd, Int.reduceSub, Int.reduceMul, Int.reduceNeg, evM, nilV, extrV, binV, binI, binS, unV, convV, mkIfV, loadV, rdN, storeV, fieldAddrV, idxAddrV, idxV, fieldV, partV, lenV, capV, sliceV, bndV, stO, wrL, unfr, oneC, Value.cells, ptrV, eqD, tasV, buildV, bslL, buildL, setL, zrepL, eqL, leafEq])
    ((refine hK _ _ ?_); clear hK K)
    (repeat refine HW.seqL ?_); refine HW.seqR rfl (fun K hK => ?_)
    simp -implicitDefEqProofs only [↓XA, XB, XC, TF, UF, exists_eq_left', exists_eq_left, exists_eq_right, implies_true, forall_const, ↓reduceIte, reduceCtorEq, Nat.reduceLeDiff, Nat.reduceLT, Nat.reduceAdd, Nat.reduceMul, Nat.reduceEqDiff, Nat.reduceBEq, Nat.reduceSub, Int.reduceToNat, Int.reduceEq, Int.reduceNe, Int.reduceLT, Int.reduceLE, Int.reduceGT, Int.reduceGE, Int.reduceBEq, Int.reduceBNe, Int.reduceAdd, Int.reduceSub, Int.reduceMul, Int.reduceNeg, evM, nilV, extrV, binV, binI, binS, unV, convV, mkIfV, loadV, rdN, storeV, fieldAddrV, idxAddrV, idxV, fieldV, partV, lenV, capV, sliceV, bndV, stO, wrL, unfr, oneC, Value.cells, ptrV, eqD, tasV, buildV, bslL, buildL, setL, zrepL, eqL, leafEq]
    intro q hq
    (try simp -implicitDefEqProofs only [↓XA, XB, XC, TF, UF, exists_eq_left', exists_eq_left, exists_eq_right, implies_true, forall_const, ↓reduceIte, reduceCtorEq, Nat.reduceLeDiff, Nat.reduceLT, Nat.reduceAdd, Nat.reduceMul, Nat.reduceEqDiff, Nat.reduceBEq, Nat.reduceSub, Int.reduceToNat, Int.reduceEq, Int.reduceNe, Int.reduceLT, Int.reduceLE, Int.reduceGT, Int.reduceGE, Int.reduceBEq, Int.reduceBNe, Int.reduceAdd, Int.reduceSub, Int.reduceMul, Int.reduceNeg, evM, nilV, extrV, binV, binI, binS, unV, convV, mkIfV, loadV, rdN, storeV, fieldAddrV, idxAddrV, idxV, fieldV, partV, lenV, capV, sliceV, bndV, stO, wrL, unfr, oneC, Value.cells, ptrV, eqD, tasV, buildV, bslL, buildL, setL, zrepL, eqL, leafEq])
    ((refine hK _ _ ?_); clear hK K)
    have hk12 : Keep h0 h2 := hk1.trans hk2
    have hnq : ¬ F q := fun f => hc.alloc f hq
    have j0 : JJ h0 (upd h2 q (Obj.map #[] 0)) c q F [] (fun _ => none) 0 :=
      ⟨hc.upd hnq _, by rw [upd_same]; exact KMap.new, hnq, hk12.none hq, hk12.upd (hk12.none hq) _, fun b f => hk1.none (hf b f), fun k => rfl⟩
    obtain ⟨h3, hh3⟩ : ∃ h3, h3 = upd h2 q (Obj.map #[] 0) := ⟨_, rfl⟩
    rw [← hh3] at j0 ⊢
    clear hh3
    refine HW.join (α := Al × Nat) [0, 1, 2, 6, 7, 8] (fun x => [.slice ba xs.length c0, .slice bb ys.length c1, .slice bc zs.length c2, .bool false, ptr c, .map (some q)]) (fun x h' => ∃ F lm, JJ h0 h' c q F lm x.1 x.2 ∧ Small x.1 ∧ x.2 ≤ 20) ?_ ?_
    · (repeat refine HW.seqL ?_); refine HW.seqR rfl (fun K hK => ?_)
      simp -implicitDefEqProofs only [↓XA, XB, XC, TF, UF, exists_eq_left', exists_eq_left, exists_eq_right, implies_true, forall_const, ↓reduceIte, reduceCtorEq, Nat.reduceLeDiff, Nat.reduceLT, Nat.reduceAdd, Nat.reduceMul, Nat.reduceEqDiff, Nat.reduceBEq, Nat.reduceSub, Int.reduceToNat, Int.reduceEq, Int.reduceNe, Int.reduceLT, Int.reduceLE, Int.reduceGT, Int.reduceGE, Int.reduceBEq, Int.reduceBNe, Int.reduceAdd, Int.reduceSub, Int.reduceMul, Int.reduceNeg, evM, nilV, extrV, binV, binI, binS, unV, convV, mkIfV, loadV, rdN, storeV, fieldAddrV, idxAddrV, idxV, fieldV, partV, lenV, capV, sliceV, bndV, stO, wrL, unfr, oneC, Value.cells, ptrV, eqD, tasV, buildV, bslL, buildL, setL, zrepL, eqL, leafEq]
      ((refine hK _ _ ?_); clear hK K)
      refine HW.block ?_
      refine HW.loopV (α := Al × Nat × Nat) [0, 1, 2, 6, 7, 8, 9] (fun x => [.slice ba xs.length c0, .slice bb ys.length c1, .slice bc zs.length c2, .bool false, ptr c, .map (some q), .int .i64 x.2.2]) (fun x h' => ∃ F lm, JJ h0 h' c q F lm x.1 x.2.1 ∧ Small x.1 ∧ x.2.1 ≤ x.2.2 ∧ x.2.2 ≤ 20) (fun x => 20 - x.2.2) (fun _ => none, 0, 0) ⟨F, [], j0, (fun k t h => by cases h), by simp, by simp⟩ ⟨rfl, rfl, rfl, rfl, rfl, rfl, rfl, trivial⟩ ?_
      rintro ⟨S, n, i⟩ h4 ⟨F4, lm, j, hsm, hni, hi20⟩
      simp only at j hsm hni hi20
      simp only [List.zip_cons_cons, List.zip_nil_left]
      by_cases hlt : i < xs.length
      · by_cases h20 : i < 20
        · have c1 : (i : Int) < (xs.length : Int) := by omega
          have c2 : (i : Int) < 20 := by omega
          obtain ⟨b, o, rfl, hrd⟩ := (hA.keep j.keep).int hlt
          obtain ⟨r, hr, hre⟩ := and_i64 xs[i] 255 (by omega)
          have hre' : andI .i64 xs[i] 255 = (r : Int) := hre
          have w1 : IntKind.i64.wrap ((i : Int) + 1) = ((i + 1 : Nat) : Int) := by rw [wrap_i64 (by omega) (by omega)]; omega
          (repeat refine HW.seqL ?_); refine HW.seqR rfl (fun K hK => ?_)
          simp -implicitDefEqProofs only [↓XA, XB, XC, TF, UF, exists_eq_left', exists_eq_left, exists_eq_right, implies_true, forall_const, ↓reduceIte, reduceCtorEq, Nat.reduceLeDiff, Nat.reduceLT, Nat.reduceAdd, Nat.reduceMul, Nat.reduceEqDiff, Nat.reduceBEq, Nat.reduceSub, Int.reduceToNat, Int.reduceEq, Int.reduceNe, Int.reduceLT, Int.reduceLE, Int.reduceGT, Int.reduceGE, Int.reduceBEq, Int.reduceBNe, Int.reduceAdd, Int.reduceSub, Int.reduceMul, Int.reduceNeg, evM, nilV, extrV, binV, binI, binS, unV, convV, mkIfV, loadV, rdN, storeV, fieldAddrV, idxAddrV, idxV, fieldV, partV, lenV, capV, sliceV, bndV, stO, wrL, unfr, oneC, Value.cells, ptrV, eqD, tasV, buildV, bslL, buildL, setL, zrepL, eqL, leafEq, c1, c2]
          ((refine hK _ _ ?_); clear hK K)
          (repeat refine HW.seqL ?_); first | refine HW.ite rfl (fun hb => ?_) (fun hb => ?_) | refine HW.iteS rfl (fun hb => ?_) (fun hb => ?_)
          · refine HW.skip ?_
            (repeat (first | (with_reducible refine Seq.ret ?_) | (with_reducible refine Blk.ret ?_) | (with_reducible refine Blk.here ?_) | (with_reducible refine Seq.exit ?_) | (with_reducible refine Blk.out (by decide) ?_) | (with_reducible refine Blk.normal ?_) | (with_reducible refine Seq.normal ?_)))
            (repeat refine HW.seqL ?_)
            refine HW.seq ?_
            refine HW.block ?_
            (repeat refine HW.seqL ?_); refine HW.seqR rfl (fun K hK => ?_)
            simp -implicitDefEqProofs only [↓XA, XB, XC, TF, UF, exists_eq_left', exists_eq_left, exists_eq_right, implies_true, forall_const, ↓reduceIte, reduceCtorEq, Nat.reduceLeDiff, Nat.reduceLT, Nat.reduceAdd, Nat.reduceMul, Nat.reduceEqDiff, Nat.reduceBEq, Nat.reduceSub, Int.reduceToNat, Int.reduceEq, Int.reduceNe, Int.reduceLT, Int.reduceLE, Int.reduceGT, Int.reduceGE, Int.reduceBEq, Int.reduceBNe, Int.reduceAdd, Int.reduceSub, Int.reduceMul, Int.reduceNeg, evM, nilV, extrV, binV, binI, binS, unV, convV, mkIfV, loadV, rdN, storeV, fieldAddrV, idxAddrV, idxV, fieldV, partV, lenV, capV, sliceV, bndV, stO, wrL, unfr, oneC, Value.cells, ptrV, eqD, tasV, buildV, bslL, buildL, setL, zrepL, eqL, leafEq, c1, hrd, hre']
            refine (set_ok j.clk (by omega) i r (by omega) (by omega)).mono ?_
            rintro v h5 ⟨rfl, F5, n5, hc5, hn5, hs5⟩
            (try simp -implicitDefEqProofs only [↓XA, XB, XC, TF, UF, exists_eq_left', exists_eq_left, exists_eq_right, implies_true, forall_const, ↓reduceIte, reduceCtorEq, Nat.reduceLeDiff, Nat.reduceLT, Nat.reduceAdd, Nat.reduceMul, Nat.reduceEqDiff, Nat.reduceBEq, Nat.reduceSub, Int.reduceToNat, Int.reduceEq, Int.reduceNe, Int.reduceLT, Int.reduceLE, Int.reduceGT, Int.reduceGE, Int.reduceBEq, Int.reduceBNe, Int.reduceAdd, Int.reduceSub, Int.reduceMul, Int.reduceNeg, evM, nilV, extrV, binV, binI, binS, unV, convV, mkIfV, loadV, rdN, storeV, fieldAddrV, idxAddrV, idxV, fieldV, partV, lenV, capV, sliceV, bndV, stO, wrL, unfr, oneC, Value.cells, ptrV, eqD, tasV, buildV, bslL, buildL, setL, zrepL, eqL, leafEq])
            ((refine hK _ _ ?_); clear hK K)
            have hm5 : KMap encI (h5 q) lm := by rw [j.same hs5]; exact j.map
            obtain ⟨ob, hset, hmap⟩ := hm5.set (P := Try.prog) (t := 26) lawI mapK_26 i (iv r)
            simp only [encI, iv] at hset
            obtain ⟨k5, f5⟩ := hs5.keep j.keep j.f0
            obtain ⟨b', o', e', hrd5⟩ := (hA.keep k5).int hlt
            cases e'
            refine HW.rgnK rfl (fun K hK => ?_)
            simp -implicitDefEqProofs only [↓XA, XB, XC, TF, UF, exists_eq_left', exists_eq_left, exists_eq_right, implies_true, forall_const, ↓reduceIte, reduceCtorEq, Nat.reduceLeDiff, Nat.reduceLT, Nat.reduceAdd, Nat.reduceMul, Nat.reduceEqDiff, Nat.reduceBEq, Nat.reduceSub, Int.reduceToNat, Int.reduceEq, Int.reduceNe, Int.reduceLT, Int.reduceLE, Int.reduceGT, Int.reduceGE, Int.reduceBEq, Int.reduceBNe, Int.reduceAdd, Int.reduceSub, Int.reduceMul, Int.reduceNeg, evM, nilV, extrV, binV, binI, binS, unV, convV, mkIfV, loadV, rdN, storeV, fieldAddrV, idxAddrV, idxV, fieldV, partV, lenV, capV, sliceV, bndV, stO, wrL, unfr, oneC, Value.cells, ptrV, eqD, tasV, buildV, bslL, buildL, setL, zrepL, eqL, leafEq, c1, hrd5, hre', hset]
            ((refine hK _ _ ?_); clear hK K)
            (repeat (first | (with_reducible refine Seq.ret ?_) | (with_reducible refine Blk.ret ?_) | (with_reducible refine Blk.here ?_) | (with_reducible refine Seq.exit ?_) | (with_reducible refine Blk.out (by decide) ?_) | (with_reducible refine Blk.normal ?_) | (with_reducible refine Seq.normal ?_)))
            refine HW.rgnK rfl (fun K hK => ?_)
            simp -implicitDefEqProofs only [↓XA, XB, XC, TF, UF, exists_eq_left', exists_eq_left, exists_eq_right, implies_true, forall_const, ↓reduceIte, reduceCtorEq, Nat.reduceLeDiff, Nat.reduceLT, Nat.reduceAdd, Nat.reduceMul, Nat.reduceEqDiff, Nat.reduceBEq, Nat.reduceSub, Int.reduceToNat, Int.reduceEq, Int.reduceNe, Int.reduceLT, Int.reduceLE, Int.reduceGT, Int.reduceGE, Int.reduceBEq, Int.reduceBNe, Int.reduceAdd, Int.reduceSub, Int.reduceMul, Int.reduceNeg, evM, nilV, extrV, binV, binI, binS, unV, convV, mkIfV, loadV, rdN, storeV, fieldAddrV, idxAddrV, idxV, fieldV, partV, lenV, capV, sliceV, bndV, stO, wrL, unfr, oneC, Value.cells, ptrV, eqD, tasV, buildV, bslL, buildL, setL, zrepL, eqL, leafEq, w1]
            ((refine hK _ _ ?_); clear hK K)
            (repeat (first | (with_reducible refine Seq.ret ?_) | (with_reducible refine Blk.ret ?_) | (with_reducible refine Blk.here ?_) | (with_reducible refine Seq.exit ?_) | (with_reducible refine Blk.out (by decide) ?_) | (with_reducible refine Blk.normal ?_) | (with_reducible refine Seq.normal ?_)))
            refine ⟨(put S i (some (r : Int)), n5, i + 1), by simp only; omega, ⟨F5, _, j.put hs5 hc5 hmap (lks_set (KMap.nodup j.map) j.lks _ _), hsm.put _ _ hr, ?_, by simp only; omega⟩, rfl, rfl, rfl, rfl, rfl, rfl, rfl, trivial⟩
            simp only
            split at hn5 <;> omega
          · cases hb
        · have c1 : (i : Int) < (xs.length : Int) := by omega
          have c2 : ¬ (i : Int) < 20 := by omega
          (repeat refine HW.seqL ?_); refine HW.seqR rfl (fun K hK => ?_)
          simp -implicitDefEqProofs only [↓XA, XB, XC, TF, UF, exists_eq_left', exists_eq_left, exists_eq_right, implies_true, forall_const, ↓reduceIte, reduceCtorEq, Nat.reduceLeDiff, Nat.reduceLT, Nat.reduceAdd, Nat.reduceMul, Nat.reduceEqDiff, Nat.reduceBEq, Nat.reduceSub, Int.reduceToNat, Int.reduceEq, Int.reduceNe, Int.reduceLT, Int.reduceLE, Int.reduceGT, Int.reduceGE, Int.reduceBEq, Int.reduceBNe, Int.reduceAdd, Int.reduceSub, Int.reduceMul, Int.reduceNeg, evM, nilV, extrV, binV, binI, binS, unV, convV, mkIfV, loadV, rdN, storeV, fieldAddrV, idxAddrV, idxV, fieldV, partV, lenV, capV, sliceV, bndV, stO, wrL, unfr, oneC, Value.cells, ptrV, eqD, tasV, buildV, bslL, buildL, setL, zrepL, eqL, leafEq, c1, c2]
          ((refine hK _ _ ?_); clear hK K)
          (repeat refine HW.seqL ?_); first | refine HW.ite rfl (fun hb => ?_) (fun hb => ?_) | refine HW.iteS rfl (fun hb => ?_) (fun hb => ?_)
          · cases hb
          · refine HW.exit ?_
            (repeat (first | (with_reducible refine Seq.ret ?_) | (with_reducible refine Blk.ret ?_) | (with_reducible refine Blk.here ?_) | (with_reducible refine Seq.exit ?_) | (with_reducible refine Blk.out (by decide) ?_) | (with_reducible refine Blk.normal ?_) | (with_reducible refine Seq.normal ?_)))
            exact ⟨(S, n), ⟨F4, lm, j, hsm, by omega⟩, rfl, rfl, rfl, rfl, rfl, rfl, trivial⟩
      · have c1 : ¬ (i : Int) < (xs.length : Int) := by omega
        (repeat refine HW.seqL ?_); refine HW.seqR rfl (fun K hK => ?_)
        simp -implicitDefEqProofs only [↓XA, XB, XC, TF, UF, exists_eq_left', exists_eq_left, exists_eq_right, implies_true, forall_const, ↓reduceIte, reduceCtorEq, Nat.reduceLeDiff, Nat.reduceLT, Nat.reduceAdd, Nat.reduceMul, Nat.reduceEqDiff, Nat.reduceBEq, Nat.reduceSub, Int.reduceToNat, Int.reduceEq, Int.reduceNe, Int.reduceLT, Int.reduceLE, Int.reduceGT, Int.reduceGE, Int.reduceBEq, Int.reduceBNe, Int.reduceAdd, Int.reduceSub, Int.reduceMul, Int.reduceNeg, evM, nilV, extrV, binV, binI, binS, unV, convV, mkIfV, loadV, rdN, storeV, fieldAddrV, idxAddrV, idxV, fieldV, partV, lenV, capV, sliceV, bndV, stO, wrL, unfr, oneC, Value.cells, ptrV, eqD, tasV, buildV, bslL, buildL, setL, zrepL, eqL, leafEq, c1]
        ((refine hK _ _ ?_); clear hK K)
        (repeat refine HW.seqL ?_); first | refine HW.ite rfl (fun hb => ?_) (fun hb => ?_) | refine HW.iteS rfl (fun hb => ?_) (fun hb => ?_)
        · cases hb
        · refine HW.exit ?_
          (repeat (first | (with_reducible refine Seq.ret ?_) | (with_reducible refine Blk.ret ?_) | (with_reducible refine Blk.here ?_) | (with_reducible refine Seq.exit ?_) | (with_reducible refine Blk.out (by decide) ?_) | (with_reducible refine Blk.normal ?_) | (with_reducible refine Seq.normal ?_)))
          exact ⟨(S, n), ⟨F4, lm, j, hsm, by simp only; omega⟩, rfl, rfl, rfl, rfl, rfl, rfl, trivial⟩
    · rintro ⟨S1, n1⟩ h1 ⟨F1, lm1, j1, hsm1, hn1⟩
      simp only at j1 hsm1 hn1
      simp only [List.zip_cons_cons, List.zip_nil_left]
      refine HW.join (α := Al × Nat) [0, 1, 2, 6, 7, 8] (fun x => [.slice ba xs.length c0, .slice bb ys.length c1, .slice bc zs.length c2, .bool false, ptr c, .map (some q)]) (fun x h' => ∃ F lm, JJ h0 h' c q F lm x.1 x.2 ∧ Small x.1 ∧ x.2 ≤ 40) ?_ ?_
      · (repeat refine HW.seqL ?_); refine HW.seqR rfl (fun K hK => ?_)
        simp -implicitDefEqProofs only [↓XA, XB, XC, TF, UF, exists_eq_left', exists_eq_left, exists_eq_right, implies_true, forall_const, ↓reduceIte, reduceCtorEq, Nat.reduceLeDiff, Nat.reduceLT, Nat.reduceAdd, Nat.reduceMul, Nat.reduceEqDiff, Nat.reduceBEq, Nat.reduceSub, Int.reduceToNat, Int.reduceEq, Int.reduceNe, Int.reduceLT, Int.reduceLE, Int.reduceGT, Int.reduceGE, Int.reduceBEq, Int.reduceBNe, Int.reduceAdd, Int.reduceSub, Int.reduceMul, Int.reduceNeg, evM, nilV, extrV, binV, binI, binS, unV, convV, mkIfV, loadV, rdN, storeV, fieldAddrV, idxAddrV, idxV, fieldV, partV, lenV, capV, sliceV, bndV, stO, wrL, unfr, oneC, Value.cells, ptrV, eqD, tasV, buildV, bslL, buildL, setL, zrepL, eqL, leafEq]
        ((refine hK _ _ ?_); clear hK K)
        refine HW.block ?_
        refine HW.loopV (α := Al × Nat × Nat) [0, 1, 2, 6, 7, 8, 10] (fun x => [.slice ba xs.length c0, .slice bb ys.length c1, .slice bc zs.length c2, .bool false, ptr c, .map (some q), .int .i64 x.2.2]) (fun x h' => ∃ F lm, JJ h0 h' c q F lm x.1 x.2.1 ∧ Small x.1 ∧ x.2.1 ≤ 20 + x.2.2 ∧ x.2.2 ≤ 20) (fun x => 20 - x.2.2) (S1, n1, 0) ⟨F1, lm1, j1, hsm1, (by simpa using hn1), by simp⟩ ⟨rfl, rfl, rfl, rfl, rfl, rfl, rfl, trivial⟩ ?_
        rintro ⟨S, n, i⟩ h4 ⟨F4, lm, j, hsm, hni, hi20⟩
        simp only at j hsm hni hi20
        simp only [List.zip_cons_cons, List.zip_nil_left]
        by_cases hlt : i < ys.length
        · by_cases h20 : i < 20
          · have c1 : (i : Int) < (ys.length : Int) := by omega
            have c2 : (i : Int) < 20 := by omega
            obtain ⟨b, o, rfl, hrd⟩ := (hB.keep j.keep).int hlt
            obtain ⟨r, hr, hre⟩ := and_i64 ys[i] 255 (by omega)
            have hre' : andI .i64 ys[i] 255 = (r : Int) := hre
            have w1 : IntKind.i64.wrap ((i : Int) + 1) = ((i + 1 : Nat) : Int) := by rw [wrap_i64 (by omega) (by omega)]; omega
            (repeat refine HW.seqL ?_); refine HW.seqR rfl (fun K hK => ?_)
            simp -implicitDefEqProofs only [↓XA, XB, XC, TF, UF, exists_eq_left', exists_eq_left, exists_eq_right, implies_true, forall_const, ↓reduceIte, reduceCtorEq, Nat.reduceLeDiff, Nat.reduceLT, Nat.reduceAdd, Nat.reduceMul, Nat.reduceEqDiff, Nat.reduceBEq, Nat.reduceSub, Int.reduceToNat, Int.reduceEq, Int.reduceNe, Int.reduceLT, Int.reduceLE, Int.reduceGT, Int.reduceGE, Int.reduceBEq, Int.reduceBNe, Int.reduceAdd, Int.reduceSub, Int.reduceMul, Int.reduceNeg, evM, nilV, extrV, binV, binI, binS, unV, convV, mkIfV, loadV, rdN, storeV, fieldAddrV, idxAddrV, idxV, fieldV, partV, lenV, capV, sliceV, bndV, stO, wrL, unfr, oneC, Value.cells, ptrV, eqD, tasV, buildV, bslL, buildL, setL, zrepL, eqL, leafEq, c1, c2]
            ((refine hK _ _ ?_); clear hK K)
            (repeat refine HW.seqL ?_); first | refine HW.ite rfl (fun hb => ?_) (fun hb => ?_) | refine HW.iteS rfl (fun hb => ?_) (fun hb => ?_)
            · refine HW.skip ?_
              (repeat (first | (with_reducible refine Seq.ret ?_) | (with_reducible refine Blk.ret ?_) | (with_reducible refine Blk.here ?_) | (with_reducible refine Seq.exit ?_) | (with_reducible refine Blk.out (by decide) ?_) | (with_reducible refine Blk.normal ?_) | (with_reducible refine Seq.normal ?_)))
              (repeat refine HW.seqL ?_)
              refine HW.seq ?_
              refine HW.block ?_
              (repeat refine HW.seqL ?_); refine HW.seqR rfl (fun K hK => ?_)
              simp -implicitDefEqProofs only [↓XA, XB, XC, TF, UF, exists_eq_left', exists_eq_left, exists_eq_right, implies_true, forall_const, ↓reduceIte, reduceCtorEq, Nat.reduceLeDiff, Nat.reduceLT, Nat.reduceAdd, Nat.reduceMul, Nat.reduceEqDiff, Nat.reduceBEq, Nat.reduceSub, Int.reduceToNat, Int.reduceEq, Int.reduceNe, Int.reduceLT, Int.reduceLE, Int.reduceGT, Int.reduceGE, Int.reduceBEq, Int.reduceBNe, Int.reduceAdd, Int.reduceSub, Int.reduceMul, Int.reduceNeg, evM, nilV, extrV, binV, binI, binS, unV, convV, mkIfV, loadV, rdN, storeV, fieldAddrV, idxAddrV, idxV, fieldV, partV, lenV, capV, sliceV, bndV, stO, wrL, unfr, oneC, Value.cells, ptrV, eqD, tasV, buildV, bslL, buildL, setL, zrepL, eqL, leafEq, c1, hrd, hre']
              refine (set_ok j.clk (by omega) i r (by omega) (by omega)).mono ?_
              rintro v h5 ⟨rfl, F5, n5, hc5, hn5, hs5⟩
              (try simp -implicitDefEqProofs only [↓XA, XB, XC, TF, UF, exists_eq_left', exists_eq_left, exists_eq_right, implies_true, forall_const, ↓reduceIte, reduceCtorEq, Nat.reduceLeDiff, Nat.reduceLT, Nat.reduceAdd, Nat.reduceMul, Nat.reduceEqDiff, Nat.reduceBEq, Nat.reduceSub, Int.reduceToNat, Int.reduceEq, Int.reduceNe, Int.reduceLT, Int.reduceLE, Int.reduceGT, Int.reduceGE, Int.reduceBEq, Int.reduceBNe, Int.reduceAdd, Int.reduceSub, Int.reduceMul, Int.reduceNeg, evM, nilV, extrV, binV, binI, binS, unV, convV, mkIfV, loadV, rdN, storeV, fieldAddrV, idxAddrV, idxV, fieldV, partV, lenV, capV, sliceV, bndV, stO, wrL, unfr, oneC, Value.cells, ptrV, eqD, tasV, buildV, bslL, buildL, setL, zrepL, eqL, leafEq])
              ((refine hK _ _ ?_); clear hK K)
              have hm5 : KMap encI (h5 q) lm := by rw [j.same hs5]; exact j.map
              obtain ⟨ob, hset, hmap⟩ := hm5.set (P := Try.prog) (t := 26) lawI mapK_26 i (iv r)
              simp only [encI, iv] at hset
              obtain ⟨k5, f5⟩ := hs5.keep j.keep j.f0
              obtain ⟨b', o', e', hrd5⟩ := (hB.keep k5).int hlt
              cases e'
              refine HW.rgnK rfl (fun K hK => ?_)
              simp -implicitDefEqProofs only [↓XA, XB, XC, TF, UF, exists_eq_left', exists_eq_left, exists_eq_right, implies_true, forall_const, ↓reduceIte, reduceCtorEq, Nat.reduceLeDiff, Nat.reduceLT, Nat.reduceAdd, Nat.reduceMul, Nat.reduceEqDiff, Nat.reduceBEq, Nat.reduceSub, Int.reduceToNat, Int.reduceEq, Int.reduceNe, Int.reduceLT, Int.reduceLE, Int.reduceGT, Int.reduceGE, Int.reduceBEq, Int.reduceBNe, Int.reduceAdd, Int.reduceSub, Int.reduceMul, Int.reduceNeg, evM, nilV, extrV, binV, binI, binS, unV, convV, mkIfV, loadV, rdN, storeV, fieldAddrV, idxAddrV, idxV, fieldV, partV, lenV, capV, sliceV, bndV, stO, wrL, unfr, oneC, Value.cells, ptrV, eqD, tasV, buildV, bslL, buildL, setL, zrepL, eqL, leafEq, c1, hrd5, hre', hset]
              ((refine hK _ _ ?_); clear hK K)
              (repeat (first | (with_reducible refine Seq.ret ?_) | (with_reducible refine Blk.ret ?_) | (with_reducible refine Blk.here ?_) | (with_reducible refine Seq.exit ?_) | (with_reducible refine Blk.out (by decide) ?_) | (with_reducible refine Blk.normal ?_) | (with_reducible refine Seq.normal ?_)))
              refine HW.rgnK rfl (fun K hK => ?_)
              simp -implicitDefEqProofs only [↓XA, XB, XC, TF, UF, exists_eq_left', exists_eq_left, exists_eq_right, implies_true, forall_const, ↓reduceIte, reduceCtorEq, Nat.reduceLeDiff, Nat.reduceLT, Nat.reduceAdd, Nat.reduceMul, Nat.reduceEqDiff, Nat.reduceBEq, Nat.reduceSub, Int.reduceToNat, Int.reduceEq, Int.reduceNe, Int.reduceLT, Int.reduceLE, Int.reduceGT, Int.reduceGE, Int.reduceBEq, Int.reduceBNe, Int.reduceAdd, Int.reduceSub, Int.reduceMul, Int.reduceNeg, evM, nilV, extrV, binV, binI, binS, unV, convV, mkIfV, loadV, rdN, storeV, fieldAddrV, idxAddrV, idxV, fieldV, partV, lenV, capV, sliceV, bndV, stO, wrL, unfr, oneC, Value.cells, ptrV, eqD, tasV, buildV, bslL, buildL, setL, zrepL, eqL, leafEq, w1]
              ((refine hK _ _ ?_); clear hK K)
              (repeat (first | (with_reducible refine Seq.ret ?_) | (with_reducible refine Blk.ret ?_) | (with_reducible refine Blk.here ?_) | (with_reducible refine Seq.exit ?_) | (with_reducible refine Blk.out (by decide) ?_) | (with_reducible refine Blk.normal ?_) | (with_reducible refine Seq.normal ?_)))
              refine ⟨(put S i (some (r : Int)), n5, i + 1), by simp only; omega, ⟨F5, _, j.put hs5 hc5 hmap (lks_set (KMap.nodup j.map) j.lks _ _), hsm.put _ _ hr, ?_, by simp only; omega⟩, rfl, rfl, rfl, rfl, rfl, rfl, rfl, trivial⟩
              simp only
              split at hn5 <;> omega
            · cases hb
          · have c1 : (i : Int) < (ys.length : Int) := by omega
            have c2 : ¬ (i : Int) < 20 := by omega
            (repeat refine HW.seqL ?_); refine HW.seqR rfl (fun K hK => ?_)
            simp -implicitDefEqProofs only [↓XA, XB, XC, TF, UF, exists_eq_left', exists_eq_left, exists_eq_right, implies_true, forall_const, ↓reduceIte, reduceCtorEq, Nat.reduceLeDiff, Nat.reduceLT, Nat.reduceAdd, Nat.reduceMul, Nat.reduceEqDiff, Nat.reduceBEq, Nat.reduceSub, Int.reduceToNat, Int.reduceEq, Int.reduceNe, Int.reduceLT, Int.reduceLE, Int.reduceGT, Int.reduceGE, Int.reduceBEq, Int.reduceBNe, Int.reduceAdd, Int.reduceSub, Int.reduceMul, Int.reduceNeg, evM, nilV, extrV, binV, binI, binS, unV, convV, mkIfV, loadV, rdN, storeV, fieldAddrV, idxAddrV, idxV, fieldV, partV, lenV, capV, sliceV, bndV, stO, wrL, unfr, oneC, Value.cells, ptrV, eqD, tasV, buildV, bslL, buildL, setL, zrepL, eqL, leafEq, c1, c2]
            ((refine hK _ _ ?_); clear hK K)
            (repeat refine HW.seqL ?_); first | refine HW.ite rfl (fun hb => ?_) (fun hb => ?_) | refine HW.iteS rfl (fun hb => ?_) (fun hb => ?_)
            · cases hb
            · refine HW.exit ?_
              (repeat (first | (with_reducible refine Seq.ret ?_) | (with_reducible refine Blk.ret ?_) | (with_reducible refine Blk.here ?_) | (with_reducible refine Seq.exit ?_) | (with_reducible refine Blk.out (by decide) ?_) | (with_reducible refine Blk.normal ?_) | (with_reducible refine Seq.normal ?_)))
              exact ⟨(S, n), ⟨F4, lm, j, hsm, by omega⟩, rfl, rfl, rfl, rfl, rfl, rfl, trivial⟩
        · have c1 : ¬ (i : Int) < (ys.length : Int) := by omega
          (repeat refine HW.seqL ?_); refine HW.seqR rfl (fun K hK => ?_)
          simp -implicitDefEqProofs only [↓XA, XB, XC, TF, UF, exists_eq_left', exists_eq_left, exists_eq_right, implies_true, forall_const, ↓reduceIte, reduceCtorEq, Nat.reduceLeDiff, Nat.reduceLT, Nat.reduceAdd, Nat.reduceMul, Nat.reduceEqDiff, Nat.reduceBEq, Nat.reduceSub, Int.reduceToNat, Int.reduceEq, Int.reduceNe, Int.reduceLT, Int.reduceLE, Int.reduceGT, Int.reduceGE, Int.reduceBEq, Int.reduceBNe, Int.reduceAdd, Int.reduceSub, Int.reduceMul, Int.reduceNeg, evM, nilV, extrV, binV, binI, binS, unV, convV, mkIfV, loadV, rdN, storeV, fieldAddrV, idxAddrV, idxV, fieldV, partV, lenV, capV, sliceV, bndV, stO, wrL, unfr, oneC, Value.cells, ptrV, eqD, tasV, buildV, bslL, buildL, setL, zrepL, eqL, leafEq, c1]
          ((refine hK _ _ ?_); clear hK K)
          (repeat refine HW.seqL ?_); first | refine HW.ite rfl (fun hb => ?_) (fun hb => ?_) | refine HW.iteS rfl (fun hb => ?_) (fun hb => ?_)
          · cases hb
          · refine HW.exit ?_
            (repeat (first | (with_reducible refine Seq.ret ?_) | (with_reducible refine Blk.ret ?_) | (with_reducible refine Blk.here ?_) | (with_reducible refine Seq.exit ?_) | (with_reducible refine Blk.out (by decide) ?_) | (with_reducible refine Blk.normal ?_) | (with_reducible refine Seq.normal ?_)))
            exact ⟨(S, n), ⟨F4, lm, j, hsm, by simp only; omega⟩, rfl, rfl, rfl, rfl, rfl, rfl, trivial⟩
      · rintro ⟨S2, n2⟩ h2 ⟨F2, lm2, j2, hsm2, hn2⟩
        simp only at j2 hsm2 hn2
        simp only [List.zip_cons_cons, List.zip_nil_left]
        refine HW.join (α := Al × Nat) [0, 1, 2, 6, 7, 8] (fun x => [.slice ba xs.length c0, .slice bb ys.length c1, .slice bc zs.length c2, .bool false, ptr c, .map (some q)]) (fun x h' => ∃ F lm, JJ h0 h' c q F lm x.1 x.2 ∧ Small x.1 ∧ x.2 ≤ 40) ?_ ?_
        · (repeat refine HW.seqL ?_); refine HW.seqR rfl (fun K hK => ?_)
          simp -implicitDefEqProofs only [↓XA, XB, XC, TF, UF, exists_eq_left', exists_eq_left, exists_eq_right, implies_true, forall_const, ↓reduceIte, reduceCtorEq, Nat.reduceLeDiff, Nat.reduceLT, Nat.reduceAdd, Nat.reduceMul, Nat.reduceEqDiff, Nat.reduceBEq, Nat.reduceSub, Int.reduceToNat, Int.reduceEq, Int.reduceNe, Int.reduceLT, Int.reduceLE, Int.reduceGT, Int.reduceGE, Int.reduceBEq, Int.reduceBNe, Int.reduceAdd, Int.reduceSub, Int.reduceMul, Int.reduceNeg, evM, nilV, extrV, binV, binI, binS, unV, convV, mkIfV, loadV, rdN, storeV, fieldAddrV, idxAddrV, idxV, fieldV, partV, lenV, capV, sliceV, bndV, stO, wrL, unfr, oneC, Value.cells, ptrV, eqD, tasV, buildV, bslL, buildL, setL, zrepL, eqL, leafEq]
          ((refine hK _ _ ?_); clear hK K)
          refine HW.block ?_
          refine HW.loopV (α := Al × Nat × Nat) [0, 1, 2, 6, 7, 8, 11] (fun x => [.slice ba xs.length c0, .slice bb ys.length c1, .slice bc zs.length c2, .bool false, ptr c, .map (some q), .int .i64 x.2.2]) (fun x h' => ∃ F lm, JJ h0 h' c q F lm x.1 x.2.1 ∧ Small x.1 ∧ x.2.1 ≤ 40 ∧ x.2.2 ≤ 10) (fun x => 10 - x.2.2) (S2, n2, 0) ⟨F2, lm2, j2, hsm2, hn2, by simp⟩ ⟨rfl, rfl, rfl, rfl, rfl, rfl, rfl, trivial⟩ ?_
          rintro ⟨S, n, i⟩ h4 ⟨F4, lm, j, hsm, hni, hi20⟩
          simp only at j hsm hni hi20
          simp only [List.zip_cons_cons, List.zip_nil_left]
          by_cases hlt : i < zs.length
          · by_cases h20 : i < 10
            · have c1 : (i : Int) < (zs.length : Int) := by omega
              have c2 : (i : Int) < 10 := by omega
              obtain ⟨b, o, rfl, hrd⟩ := (hC.keep j.keep).int hlt
              obtain ⟨r, hr, hre⟩ := and_i64 zs[i] 31 (by omega)
              have hre' : andI .i64 zs[i] 31 = (r : Int) := hre
              have w1 : IntKind.i64.wrap ((i : Int) + 1) = ((i + 1 : Nat) : Int) := by rw [wrap_i64 (by omega) (by omega)]; omega
              have hlk : lookupV Try.prog 26 (.map (some q)) (.int .i64 r) true h4 = some (hitO (.int .i64 0) true (lk lm r)) := j.map.lookup lawI mapK_26 zeroK_3 r true
              rw [j.lks] at hlk
              have hlk' : ∃ t, lookupV Try.prog 26 (.map (some q)) (.int .i64 r) true h4 = some (.tuple #[.int .i64 t, .bool (S r).isSome]) := by
                rw [hlk]
                cases S r <;> exact ⟨_, rfl⟩
              obtain ⟨t, hlk'⟩ := hlk'
              (repeat refine HW.seqL ?_); refine HW.seqR rfl (fun K hK => ?_)
              simp -implicitDefEqProofs only [↓XA, XB, XC, TF, UF, exists_eq_left', exists_eq_left, exists_eq_right, implies_true, forall_const, ↓reduceIte, reduceCtorEq, Nat.reduceLeDiff, Nat.reduceLT, Nat.reduceAdd, Nat.reduceMul, Nat.reduceEqDiff, Nat.reduceBEq, Nat.reduceSub, Int.reduceToNat, Int.reduceEq, Int.reduceNe, Int.reduceLT, Int.reduceLE, Int.reduceGT, Int.reduceGE, Int.reduceBEq, Int.reduceBNe, Int.reduceAdd, Int.reduceSub, Int.reduceMul, Int.reduceNeg, evM, nilV, extrV, binV, binI, binS, unV, convV, mkIfV, loadV, rdN, storeV, fieldAddrV, idxAddrV, idxV, fieldV, partV, lenV, capV, sliceV, bndV, stO, wrL, unfr, oneC, Value.cells, ptrV, eqD, tasV, buildV, bslL, buildL, setL, zrepL, eqL, leafEq, c1, c2]
              ((refine hK _ _ ?_); clear hK K)
              (repeat refine HW.seqL ?_); first | refine HW.ite rfl (fun hb => ?_) (fun hb => ?_) | refine HW.iteS rfl (fun hb => ?_) (fun hb => ?_)
              · refine HW.skip ?_
                (repeat (first | (with_reducible refine Seq.ret ?_) | (with_reducible refine Blk.ret ?_) | (with_reducible refine Blk.here ?_) | (with_reducible refine Seq.exit ?_) | (with_reducible refine Blk.out (by decide) ?_) | (with_reducible refine Blk.normal ?_) | (with_reducible refine Seq.normal ?_)))
                (repeat refine HW.seqL ?_)
                refine HW.seq ?_
                refine HW.block ?_
                (repeat refine HW.seqL ?_); refine HW.seqR rfl (fun K hK => ?_)
                simp -implicitDefEqProofs only [↓XA, XB, XC, TF, UF, exists_eq_left', exists_eq_left, exists_eq_right, implies_true, forall_const, ↓reduceIte, reduceCtorEq, Nat.reduceLeDiff, Nat.reduceLT, Nat.reduceAdd, Nat.reduceMul, Nat.reduceEqDiff, Nat.reduceBEq, Nat.reduceSub, Int.reduceToNat, Int.reduceEq, Int.reduceNe, Int.reduceLT, Int.reduceLE, Int.reduceGT, Int.reduceGE, Int.reduceBEq, Int.reduceBNe, Int.reduceAdd, Int.reduceSub, Int.reduceMul, Int.reduceNeg, evM, nilV, extrV, binV, binI, binS, unV, convV, mkIfV, loadV, rdN, storeV, fieldAddrV, idxAddrV, idxV, fieldV, partV, lenV, capV, sliceV, bndV, stO, wrL, unfr, oneC, Value.cells, ptrV, eqD, tasV, buildV, bslL, buildL, setL, zrepL, eqL, leafEq, c1, hrd, hre']
                ((refine hK _ _ ?_); clear hK K)
                (repeat refine HW.seqL ?_); refine HW.seqR rfl (fun K hK => ?_)
                simp -implicitDefEqProofs only [↓XA, XB, XC, TF, UF, exists_eq_left', exists_eq_left, exists_eq_right, implies_true, forall_const, ↓reduceIte, reduceCtorEq, Nat.reduceLeDiff, Nat.reduceLT, Nat.reduceAdd, Nat.reduceMul, Nat.reduceEqDiff, Nat.reduceBEq, Nat.reduceSub, Int.reduceToNat, Int.reduceEq, Int.reduceNe, Int.reduceLT, Int.reduceLE, Int.reduceGT, Int.reduceGE, Int.reduceBEq, Int.reduceBNe, Int.reduceAdd, Int.reduceSub, Int.reduceMul, Int.reduceNeg, evM, nilV, extrV, binV, binI, binS, unV, convV, mkIfV, loadV, rdN, storeV, fieldAddrV, idxAddrV, idxV, fieldV, partV, lenV, capV, sliceV, bndV, stO, wrL, unfr, oneC, Value.cells, ptrV, eqD, tasV, buildV, bslL, buildL, setL, zrepL, eqL, leafEq, hlk']
                ((refine hK _ _ ?_); clear hK K)
                (repeat refine HW.seqL ?_); refine HW.seqR rfl (fun K hK => ?_)
                simp -implicitDefEqProofs only [↓XA, XB, XC, TF, UF, exists_eq_left', exists_eq_left, exists_eq_right, implies_true, forall_const, ↓reduceIte, reduceCtorEq, Nat.reduceLeDiff, Nat.reduceLT, Nat.reduceAdd, Nat.reduceMul, Nat.reduceEqDiff, Nat.reduceBEq, Nat.reduceSub, Int.reduceToNat, Int.reduceEq, Int.reduceNe, Int.reduceLT, Int.reduceLE, Int.reduceGT, Int.reduceGE, Int.reduceBEq, Int.reduceBNe, Int.reduceAdd, Int.reduceSub, Int.reduceMul, Int.reduceNeg, evM, nilV, extrV, binV, binI, binS, unV, convV, mkIfV, loadV, rdN, storeV, fieldAddrV, idxAddrV, idxV, fieldV, partV, lenV, capV, sliceV, bndV, stO, wrL, unfr, oneC, Value.cells, ptrV, eqD, tasV, buildV, bslL, buildL, setL, zrepL, eqL, leafEq]
                refine (cancel_ok j.clk (by omega) r).mono ?_
                rintro v h5 ⟨rfl, F5, n5, hc5, hn5, hs5⟩
                (try simp -implicitDefEqProofs only [↓XA, XB, XC, TF, UF, exists_eq_left', exists_eq_left, exists_eq_right, implies_true, forall_const, ↓reduceIte, reduceCtorEq, Nat.reduceLeDiff, Nat.reduceLT, Nat.reduceAdd, Nat.reduceMul, Nat.reduceEqDiff, Nat.reduceBEq, Nat.reduceSub, Int.reduceToNat, Int.reduceEq, Int.reduceNe, Int.reduceLT, Int.reduceLE, Int.reduceGT, Int.reduceGE, Int.reduceBEq, Int.reduceBNe, Int.reduceAdd, Int.reduceSub, Int.reduceMul, Int.reduceNeg, evM, nilV, extrV, binV, binI, binS, unV, convV, mkIfV, loadV, rdN, storeV, fieldAddrV, idxAddrV, idxV, fieldV, partV, lenV, capV, sliceV, bndV, stO, wrL, unfr, oneC, Value.cells, ptrV, eqD, tasV, buildV, bslL, buildL, setL, zrepL, eqL, leafEq])
                ((refine hK _ _ ?_); clear hK K)
                (repeat refine HW.seqL ?_); first | refine HW.ite rfl (fun hb => ?_) (fun hb => ?_) | refine HW.iteS rfl (fun hb => ?_) (fun hb => ?_)
                · simp at hb
                · refine HW.skip ?_
                  (repeat (first | (with_reducible refine Seq.ret ?_) | (with_reducible refine Blk.ret ?_) | (with_reducible refine Blk.here ?_) | (with_reducible refine Seq.exit ?_) | (with_reducible refine Blk.out (by decide) ?_) | (with_reducible refine Blk.normal ?_) | (with_reducible refine Seq.normal ?_)))
                  have hm5 : KMap encI (h5 q) lm := by rw [j.same hs5]; exact j.map
                  obtain ⟨ob, hset, hmap⟩ := hm5.del (P := Try.prog) (t := 26) lawI mapK_26 r
                  simp only [encI, iv] at hset
                  refine HW.rgnK rfl (fun K hK => ?_)
                  simp -implicitDefEqProofs only [↓XA, XB, XC, TF, UF, exists_eq_left', exists_eq_left, exists_eq_right, implies_true, forall_const, ↓reduceIte, reduceCtorEq, Nat.reduceLeDiff, Nat.reduceLT, Nat.reduceAdd, Nat.reduceMul, Nat.reduceEqDiff, Nat.reduceBEq, Nat.reduceSub, Int.reduceToNat, Int.reduceEq, Int.reduceNe, Int.reduceLT, Int.reduceLE, Int.reduceGT, Int.reduceGE, Int.reduceBEq, Int.reduceBNe, Int.reduceAdd, Int.reduceSub, Int.reduceMul, Int.reduceNeg, evM, nilV, extrV, binV, binI, binS, unV, convV, mkIfV, loadV, rdN, storeV, fieldAddrV, idxAddrV, idxV, fieldV, partV, lenV, capV, sliceV, bndV, stO, wrL, unfr, oneC, Value.cells, ptrV, eqD, tasV, buildV, bslL, buildL, setL, zrepL, eqL, leafEq, hset]
                  ((refine hK _ _ ?_); clear hK K)
                  (repeat (first | (with_reducible refine Seq.ret ?_) | (with_reducible refine Blk.ret ?_) | (with_reducible refine Blk.here ?_) | (with_reducible refine Seq.exit ?_) | (with_reducible refine Blk.out (by decide) ?_) | (with_reducible refine Blk.normal ?_) | (with_reducible refine Seq.normal ?_)))
                  refine HW.rgnK rfl (fun K hK => ?_)
                  simp -implicitDefEqProofs only [↓XA, XB, XC, TF, UF, exists_eq_left', exists_eq_left, exists_eq_right, implies_true, forall_const, ↓reduceIte, reduceCtorEq, Nat.reduceLeDiff, Nat.reduceLT, Nat.reduceAdd, Nat.reduceMul, Nat.reduceEqDiff, Nat.reduceBEq, Nat.reduceSub, Int.reduceToNat, Int.reduceEq, Int.reduceNe, Int.reduceLT, Int.reduceLE, Int.reduceGT, Int.reduceGE, Int.reduceBEq, Int.reduceBNe, Int.reduceAdd, Int.reduceSub, Int.reduceMul, Int.reduceNeg, evM, nilV, extrV, binV, binI, binS, unV, convV, mkIfV, loadV, rdN, storeV, fieldAddrV, idxAddrV, idxV, fieldV, partV, lenV, capV, sliceV, bndV, stO, wrL, unfr, oneC, Value.cells, ptrV, eqD, tasV, buildV, bslL, buildL, setL, zrepL, eqL, leafEq, w1]
                  ((refine hK _ _ ?_); clear hK K)
                  (repeat (first | (with_reducible refine Seq.ret ?_) | (with_reducible refine Blk.ret ?_) | (with_reducible refine Blk.here ?_) | (with_reducible refine Seq.exit ?_) | (with_reducible refine Blk.out (by decide) ?_) | (with_reducible refine Blk.normal ?_) | (with_reducible refine Seq.normal ?_)))
                  refine ⟨(put S r none, n5, i + 1), by simp only; omega, ⟨F5, _, j.put hs5 hc5 hmap (lks_del j.lks _), hsm.del _, ?_, by simp only; omega⟩, rfl, rfl, rfl, rfl, rfl, rfl, rfl, trivial⟩
                  simp only
                  split at hn5 <;> omega
              · cases hb
            · have c1 : (i : Int) < (zs.length : Int) := by omega
              have c2 : ¬ (i : Int) < 10 := by omega
              (repeat refine HW.seqL ?_); refine HW.seqR rfl (fun K hK => ?_)
              simp -implicitDefEqProofs only [↓XA, XB, XC, TF, UF, exists_eq_left', exists_eq_left, exists_eq_right, implies_true, forall_const, ↓reduceIte, reduceCtorEq, Nat.reduceLeDiff, Nat.reduceLT, Nat.reduceAdd, Nat.reduceMul, Nat.reduceEqDiff, Nat.reduceBEq, Nat.reduceSub, Int.reduceToNat, Int.reduceEq, Int.reduceNe, Int.reduceLT, Int.reduceLE, Int.reduceGT, Int.reduceGE, Int.reduceBEq, Int.reduceBNe, Int.reduceAdd, Int.reduceSub, Int.reduceMul, Int.reduceNeg, evM, nilV, extrV, binV, binI, binS, unV, convV, mkIfV, loadV, rdN, storeV, fieldAddrV, idxAddrV, idxV, fieldV, partV, lenV, capV, sliceV, bndV, stO, wrL, unfr, oneC, Value.cells, ptrV, eqD, tasV, buildV, bslL, buildL, setL, zrepL, eqL, leafEq, c1, c2]
              ((refine hK _ _ ?_); clear hK K)
              (repeat refine HW.seqL ?_); first | refine HW.ite rfl (fun hb => ?_) (fun hb => ?_) | refine HW.iteS rfl (fun hb => ?_) (fun hb => ?_)
              · cases hb
              · refine HW.exit ?_
                (repeat (first | (with_reducible refine Seq.ret ?_) | (with_reducible refine Blk.ret ?_) | (with_reducible refine Blk.here ?_) | (with_reducible refine Seq.exit ?_) | (with_reducible refine Blk.out (by decide) ?_) | (with_reducible refine Blk.normal ?_) | (with_reducible refine Seq.normal ?_)))
                exact ⟨(S, n), ⟨F4, lm, j, hsm, by simp only; omega⟩, rfl, rfl, rfl, rfl, rfl, rfl, trivial⟩
          · have c1 : ¬ (i : Int) < (zs.length : Int) := by omega
            (repeat refine HW.seqL ?_); refine HW.seqR rfl (fun K hK => ?_)
            simp -implicitDefEqProofs only [↓XA, XB, XC, TF, UF, exists_eq_left', exists_eq_left, exists_eq_right, implies_true, forall_const, ↓reduceIte, reduceCtorEq, Nat.reduceLeDiff, Nat.reduceLT, Nat.reduceAdd, Nat.reduceMul, Nat.reduceEqDiff, Nat.reduceBEq, Nat.reduceSub, Int.reduceToNat, Int.reduceEq, Int.reduceNe, Int.reduceLT, Int.reduceLE, Int.reduceGT, Int.reduceGE, Int.reduceBEq, Int.reduceBNe, Int.reduceAdd, Int.reduceSub, Int.reduceMul, Int.reduceNeg, evM, nilV, extrV, binV, binI, binS, unV, convV, mkIfV, loadV, rdN, storeV, fieldAddrV, idxAddrV, idxV, fieldV, partV, lenV, capV, sliceV, bndV, stO, wrL, unfr, oneC, Value.cells, ptrV, eqD, tasV, buildV, bslL, buildL, setL, zrepL, eqL, leafEq, c1]
            ((refine hK _ _ ?_); clear hK K)
            (repeat refine HW.seqL ?_); first | refine HW.ite rfl (fun hb => ?_) (fun hb => ?_) | refine HW.iteS rfl (fun hb => ?_) (fun hb => ?_)
            · cases hb
            · refine HW.exit ?_
              (repeat (first | (with_reducible refine Seq.ret ?_) | (with_reducible refine Blk.ret ?_) | (with_reducible refine Blk.here ?_) | (with_reducible refine Seq.exit ?_) | (with_reducible refine Blk.out (by decide) ?_) | (with_reducible refine Blk.normal ?_) | (with_reducible refine Seq.normal ?_)))
              exact ⟨(S, n), ⟨F4, lm, j, hsm, by simp only; omega⟩, rfl, rfl, rfl, rfl, rfl, rfl, trivial⟩
        · rintro ⟨S3, n3⟩ h3 ⟨F3, lm3, j3, hsm3, hn3⟩
          simp only at j3 hsm3 hn3
          simp only [List.zip_cons_cons, List.zip_nil_left]
          refine HW.join (α := Al × Nat) [6, 7, 8] (fun x => [.bool false, ptr c, .map (some q)]) (fun x h' => ∃ F lm, JJ h0 h' c q F lm x.1 x.2 ∧ ∀ k, x.1 k = none) ?_ ?_
          · (repeat refine HW.seqL ?_); refine HW.seqR rfl (fun K hK => ?_)
            simp -implicitDefEqProofs only [↓XA, XB, XC, TF, UF, exists_eq_left', exists_eq_left, exists_eq_right, implies_true, forall_const, ↓reduceIte, reduceCtorEq, Nat.reduceLeDiff, Nat.reduceLT, Nat.reduceAdd, Nat.reduceMul, Nat.reduceEqDiff, Nat.reduceBEq, Nat.reduceSub, Int.reduceToNat, Int.reduceEq, Int.reduceNe, Int.reduceLT, Int.reduceLE, Int.reduceGT, Int.reduceGE, Int.reduceBEq, Int.reduceBNe, Int.reduceAdd, Int.reduceSub, Int.reduceMul, Int.reduceNeg, evM, nilV, extrV, binV, binI, binS, unV, convV, mkIfV, loadV, rdN, storeV, fieldAddrV, idxAddrV, idxV, fieldV, partV, lenV, capV, sliceV, bndV, stO, wrL, unfr, oneC, Value.cells, ptrV, eqD, tasV, buildV, bslL, buildL, setL, zrepL, eqL, leafEq]
            ((refine hK _ _ ?_); clear hK K)
            refine HW.block ?_
            refine HW.loopV (α := Al × Nat × Nat) [6, 7, 8, 102] (fun x => [.bool false, ptr c, .map (some q), .int .i64 x.2.2]) (fun x h' => ∃ F lm, JJ h0 h' c q F lm x.1 x.2.1 ∧ Small x.1 ∧ x.2.1 ≤ 40 ∧ x.2.2 ≤ 256 ∧ ∀ k t, x.1 k = some t → (x.2.2 : Int) ≤ t) (fun x => 256 - x.2.2) (S3, n3, 0) ⟨F3, lm3, j3, hsm3, hn3, by simp, fun k t hk => (hsm3 k t hk).1⟩ ⟨rfl, rfl, rfl, rfl, trivial⟩ ?_
            rintro ⟨S, n, now⟩ h4 ⟨F4, lm, j, hsm, hni, hi20, hnow⟩
            simp only at j hsm hni hi20 hnow
            simp only [List.zip_cons_cons, List.zip_nil_left]
            by_cases hlt : now < 256
            · have c1 : (now : Int) < 256 := by omega
              have w1 : IntKind.i64.wrap ((now : Int) + 1) = ((now + 1 : Nat) : Int) := by rw [wrap_i64 (by omega) (by omega)]; omega
              (repeat refine HW.seqL ?_); refine HW.seqR rfl (fun K hK => ?_)
              simp -implicitDefEqProofs only [↓XA, XB, XC, TF, UF, exists_eq_left', exists_eq_left, exists_eq_right, implies_true, forall_const, ↓reduceIte, reduceCtorEq, Nat.reduceLeDiff, Nat.reduceLT, Nat.reduceAdd, Nat.reduceMul, Nat.reduceEqDiff, Nat.reduceBEq, Nat.reduceSub, Int.reduceToNat, Int.reduceEq, Int.reduceNe, Int.reduceLT, Int.reduceLE, Int.reduceGT, Int.reduceGE, Int.reduceBEq, Int.reduceBNe, Int.reduceAdd, Int.reduceSub, Int.reduceMul, Int.reduceNeg, evM, nilV, extrV, binV, binI, binS, unV, convV, mkIfV, loadV, rdN, storeV, fieldAddrV, idxAddrV, idxV, fieldV, partV, lenV, capV, sliceV, bndV, stO, wrL, unfr, oneC, Value.cells, ptrV, eqD, tasV, buildV, bslL, buildL, setL, zrepL, eqL, leafEq, c1]
              ((refine hK _ _ ?_); clear hK K)
              (repeat refine HW.seqL ?_); first | refine HW.ite rfl (fun hb => ?_) (fun hb => ?_) | refine HW.iteS rfl (fun hb => ?_) (fun hb => ?_)
              · refine HW.skip ?_
                (repeat (first | (with_reducible refine Seq.ret ?_) | (with_reducible refine Blk.ret ?_) | (with_reducible refine Blk.here ?_) | (with_reducible refine Seq.exit ?_) | (with_reducible refine Blk.out (by decide) ?_) | (with_reducible refine Blk.normal ?_) | (with_reducible refine Seq.normal ?_)))
                (repeat refine HW.seqL ?_)
                refine HW.seq ?_
                refine HW.block ?_
                (repeat refine HW.seqL ?_); refine HW.seqR rfl (fun K hK => ?_)
                simp -implicitDefEqProofs only [↓XA, XB, XC, TF, UF, exists_eq_left', exists_eq_left, exists_eq_right, implies_true, forall_const, ↓reduceIte, reduceCtorEq, Nat.reduceLeDiff, Nat.reduceLT, Nat.reduceAdd, Nat.reduceMul, Nat.reduceEqDiff, Nat.reduceBEq, Nat.reduceSub, Int.reduceToNat, Int.reduceEq, Int.reduceNe, Int.reduceLT, Int.reduceLE, Int.reduceGT, Int.reduceGE, Int.reduceBEq, Int.reduceBNe, Int.reduceAdd, Int.reduceSub, Int.reduceMul, Int.reduceNeg, evM, nilV, extrV, binV, binI, binS, unV, convV, mkIfV, loadV, rdN, storeV, fieldAddrV, idxAddrV, idxV, fieldV, partV, lenV, capV, sliceV, bndV, stO, wrL, unfr, oneC, Value.cells, ptrV, eqD, tasV, buildV, bslL, buildL, setL, zrepL, eqL, leafEq]
                ((refine hK _ _ ?_); clear hK K)
                (repeat refine HW.seqL ?_); refine HW.seqR rfl (fun K hK => ?_)
                simp -implicitDefEqProofs only [↓XA, XB, XC, TF, UF, exists_eq_left', exists_eq_left, exists_eq_right, implies_true, forall_const, ↓reduceIte, reduceCtorEq, Nat.reduceLeDiff, Nat.reduceLT, Nat.reduceAdd, Nat.reduceMul, Nat.reduceEqDiff, Nat.reduceBEq, Nat.reduceSub, Int.reduceToNat, Int.reduceEq, Int.reduceNe, Int.reduceLT, Int.reduceLE, Int.reduceGT, Int.reduceGE, Int.reduceBEq, Int.reduceBNe, Int.reduceAdd, Int.reduceSub, Int.reduceMul, Int.reduceNeg, evM, nilV, extrV, binV, binI, binS, unV, convV, mkIfV, loadV, rdN, storeV, fieldAddrV, idxAddrV, idxV, fieldV, partV, lenV, capV, sliceV, bndV, stO, wrL, unfr, oneC, Value.cells, ptrV, eqD, tasV, buildV, bslL, buildL, setL, zrepL, eqL, leafEq]
                refine (due_ok j.clk (by omega) now).mono ?_
                rintro v h5 ⟨rs, ob, F5, S5, n5, hr, hq5, hc5, hs5, hown, hob⟩
                obtain ⟨base, cap, rfl⟩ := Own.val hown
                (try simp -implicitDefEqProofs only [↓XA, XB, XC, TF, UF, exists_eq_left', exists_eq_left, exists_eq_right, implies_true, forall_const, ↓reduceIte, reduceCtorEq, Nat.reduceLeDiff, Nat.reduceLT, Nat.reduceAdd, Nat.reduceMul, Nat.reduceEqDiff, Nat.reduceBEq, Nat.reduceSub, Int.reduceToNat, Int.reduceEq, Int.reduceNe, Int.reduceLT, Int.reduceLE, Int.reduceGT, Int.reduceGE, Int.reduceBEq, Int.reduceBNe, Int.reduceAdd, Int.reduceSub, Int.reduceMul, Int.reduceNeg, evM, nilV, extrV, binV, binI, binS, unV, convV, mkIfV, loadV, rdN, storeV, fieldAddrV, idxAddrV, idxV, fieldV, partV, lenV, capV, sliceV, bndV, stO, wrL, unfr, oneC, Value.cells, ptrV, eqD, tasV, buildV, bslL, buildL, setL, zrepL, eqL, leafEq])
                ((refine hK _ _ ?_); clear hK K)
                obtain ⟨har, _, hbo⟩ := hown.ar
                obtain ⟨k5, f5⟩ := hs5.keep j.keep j.f0
                obtain ⟨sp1, sp2, sp3⟩ := hr.spec
                have hle := hr.le
                refine HW.block ?_
                refine HW.loopV (α := List (Int × Value) × Nat) [6, 7, 8, 15, 102, 107, 108, 109] (fun x => [.bool false, ptr c, .map (some q), .int .i64 now, .int .i64 now, .slice base rs.length cap, .int .i64 rs.length, .int .i64 x.2]) (fun x h' => Clk h' c F5 S5 n5 ∧ KMap encI (h' q) x.1 ∧ Keep h0 h' ∧ ArV h' base (ints rs) ∧ (∀ k, lk x.1 k = if k ∈ rs.take x.2 then none else (S k).map iv) ∧ x.2 ≤ rs.length) (fun x => rs.length - x.2) (lm, 0) ⟨hc5, by rw [j.same hs5]; exact j.map, k5, har, fun k => by simpa using j.lks k, by simp⟩ ⟨rfl, rfl, rfl, rfl, rfl, rfl, rfl, rfl, trivial⟩ ?_
                rintro ⟨lm5, jj⟩ h6 ⟨hc6, hm6, hk6, har6, hl6, hj6⟩
                simp only at hm6 hl6 hj6
                simp only [List.zip_cons_cons, List.zip_nil_left]
                by_cases hjj : jj < rs.length
                · have c3 : (jj : Int) < (rs.length : Int) := by omega
                  have w2 : IntKind.i64.wrap ((jj : Int) + 1) = ((jj + 1 : Nat) : Int) := by rw [wrap_i64 (by omega) (by omega)]; omega
                  obtain ⟨b, o, rfl, hrd⟩ := har6.int hjj
                  have hnt : rs[jj] ∉ rs.take jj := not_in_take sp1 hjj
                  obtain ⟨t, ht1, ht2⟩ := sp3 rs[jj] (List.getElem_mem hjj)
                  have ht : t = (now : Int) := by
                    have := hnow _ _ ht1
                    omega
                  subst ht
                  have hlk : lookupV Try.prog 26 (.map (some q)) (.int .i64 rs[jj]) true h6 = some (hitO (.int .i64 0) true (lk lm5 rs[jj])) := hm6.lookup lawI mapK_26 zeroK_3 rs[jj] true
                  rw [hl6, if_neg hnt, ht1] at hlk
                  simp only [Option.map_some, hitO, iv, if_true] at hlk
                  obtain ⟨od, hset, hmap⟩ := hm6.del (P := Try.prog) (t := 26) lawI mapK_26 rs[jj]
                  simp only [encI] at hset
                  (repeat refine HW.seqL ?_); refine HW.seqR rfl (fun K hK => ?_)
                  simp -implicitDefEqProofs only [↓XA, XB, XC, TF, UF, exists_eq_left', exists_eq_left, exists_eq_right, implies_true, forall_const, ↓reduceIte, reduceCtorEq, Nat.reduceLeDiff, Nat.reduceLT, Nat.reduceAdd, Nat.reduceMul, Nat.reduceEqDiff, Nat.reduceBEq, Nat.reduceSub, Int.reduceToNat, Int.reduceEq, Int.reduceNe, Int.reduceLT, Int.reduceLE, Int.reduceGT, Int.reduceGE, Int.reduceBEq, Int.reduceBNe, Int.reduceAdd, Int.reduceSub, Int.reduceMul, Int.reduceNeg, evM, nilV, extrV, binV, binI, binS, unV, convV, mkIfV, loadV, rdN, storeV, fieldAddrV, idxAddrV, idxV, fieldV, partV, lenV, capV, sliceV, bndV, stO, wrL, unfr, oneC, Value.cells, ptrV, eqD, tasV, buildV, bslL, buildL, setL, zrepL, eqL, leafEq, c3]
                  ((refine hK _ _ ?_); clear hK K)
                  (repeat refine HW.seqL ?_); first | refine HW.ite rfl (fun hb => ?_) (fun hb => ?_) | refine HW.iteS rfl (fun hb => ?_) (fun hb => ?_)
                  · refine HW.skip ?_
                    (repeat (first | (with_reducible refine Seq.ret ?_) | (with_reducible refine Blk.ret ?_) | (with_reducible refine Blk.here ?_) | (with_reducible refine Seq.exit ?_) | (with_reducible refine Blk.out (by decide) ?_) | (with_reducible refine Blk.normal ?_) | (with_reducible refine Seq.normal ?_)))
                    (repeat refine HW.seqL ?_)
                    refine HW.seq ?_
                    refine HW.block ?_
                    (repeat refine HW.seqL ?_); refine HW.seqR rfl (fun K hK => ?_)
                    simp -implicitDefEqProofs only [↓XA, XB, XC, TF, UF, exists_eq_left', exists_eq_left, exists_eq_right, implies_true, forall_const, ↓reduceIte, reduceCtorEq, Nat.reduceLeDiff, Nat.reduceLT, Nat.reduceAdd, Nat.reduceMul, Nat.reduceEqDiff, Nat.reduceBEq, Nat.reduceSub, Int.reduceToNat, Int.reduceEq, Int.reduceNe, Int.reduceLT, Int.reduceLE, Int.reduceGT, Int.reduceGE, Int.reduceBEq, Int.reduceBNe, Int.reduceAdd, Int.reduceSub, Int.reduceMul, Int.reduceNeg, evM, nilV, extrV, binV, binI, binS, unV, convV, mkIfV, loadV, rdN, storeV, fieldAddrV, idxAddrV, idxV, fieldV, partV, lenV, capV, sliceV, bndV, stO, wrL, unfr, oneC, Value.cells, ptrV, eqD, tasV, buildV, bslL, buildL, setL, zrepL, eqL, leafEq, c3, hrd]
                    ((refine hK _ _ ?_); clear hK K)
                    (repeat refine HW.seqL ?_); refine HW.seqR rfl (fun K hK => ?_)
                    simp -implicitDefEqProofs only [↓XA, XB, XC, TF, UF, exists_eq_left', exists_eq_left, exists_eq_right, implies_true, forall_const, ↓reduceIte, reduceCtorEq, Nat.reduceLeDiff, Nat.reduceLT, Nat.reduceAdd, Nat.reduceMul, Nat.reduceEqDiff, Nat.reduceBEq, Nat.reduceSub, Int.reduceToNat, Int.reduceEq, Int.reduceNe, Int.reduceLT, Int.reduceLE, Int.reduceGT, Int.reduceGE, Int.reduceBEq, Int.reduceBNe, Int.reduceAdd, Int.reduceSub, Int.reduceMul, Int.reduceNeg, evM, nilV, extrV, binV, binI, binS, unV, convV, mkIfV, loadV, rdN, storeV, fieldAddrV, idxAddrV, idxV, fieldV, partV, lenV, capV, sliceV, bndV, stO, wrL, unfr, oneC, Value.cells, ptrV, eqD, tasV, buildV, bslL, buildL, setL, zrepL, eqL, leafEq, hlk]
                    ((refine hK _ _ ?_); clear hK K)
                    (repeat refine HW.seqL ?_); refine HW.seqR rfl (fun K hK => ?_)
                    simp -implicitDefEqProofs only [↓XA, XB, XC, TF, UF, exists_eq_left', exists_eq_left, exists_eq_right, implies_true, forall_const, ↓reduceIte, reduceCtorEq, Nat.reduceLeDiff, Nat.reduceLT, Nat.reduceAdd, Nat.reduceMul, Nat.reduceEqDiff, Nat.reduceBEq, Nat.reduceSub, Int.reduceToNat, Int.reduceEq, Int.reduceNe, Int.reduceLT, Int.reduceLE, Int.reduceGT, Int.reduceGE, Int.reduceBEq, Int.reduceBNe, Int.reduceAdd, Int.reduceSub, Int.reduceMul, Int.reduceNeg, evM, nilV, extrV, binV, binI, binS, unV, convV, mkIfV, loadV, rdN, storeV, fieldAddrV, idxAddrV, idxV, fieldV, partV, lenV, capV, sliceV, bndV, stO, wrL, unfr, oneC, Value.cells, ptrV, eqD, tasV, buildV, bslL, buildL, setL, zrepL, eqL, leafEq, bne_self_eq_false]
                    ((refine hK _ _ ?_); clear hK K)
                    (repeat refine HW.seqL ?_); first | refine HW.ite rfl (fun hb => ?_) (fun hb => ?_) | refine HW.iteS rfl (fun hb => ?_) (fun hb => ?_)
                    · cases hb
                    · refine HW.skip ?_
                      (repeat (first | (with_reducible refine Seq.ret ?_) | (with_reducible refine Blk.ret ?_) | (with_reducible refine Blk.here ?_) | (with_reducible refine Seq.exit ?_) | (with_reducible refine Blk.out (by decide) ?_) | (with_reducible refine Blk.normal ?_) | (with_reducible refine Seq.normal ?_)))
                      refine HW.rgnK rfl (fun K hK => ?_)
                      simp -implicitDefEqProofs only [↓XA, XB, XC, TF, UF, exists_eq_left', exists_eq_left, exists_eq_right, implies_true, forall_const, ↓reduceIte, reduceCtorEq, Nat.reduceLeDiff, Nat.reduceLT, Nat.reduceAdd, Nat.reduceMul, Nat.reduceEqDiff, Nat.reduceBEq, Nat.reduceSub, Int.reduceToNat, Int.reduceEq, Int.reduceNe, Int.reduceLT, Int.reduceLE, Int.reduceGT, Int.reduceGE, Int.reduceBEq, Int.reduceBNe, Int.reduceAdd, Int.reduceSub, Int.reduceMul, Int.reduceNeg, evM, nilV, extrV, binV, binI, binS, unV, convV, mkIfV, loadV, rdN, storeV, fieldAddrV, idxAddrV, idxV, fieldV, partV, lenV, capV, sliceV, bndV, stO, wrL, unfr, oneC, Value.cells, ptrV, eqD, tasV, buildV, bslL, buildL, setL, zrepL, eqL, leafEq, hset]
                      ((refine hK _ _ ?_); clear hK K)
                      (repeat (first | (with_reducible refine Seq.ret ?_) | (with_reducible refine Blk.ret ?_) | (with_reducible refine Blk.here ?_) | (with_reducible refine Seq.exit ?_) | (with_reducible refine Blk.out (by decide) ?_) | (with_reducible refine Blk.normal ?_) | (with_reducible refine Seq.normal ?_)))
                      refine HW.rgnK rfl (fun K hK => ?_)
                      simp -implicitDefEqProofs only [↓XA, XB, XC, TF, UF, exists_eq_left', exists_eq_left, exists_eq_right, implies_true, forall_const, ↓reduceIte, reduceCtorEq, Nat.reduceLeDiff, Nat.reduceLT, Nat.reduceAdd, Nat.reduceMul, Nat.reduceEqDiff, Nat.reduceBEq, Nat.reduceSub, Int.reduceToNat, Int.reduceEq, Int.reduceNe, Int.reduceLT, Int.reduceLE, Int.reduceGT, Int.reduceGE, Int.reduceBEq, Int.reduceBNe, Int.reduceAdd, Int.reduceSub, Int.reduceMul, Int.reduceNeg, evM, nilV, extrV, binV, binI, binS, unV, convV, mkIfV, loadV, rdN, storeV, fieldAddrV, idxAddrV, idxV, fieldV, partV, lenV, capV, sliceV, bndV, stO, wrL, unfr, oneC, Value.cells, ptrV, eqD, tasV, buildV, bslL, buildL, setL, zrepL, eqL, leafEq, w2]
                      ((refine hK _ _ ?_); clear hK K)
                      (repeat (first | (with_reducible refine Seq.ret ?_) | (with_reducible refine Blk.ret ?_) | (with_reducible refine Blk.here ?_) | (with_reducible refine Seq.exit ?_) | (with_reducible refine Blk.out (by decide) ?_) | (with_reducible refine Blk.normal ?_) | (with_reducible refine Seq.normal ?_)))
                      have hbq : b ≠ q := by
                        rintro rfl
                        rcases (hob b (hbo b o rfl)).1 with e | e
                        · exact j.qn e
                        · exact j.nq e
                      refine ⟨(delA lm5 rs[jj], jj + 1), by simp only; omega, ⟨hc6.upd (j.nq2 hs5) _, by rw [upd_same]; exact hmap, hk6.upd j.q0 _, har6.frame (fun b' o' e => by cases e; exact upd_ne _ _ _ hbq), ?_, by simp only; omega⟩, rfl, rfl, rfl, rfl, rfl, rfl, rfl, rfl, trivial⟩
                      intro k
                      simp only
                      rw [delA_lk, hl6]
                      have hmem := mem_take_succ hjj k
                      by_cases e : k = rs[jj]
                      · rw [if_pos e, if_pos (hmem.2 (.inr e))]
                      · rw [if_neg e]
                        by_cases e2 : k ∈ rs.take jj
                        · rw [if_pos e2, if_pos (hmem.2 (.inl e2))]
                        · rw [if_neg e2, if_neg (fun m => (hmem.1 m).elim e2 e)]
                  · cases hb
                · have c3 : ¬ (jj : Int) < (rs.length : Int) := by omega
                  (repeat refine HW.seqL ?_); refine HW.seqR rfl (fun K hK => ?_)
                  simp -implicitDefEqProofs only [↓XA, XB, XC, TF, UF, exists_eq_left', exists_eq_left, exists_eq_right, implies_true, forall_const, ↓reduceIte, reduceCtorEq, Nat.reduceLeDiff, Nat.reduceLT, Nat.reduceAdd, Nat.reduceMul, Nat.reduceEqDiff, Nat.reduceBEq, Nat.reduceSub, Int.reduceToNat, Int.reduceEq, Int.reduceNe, Int.reduceLT, Int.reduceLE, Int.reduceGT, Int.reduceGE, Int.reduceBEq, Int.reduceBNe, Int.reduceAdd, Int.reduceSub, Int.reduceMul, Int.reduceNeg, evM, nilV, extrV, binV, binI, binS, unV, convV, mkIfV, loadV, rdN, storeV, fieldAddrV, idxAddrV, idxV, fieldV, partV, lenV, capV, sliceV, bndV, stO, wrL, unfr, oneC, Value.cells, ptrV, eqD, tasV, buildV, bslL, buildL, setL, zrepL, eqL, leafEq, c3]
                  ((refine hK _ _ ?_); clear hK K)
                  (repeat refine HW.seqL ?_); first | refine HW.ite rfl (fun hb => ?_) (fun hb => ?_) | refine HW.iteS rfl (fun hb => ?_) (fun hb => ?_)
                  · cases hb
                  · refine HW.exit ?_
                    (repeat (first | (with_reducible refine Seq.ret ?_) | (with_reducible refine Blk.ret ?_) | (with_reducible refine Blk.here ?_) | (with_reducible refine Seq.exit ?_) | (with_reducible refine Blk.out (by decide) ?_) | (with_reducible refine Blk.normal ?_) | (with_reducible refine Seq.normal ?_)))
                    refine HW.rgnK rfl (fun K hK => ?_)
                    simp -implicitDefEqProofs only [↓XA, XB, XC, TF, UF, exists_eq_left', exists_eq_left, exists_eq_right, implies_true, forall_const, ↓reduceIte, reduceCtorEq, Nat.reduceLeDiff, Nat.reduceLT, Nat.reduceAdd, Nat.reduceMul, Nat.reduceEqDiff, Nat.reduceBEq, Nat.reduceSub, Int.reduceToNat, Int.reduceEq, Int.reduceNe, Int.reduceLT, Int.reduceLE, Int.reduceGT, Int.reduceGE, Int.reduceBEq, Int.reduceBNe, Int.reduceAdd, Int.reduceSub, Int.reduceMul, Int.reduceNeg, evM, nilV, extrV, binV, binI, binS, unV, convV, mkIfV, loadV, rdN, storeV, fieldAddrV, idxAddrV, idxV, fieldV, partV, lenV, capV, sliceV, bndV, stO, wrL, unfr, oneC, Value.cells, ptrV, eqD, tasV, buildV, bslL, buildL, setL, zrepL, eqL, leafEq, w1]
                    ((refine hK _ _ ?_); clear hK K)
                    (repeat (first | (with_reducible refine Seq.ret ?_) | (with_reducible refine Blk.ret ?_) | (with_reducible refine Blk.here ?_) | (with_reducible refine Seq.exit ?_) | (with_reducible refine Blk.out (by decide) ?_) | (with_reducible refine Blk.normal ?_) | (with_reducible refine Seq.normal ?_)))
                    have hall : jj = rs.length := by omega
                    subst hall
                    rw [List.take_length] at hl6
                    refine ⟨(S5, n5, now + 1), by simp only; omega, ⟨F5, lm5, ⟨hc6, hm6, j.nq2 hs5, j.q0, hk6, f5, ?_⟩, ?_, by simp only; omega, by simp only; omega, ?_⟩, rfl, rfl, rfl, rfl, trivial⟩
                    · intro k
                      simp only
                      rw [hl6, sp2]
                      split <;> rfl
                    · intro k t hk
                      simp only at hk
                      rw [sp2] at hk
                      split at hk
                      · cases hk
                      · exact hsm k t hk
                    · intro k t hk
                      have := hq5 k t hk
                      simp only
                      omega
              · cases hb
            · have c1 : ¬ (now : Int) < 256 := by omega
              (repeat refine HW.seqL ?_); refine HW.seqR rfl (fun K hK => ?_)
              simp -implicitDefEqProofs only [↓XA, XB, XC, TF, UF, exists_eq_left', exists_eq_left, exists_eq_right, implies_true, forall_const, ↓reduceIte, reduceCtorEq, Nat.reduceLeDiff, Nat.reduceLT, Nat.reduceAdd, Nat.reduceMul, Nat.reduceEqDiff, Nat.reduceBEq, Nat.reduceSub, Int.reduceToNat, Int.reduceEq, Int.reduceNe, Int.reduceLT, Int.reduceLE, Int.reduceGT, Int.reduceGE, Int.reduceBEq, Int.reduceBNe, Int.reduceAdd, Int.reduceSub, Int.reduceMul, Int.reduceNeg, evM, nilV, extrV, binV, binI, binS, unV, convV, mkIfV, loadV, rdN, storeV, fieldAddrV, idxAddrV, idxV, fieldV, partV, lenV, capV, sliceV, bndV, stO, wrL, unfr, oneC, Value.cells, ptrV, eqD, tasV, buildV, bslL, buildL, setL, zrepL, eqL, leafEq, c1]
              ((refine hK _ _ ?_); clear hK K)
              (repeat refine HW.seqL ?_); first | refine HW.ite rfl (fun hb => ?_) (fun hb => ?_) | refine HW.iteS rfl (fun hb => ?_) (fun hb => ?_)
              · cases hb
              · refine HW.exit ?_
                (repeat (first | (with_reducible refine Seq.ret ?_) | (with_reducible refine Blk.ret ?_) | (with_reducible refine Blk.here ?_) | (with_reducible refine Seq.exit ?_) | (with_reducible refine Blk.out (by decide) ?_) | (with_reducible refine Blk.normal ?_) | (with_reducible refine Seq.normal ?_)))
                refine ⟨(S, n), ⟨F4, lm, j, ?_⟩, rfl, rfl, rfl, trivial⟩
                intro k
                simp only
                cases hk : S k with
                | none => rfl
                | some t =>
                  have h1 := hsm k t hk
                  have h2 := hnow k t hk
                  omega
          · rintro ⟨S4, n4⟩ h4 ⟨F4, lm4, j4, hall⟩
            simp only at j4 hall
            simp only [List.zip_cons_cons, List.zip_nil_left]
            have hl : lm4 = [] := by
              cases lm4 with
              | nil => rfl
              | cons p l =>
                have := j4.lks p.1
                rw [hall, show p :: l = (p.1, p.2) :: l from rfl, lk_cons, if_pos rfl] at this
                cases this
            subst hl
            obtain ⟨es, hes, hel⟩ := j4.map.ents
            have hn4 : n4 = 0 := by
              obtain ⟨m, rv, ob, a, l, hd, _⟩ := j4.clk
              by_cases e : n4 = 0
              · exact e
              · have := hd.to 0 (by omega)
                rw [hall] at this; cases this
            subst hn4
            have hel' : es.length = 0 := hel
            (repeat refine HW.seqL ?_); refine HW.seqR rfl (fun K hK => ?_)
            simp -implicitDefEqProofs only [↓XA, XB, XC, TF, UF, exists_eq_left', exists_eq_left, exists_eq_right, implies_true, forall_const, ↓reduceIte, reduceCtorEq, Nat.reduceLeDiff, Nat.reduceLT, Nat.reduceAdd, Nat.reduceMul, Nat.reduceEqDiff, Nat.reduceBEq, Nat.reduceSub, Int.reduceToNat, Int.reduceEq, Int.reduceNe, Int.reduceLT, Int.reduceLE, Int.reduceGT, Int.reduceGE, Int.reduceBEq, Int.reduceBNe, Int.reduceAdd, Int.reduceSub, Int.reduceMul, Int.reduceNeg, evM, nilV, extrV, binV, binI, binS, unV, convV, mkIfV, loadV, rdN, storeV, fieldAddrV, idxAddrV, idxV, fieldV, partV, lenV, capV, sliceV, bndV, stO, wrL, unfr, oneC, Value.cells, ptrV, eqD, tasV, buildV, bslL, buildL, setL, zrepL, eqL, leafEq, hes, hel', Int.natCast_zero, beq_self_eq_true]
            refine (len_ok j4.clk).mono ?_
            rintro v h5 ⟨rfl, rfl⟩
            (try simp -implicitDefEqProofs only [↓XA, XB, XC, TF, UF, exists_eq_left', exists_eq_left, exists_eq_right, implies_true, forall_const, ↓reduceIte, reduceCtorEq, Nat.reduceLeDiff, Nat.reduceLT, Nat.reduceAdd, Nat.reduceMul, Nat.reduceEqDiff, Nat.reduceBEq, Nat.reduceSub, Int.reduceToNat, Int.reduceEq, Int.reduceNe, Int.reduceLT, Int.reduceLE, Int.reduceGT, Int.reduceGE, Int.reduceBEq, Int.reduceBNe, Int.reduceAdd, Int.reduceSub, Int.reduceMul, Int.reduceNeg, evM, nilV, extrV, binV, binI, binS, unV, convV, mkIfV, loadV, rdN, storeV, fieldAddrV, idxAddrV, idxV, fieldV, partV, lenV, capV, sliceV, bndV, stO, wrL, unfr, oneC, Value.cells, ptrV, eqD, tasV, buildV, bslL, buildL, setL, zrepL, eqL, leafEq, Int.natCast_zero, beq_self_eq_true])
            ((refine hK _ _ ?_); clear hK K)
            ((refine HW.ret ?_); (repeat (first | (with_reducible refine Seq.ret ?_) | (with_reducible refine Blk.ret ?_))); (refine RetK.one rfl ?_))
            exact ⟨rfl, j4.keep⟩
end Go.Proofs.Ytiiglipmekeikaa
