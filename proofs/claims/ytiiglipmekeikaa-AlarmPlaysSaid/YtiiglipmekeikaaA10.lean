/- The reference's list stands for the alarms; its Due. -/
import Derived.Test.YtiiglipmekeikaaA9
set_option linter.unusedVariables false
set_option linter.unusedSimpArgs false
namespace Go.Proofs.Ytiiglipmekeikaa
open Go.Hx

def Rep (L : List (Int × Int)) (S : Al) : Prop := (L.map (·.1)).Nodup ∧ ∀ k t, S k = some t ↔ (k, t) ∈ L
theorem Rep.nil : Rep [] (fun _ => none) := ⟨List.nodup_nil, fun k t => by simp⟩
theorem Rep.mem_id {L : List (Int × Int)} {S : Al} (h : Rep L S) {p : Int × Int} (hp : p ∈ L) : S p.1 = some p.2 := (h.2 _ _).2 hp
theorem Rep.none {L : List (Int × Int)} {S : Al} (h : Rep L S) {k : Int} : S k = none ↔ ∀ p ∈ L, p.1 ≠ k := by
  constructor
  · intro e p hp e'
    rw [← e', h.mem_id hp] at e
    cases e
  · intro e
    cases hs : S k with
    | none => rfl
    | some t => exact absurd rfl (e _ ((h.2 k t).1 hs))
theorem Rep.out {L : List (Int × Int)} {S : Al} (h : Rep L S) (k : Int) : Rep (wo k L) (put S k Option.none) := by
  refine ⟨h.1.sublist ((List.filter_sublist).map _), fun k' t => ?_⟩
  unfold put Go.Proofs.Ytiiglipmekeikaa.wo
  rw [List.mem_filter]
  by_cases e : k' = k
  · simp [e]
  · simp [e, h.2]
theorem Rep.add {L : List (Int × Int)} {S : Al} (h : Rep L S) (k t : Int) : Rep (wo k L ++ [(k, t)]) (put S k (some t)) := by
  obtain ⟨h1, h2⟩ := h.out k
  refine ⟨?_, fun k' t' => ?_⟩
  · rw [List.map_append, List.nodup_append]
    refine ⟨h1, by simp, ?_⟩
    intro a ha b hb
    simp only [List.map_cons, List.map_nil, List.mem_singleton] at hb
    subst hb
    rintro rfl
    simp only [List.mem_map] at ha
    obtain ⟨p, hp, e⟩ := ha
    unfold Go.Proofs.Ytiiglipmekeikaa.wo at hp
    simp [List.mem_filter, e] at hp
  · rw [List.mem_append, ← h2 k' t']
    unfold put
    by_cases e : k' = k
    · subst e; simp [eq_comm]
    · simp [e]
theorem wo_length {L : List (Int × Int)} {S : Al} (h : Rep L S) (k : Int) : (wo k L).length = if S k = none then L.length else L.length - 1 := by
  obtain ⟨hn, hS⟩ := h
  by_cases e : S k = none
  · rw [if_pos e]
    have := Rep.none ⟨hn, hS⟩ |>.1 e
    unfold wo
    rw [List.filter_eq_self.2]
    intro p hp
    simpa using this p hp
  · rw [if_neg e]
    obtain ⟨t, ht⟩ : ∃ t, S k = some t := by
      cases hs : S k with
      | none => exact absurd hs e
      | some t => exact ⟨t, rfl⟩
    have hm := (hS k t).1 ht
    clear hS e ht
    induction L with
    | nil => simp at hm
    | cons p L ih =>
      simp only [List.map_cons, List.nodup_cons] at hn
      unfold wo at *
      rcases List.mem_cons.1 hm with e | e
      · subst e
        rw [List.filter_cons_of_neg (by simp), List.filter_eq_self.2]
        · simp
        · intro q hq
          simp only [decide_eq_true_eq]
          intro e
          exact hn.1 (List.mem_map.2 ⟨q, hq, e⟩)
      · have hne : p.1 ≠ k := by
          intro e'
          exact hn.1 (List.mem_map.2 ⟨_, e, e'.symm⟩)
        rw [List.filter_cons_of_pos (by simpa using hne), List.length_cons, ih hn.2 e, List.length_cons]
        have := List.length_pos_of_mem e
        omega
theorem Rep.first {L : List (Int × Int)} {S : Al} (h : Rep L S) {j : Nat} (hj : j < L.length) (hm : ∀ m (hm : m < L.length), ¬ ltP L[m] L[j]) : First S L[j].1 L[j].2 := by
  refine ⟨h.mem_id (List.getElem_mem hj), fun k' t' hk => ?_⟩
  obtain ⟨m, hml, e⟩ := List.getElem_of_mem ((h.2 _ _).1 hk)
  have := hm m hml
  rw [e] at this
  unfold ltP at this
  simp only at this
  omega
theorem Rep.empty {L : List (Int × Int)} {S : Al} (h : Rep L S) (e : L = []) : ∀ k, S k = Option.none := by
  intro k
  rw [h.none]
  subst e
  intro p hp
  simp at hp

theorem dueR_ok {h : Hp} {base : Option Addr} {cap : Nat} {L : List (Int × Int)} {S : Al} (ha : ArV h base (cellsL L)) (hl : L.length < 2 ^ 39) (hR : Rep L S) (now : Int) :
    CallK Try.prog 15 [.slice base L.length cap, .int .i64 now] h fun v h' => Keep h h' ∧ ∃ b1 c1 L' b2 c2 ys S', v = .tuple #[.slice b1 L'.length c1, .slice b2 ys.length c2] ∧ ArV h' b1 (cellsL L') ∧ ArV h' b2 (ints ys) ∧ Rep L' S' ∧ Rings S L.length now ys S' L'.length ∧ Still2 now S' ∧ (∀ bb o, b1 = some ⟨bb, o, none⟩ → L' ≠ [] → (base = some ⟨bb, o, none⟩ ∧ L ≠ []) ∨ h bb = none) := by
  refine CallK.of Try.func15 (by kernel_rfl) rfl Try.ntmps15 (rs := _) Try.results15 (by simp) ?_; simp only [envOf, Nat.zero_add, Nat.reduceAdd]
  (repeat refine HW.seqL ?_); refine HW.seqR rfl (fun K hK => ?_)
  simp -implicitDefEqProofs only [↓XA, XB, XC, TF, UF, exists_eq_left', exists_eq_left, exists_eq_right, implies_true, forall_const, ↓reduceIte, reduceCtorEq, Nat.reduceLeDiff, Nat.reduceLT, Nat.reduceAdd, Nat.reduceMul, Nat.reduceEqDiff, Nat.reduceBEq, Nat.reduceSub, Int.reduceToNat, Int.reduceEq, Int.reduceNe, Int.reduceLT, Int.reduceLE, Int.reduceGT, Int.reduceGE, Int.reduceBEq, Int.reduceBNe, Int.reduceAdd, Int.reduceSub, Int.reduceMul, Int.reduceNeg, evM, nilV, extrV, binV, binI, binS, unV, convV, mkIfV, loadV, rdN, storeV, fieldAddrV, idxAddrV, idxV, fieldV, partV, lenV, capV, sliceV, bndV, stO, wrL, unfr, oneC, Value.cells, ptrV, eqD, tasV, buildV, bslL, buildL, setL, zrepL, eqL, leafEq]
  ((refine hK _ _ ?_); clear hK K)
  (repeat refine HW.seqL ?_); refine HW.seqR rfl (fun K hK => ?_)
  simp -implicitDefEqProofs only [↓XA, XB, XC, TF, UF, exists_eq_left', exists_eq_left, exists_eq_right, implies_true, forall_const, ↓reduceIte, reduceCtorEq, Nat.reduceLeDiff, Nat.reduceLT, Nat.reduceAdd, Nat.reduceMul, Nat.reduceEqDiff, Nat.reduceBEq, Nat.reduceSub, Int.reduceToNat, Int.reduceEq, Int.reduceNe, Int.reduceLT, Int.reduceLE, Int.reduceGT, Int.reduceGE, Int.reduceBEq, Int.reduceBNe, Int.reduceAdd, Int.reduceSub, Int.reduceMul, Int.reduceNeg, evM, nilV, extrV, binV, binI, binS, unV, convV, mkIfV, loadV, rdN, storeV, fieldAddrV, idxAddrV, idxV, fieldV, partV, lenV, capV, sliceV, bndV, stO, wrL, unfr, oneC, Value.cells, ptrV, eqD, tasV, buildV, bslL, buildL, setL, zrepL, eqL, leafEq]
  intro b0 hb0
  (try simp -implicitDefEqProofs only [↓XA, XB, XC, TF, UF, exists_eq_left', exists_eq_left, exists_eq_right, implies_true, forall_const, ↓reduceIte, reduceCtorEq, Nat.reduceLeDiff, Nat.reduceLT, Nat.reduceAdd, Nat.reduceMul, Nat.reduceEqDiff, Nat.reduceBEq, Nat.reduceSub, Int.reduceToNat, Int.reduceEq, Int.reduceNe, Int.reduceLT, Int.reduceLE, Int.reduceGT, Int.reduceGE, Int.reduceBEq, Int.reduceBNe, Int.reduceAdd, Int.reduceSub, Int.reduceMul, Int.reduceNeg, evM, nilV, extrV, binV, binI, binS, unV, convV, mkIfV, loadV, rdN, storeV, fieldAddrV, idxAddrV, idxV, fieldV, partV, lenV, capV, sliceV, bndV, stO, wrL, unfr, oneC, Value.cells, ptrV, eqD, tasV, buildV, bslL, buildL, setL, zrepL, eqL, leafEq])
  ((refine hK _ _ ?_); clear hK K)
  obtain ⟨hA, hhA⟩ : ∃ hA, hA = upd h b0 (.cells [].toArray 3 (0, 0)) := ⟨_, rfl⟩
  rw [← hhA]
  have hkA : Keep h hA := by rw [hhA]; exact (Keep.refl h).upd hb0 _
  have hownA : Own hA 3 1 (.slice (some ⟨b0, 0, none⟩) 0 0) 0 (ints []) (some b0) := ⟨0, #[], rfl, by rw [hhA, upd_same], by simp, by simp, rfl, rfl⟩
  clear hhA
  refine HW.join (α := Value × Value) [0, 6] (fun x => [x.1, x.2]) (fun x h' => Keep h h' ∧ ∃ b1 c1 L' b2 c2 ys S', x.1 = .slice b1 L'.length c1 ∧ x.2 = .slice b2 ys.length c2 ∧ ArV h' b1 (cellsL L') ∧ ArV h' b2 (ints ys) ∧ Rep L' S' ∧ Rings S L.length now ys S' L'.length ∧ Still2 now S' ∧ (∀ bb o, b1 = some ⟨bb, o, none⟩ → L' ≠ [] → (base = some ⟨bb, o, none⟩ ∧ L ≠ []) ∨ h bb = none)) ?_ ?_
  · (repeat refine HW.seqL ?_); refine HW.seqR rfl (fun K hK => ?_)
    simp -implicitDefEqProofs only [↓XA, XB, XC, TF, UF, exists_eq_left', exists_eq_left, exists_eq_right, implies_true, forall_const, ↓reduceIte, reduceCtorEq, Nat.reduceLeDiff, Nat.reduceLT, Nat.reduceAdd, Nat.reduceMul, Nat.reduceEqDiff, Nat.reduceBEq, Nat.reduceSub, Int.reduceToNat, Int.reduceEq, Int.reduceNe, Int.reduceLT, Int.reduceLE, Int.reduceGT, Int.reduceGE, Int.reduceBEq, Int.reduceBNe, Int.reduceAdd, Int.reduceSub, Int.reduceMul, Int.reduceNeg, evM, nilV, extrV, binV, binI, binS, unV, convV, mkIfV, loadV, rdN, storeV, fieldAddrV, idxAddrV, idxV, fieldV, partV, lenV, capV, sliceV, bndV, stO, wrL, unfr, oneC, Value.cells, ptrV, eqD, tasV, buildV, bslL, buildL, setL, zrepL, eqL, leafEq]
    ((refine hK _ _ ?_); clear hK K)
    refine HW.block ?_
    refine HW.loopV (α := Option Addr × Nat × List (Int × Int) × Value × List Int × Al) [0, 1, 6, 7] (fun x => [.slice x.1 x.2.2.1.length x.2.1, .int .i64 now, x.2.2.2.1, .int .i64 x.2.2.1.length]) (fun x h' => Keep h h' ∧ ArV h' x.1 (cellsL x.2.2.1) ∧ Rep x.2.2.1 x.2.2.2.2.2 ∧ Rings S L.length now x.2.2.2.2.1 x.2.2.2.2.2 x.2.2.1.length ∧ ∃ b, Own h' 3 1 x.2.2.2.1 x.2.2.2.2.1.length (ints x.2.2.2.2.1) (some b) ∧ h b = none ∧ (∀ bb o, x.1 = some ⟨bb, o, none⟩ → x.2.2.1 ≠ [] → bb ≠ b) ∧ (∀ bb o, x.1 = some ⟨bb, o, none⟩ → x.2.2.1 ≠ [] → (base = some ⟨bb, o, none⟩ ∧ L ≠ []) ∨ h bb = none)) (fun x => x.2.2.1.length) (base, cap, L, .slice (some ⟨b0, 0, none⟩) 0 0, [], S) ⟨hkA, ha.keep hkA, hR, .nil, b0, hownA, hb0, ?_, fun bb o e hne => .inl ⟨e, hne⟩⟩ ⟨rfl, rfl, rfl, rfl, trivial⟩ ?_
    · intro bb o e hne
      simp only at e hne
      obtain ⟨b', o', e', r1, r2⟩ := arv_al ha (List.length_pos_iff.2 hne)
      rw [e] at e'
      cases e'
      rintro rfl
      rw [hb0] at r1; cases r1
    rintro ⟨b1, c1, L1, v6, ys, S1⟩ h1 ⟨hk, har, hR1, hr, b, hown, hbn, hdis, hdis2⟩
    simp only at har hR1 hr hown hdis hdis2
    simp only [List.zip_cons_cons, List.zip_nil_left]
    have hle := hr.le
    obtain ⟨bo, co, rfl⟩ := Own.val hown
    by_cases hlt : L1 = []
    · subst hlt
      (repeat refine HW.seqL ?_); refine HW.seqR rfl (fun K hK => ?_)
      simp -implicitDefEqProofs only [↓XA, XB, XC, TF, UF, exists_eq_left', exists_eq_left, exists_eq_right, implies_true, forall_const, ↓reduceIte, reduceCtorEq, Nat.reduceLeDiff, Nat.reduceLT, Nat.reduceAdd, Nat.reduceMul, Nat.reduceEqDiff, Nat.reduceBEq, Nat.reduceSub, Int.reduceToNat, Int.reduceEq, Int.reduceNe, Int.reduceLT, Int.reduceLE, Int.reduceGT, Int.reduceGE, Int.reduceBEq, Int.reduceBNe, Int.reduceAdd, Int.reduceSub, Int.reduceMul, Int.reduceNeg, evM, nilV, extrV, binV, binI, binS, unV, convV, mkIfV, loadV, rdN, storeV, fieldAddrV, idxAddrV, idxV, fieldV, partV, lenV, capV, sliceV, bndV, stO, wrL, unfr, oneC, Value.cells, ptrV, eqD, tasV, buildV, bslL, buildL, setL, zrepL, eqL, leafEq, Int.natCast_zero, Int.lt_irrefl, gt_iff_lt]
      ((refine hK _ _ ?_); clear hK K)
      (repeat refine HW.seqL ?_); first | refine HW.ite rfl (fun hb => ?_) (fun hb => ?_) | refine HW.iteS rfl (fun hb => ?_) (fun hb => ?_)
      · cases hb
      · refine HW.exit ?_
        (repeat (first | (with_reducible refine Seq.ret ?_) | (with_reducible refine Blk.ret ?_) | (with_reducible refine Blk.here ?_) | (with_reducible refine Seq.exit ?_) | (with_reducible refine Blk.out (by decide) ?_) | (with_reducible refine Blk.normal ?_) | (with_reducible refine Seq.normal ?_)))
        refine ⟨(.slice b1 0 c1, .slice bo ys.length co), ⟨hk, b1, c1, [], bo, co, ys, S1, rfl, rfl, har, (hown.ar).1, hR1, hr, ?_, fun bb o e hne => absurd rfl hne⟩, rfl, rfl, trivial⟩
        intro k t hkt
        rw [hR1.empty rfl] at hkt; cases hkt
    · have hpos : 0 < L1.length := List.length_pos_iff.2 hlt
      have d1 : (0 : Int) < (L1.length : Int) := by omega
      (repeat refine HW.seqL ?_); refine HW.seqR rfl (fun K hK => ?_)
      simp -implicitDefEqProofs only [↓XA, XB, XC, TF, UF, exists_eq_left', exists_eq_left, exists_eq_right, implies_true, forall_const, ↓reduceIte, reduceCtorEq, Nat.reduceLeDiff, Nat.reduceLT, Nat.reduceAdd, Nat.reduceMul, Nat.reduceEqDiff, Nat.reduceBEq, Nat.reduceSub, Int.reduceToNat, Int.reduceEq, Int.reduceNe, Int.reduceLT, Int.reduceLE, Int.reduceGT, Int.reduceGE, Int.reduceBEq, Int.reduceBNe, Int.reduceAdd, Int.reduceSub, Int.reduceMul, Int.reduceNeg, evM, nilV, extrV, binV, binI, binS, unV, convV, mkIfV, loadV, rdN, storeV, fieldAddrV, idxAddrV, idxV, fieldV, partV, lenV, capV, sliceV, bndV, stO, wrL, unfr, oneC, Value.cells, ptrV, eqD, tasV, buildV, bslL, buildL, setL, zrepL, eqL, leafEq, d1, gt_iff_lt]
      ((refine hK _ _ ?_); clear hK K)
      (repeat refine HW.seqL ?_); first | refine HW.ite rfl (fun hb => ?_) (fun hb => ?_) | refine HW.iteS rfl (fun hb => ?_) (fun hb => ?_)
      · refine HW.skip ?_
        (repeat (first | (with_reducible refine Seq.ret ?_) | (with_reducible refine Blk.ret ?_) | (with_reducible refine Blk.here ?_) | (with_reducible refine Seq.exit ?_) | (with_reducible refine Blk.out (by decide) ?_) | (with_reducible refine Blk.normal ?_) | (with_reducible refine Seq.normal ?_)))
        (repeat refine HW.seqL ?_)
        refine HW.seq ?_
        refine HW.block ?_
        (repeat refine HW.seqL ?_); refine HW.seqR rfl (fun K hK => ?_)
        simp -implicitDefEqProofs only [↓XA, XB, XC, TF, UF, exists_eq_left', exists_eq_left, exists_eq_right, implies_true, forall_const, ↓reduceIte, reduceCtorEq, Nat.reduceLeDiff, Nat.reduceLT, Nat.reduceAdd, Nat.reduceMul, Nat.reduceEqDiff, Nat.reduceBEq, Nat.reduceSub, Int.reduceToNat, Int.reduceEq, Int.reduceNe, Int.reduceLT, Int.reduceLE, Int.reduceGT, Int.reduceGE, Int.reduceBEq, Int.reduceBNe, Int.reduceAdd, Int.reduceSub, Int.reduceMul, Int.reduceNeg, evM, nilV, extrV, binV, binI, binS, unV, convV, mkIfV, loadV, rdN, storeV, fieldAddrV, idxAddrV, idxV, fieldV, partV, lenV, capV, sliceV, bndV, stO, wrL, unfr, oneC, Value.cells, ptrV, eqD, tasV, buildV, bslL, buildL, setL, zrepL, eqL, leafEq]
        refine (nextR_ok har (by omega)).mono ?_
        rintro v h2 ⟨hk2, k, rfl, hmin⟩
        (try simp -implicitDefEqProofs only [↓XA, XB, XC, TF, UF, exists_eq_left', exists_eq_left, exists_eq_right, implies_true, forall_const, ↓reduceIte, reduceCtorEq, Nat.reduceLeDiff, Nat.reduceLT, Nat.reduceAdd, Nat.reduceMul, Nat.reduceEqDiff, Nat.reduceBEq, Nat.reduceSub, Int.reduceToNat, Int.reduceEq, Int.reduceNe, Int.reduceLT, Int.reduceLE, Int.reduceGT, Int.reduceGE, Int.reduceBEq, Int.reduceBNe, Int.reduceAdd, Int.reduceSub, Int.reduceMul, Int.reduceNeg, evM, nilV, extrV, binV, binI, binS, unV, convV, mkIfV, loadV, rdN, storeV, fieldAddrV, idxAddrV, idxV, fieldV, partV, lenV, capV, sliceV, bndV, stO, wrL, unfr, oneC, Value.cells, ptrV, eqD, tasV, buildV, bslL, buildL, setL, zrepL, eqL, leafEq])
        ((refine hK _ _ ?_); clear hK K)
        rcases hmin with ⟨e, _⟩ | ⟨j, hj, rfl, hmin⟩
        · exact absurd e hlt
        have hfst := hR1.first hj hmin
        have har2 := har.keep hk2
        obtain ⟨bb, o, rfl, r1, r2⟩ := arv_al har2 hj
        have d2 : (j : Int) < (L1.length : Int) := by omega
        have hown2 : Own h2 3 1 (.slice bo ys.length co) ys.length (ints ys) (some b) := hown.frame (by
          intro b' e
          cases e
          obtain ⟨_, cs, _, h5, _⟩ := hown
          rw [hk2 _ _ h5, h5])
        by_cases hgt : now < L1[j].2
        · (repeat refine HW.seqL ?_); refine HW.seqR rfl (fun K hK => ?_)
          simp -implicitDefEqProofs only [↓XA, XB, XC, TF, UF, exists_eq_left', exists_eq_left, exists_eq_right, implies_true, forall_const, ↓reduceIte, reduceCtorEq, Nat.reduceLeDiff, Nat.reduceLT, Nat.reduceAdd, Nat.reduceMul, Nat.reduceEqDiff, Nat.reduceBEq, Nat.reduceSub, Int.reduceToNat, Int.reduceEq, Int.reduceNe, Int.reduceLT, Int.reduceLE, Int.reduceGT, Int.reduceGE, Int.reduceBEq, Int.reduceBNe, Int.reduceAdd, Int.reduceSub, Int.reduceMul, Int.reduceNeg, evM, nilV, extrV, binV, binI, binS, unV, convV, mkIfV, loadV, rdN, storeV, fieldAddrV, idxAddrV, idxV, fieldV, partV, lenV, capV, sliceV, bndV, stO, wrL, unfr, oneC, Value.cells, ptrV, eqD, tasV, buildV, bslL, buildL, setL, zrepL, eqL, leafEq, d2, r1, r2, hgt, gt_iff_lt]
          ((refine hK _ _ ?_); clear hK K)
          (repeat refine HW.seqL ?_); first | refine HW.ite rfl (fun hb => ?_) (fun hb => ?_) | refine HW.iteS rfl (fun hb => ?_) (fun hb => ?_)
          · (repeat refine HW.seqL ?_); refine HW.seqR rfl (fun K hK => ?_)
            simp -implicitDefEqProofs only [↓XA, XB, XC, TF, UF, exists_eq_left', exists_eq_left, exists_eq_right, implies_true, forall_const, ↓reduceIte, reduceCtorEq, Nat.reduceLeDiff, Nat.reduceLT, Nat.reduceAdd, Nat.reduceMul, Nat.reduceEqDiff, Nat.reduceBEq, Nat.reduceSub, Int.reduceToNat, Int.reduceEq, Int.reduceNe, Int.reduceLT, Int.reduceLE, Int.reduceGT, Int.reduceGE, Int.reduceBEq, Int.reduceBNe, Int.reduceAdd, Int.reduceSub, Int.reduceMul, Int.reduceNeg, evM, nilV, extrV, binV, binI, binS, unV, convV, mkIfV, loadV, rdN, storeV, fieldAddrV, idxAddrV, idxV, fieldV, partV, lenV, capV, sliceV, bndV, stO, wrL, unfr, oneC, Value.cells, ptrV, eqD, tasV, buildV, bslL, buildL, setL, zrepL, eqL, leafEq]
            ((refine hK _ _ ?_); clear hK K)
            ((refine HW.ret ?_); (repeat (first | (with_reducible refine Seq.ret ?_) | (with_reducible refine Blk.ret ?_))); (refine RetK.two rfl rfl ?_))
            refine ⟨hk.trans hk2, _, _, L1, _, _, ys, S1, rfl, har2, (hown2.ar).1, hR1, hr, ?_, hdis2⟩
            intro k t hkt
            have := hfst.2 k t hkt
            omega
          · cases hb
        · (repeat refine HW.seqL ?_); refine HW.seqR rfl (fun K hK => ?_)
          simp -implicitDefEqProofs only [↓XA, XB, XC, TF, UF, exists_eq_left', exists_eq_left, exists_eq_right, implies_true, forall_const, ↓reduceIte, reduceCtorEq, Nat.reduceLeDiff, Nat.reduceLT, Nat.reduceAdd, Nat.reduceMul, Nat.reduceEqDiff, Nat.reduceBEq, Nat.reduceSub, Int.reduceToNat, Int.reduceEq, Int.reduceNe, Int.reduceLT, Int.reduceLE, Int.reduceGT, Int.reduceGE, Int.reduceBEq, Int.reduceBNe, Int.reduceAdd, Int.reduceSub, Int.reduceMul, Int.reduceNeg, evM, nilV, extrV, binV, binI, binS, unV, convV, mkIfV, loadV, rdN, storeV, fieldAddrV, idxAddrV, idxV, fieldV, partV, lenV, capV, sliceV, bndV, stO, wrL, unfr, oneC, Value.cells, ptrV, eqD, tasV, buildV, bslL, buildL, setL, zrepL, eqL, leafEq, d2, r1, r2, hgt, gt_iff_lt]
          ((refine hK _ _ ?_); clear hK K)
          (repeat refine HW.seqL ?_); first | refine HW.ite rfl (fun hb => ?_) (fun hb => ?_) | refine HW.iteS rfl (fun hb => ?_) (fun hb => ?_)
          · cases hb
          · refine HW.skip ?_
            (repeat (first | (with_reducible refine Seq.ret ?_) | (with_reducible refine Blk.ret ?_) | (with_reducible refine Blk.here ?_) | (with_reducible refine Seq.exit ?_) | (with_reducible refine Blk.out (by decide) ?_) | (with_reducible refine Blk.normal ?_) | (with_reducible refine Seq.normal ?_)))
            (repeat refine HW.seqL ?_); refine HW.seqR rfl (fun K hK => ?_)
            simp -implicitDefEqProofs only [↓XA, XB, XC, TF, UF, exists_eq_left', exists_eq_left, exists_eq_right, implies_true, forall_const, ↓reduceIte, reduceCtorEq, Nat.reduceLeDiff, Nat.reduceLT, Nat.reduceAdd, Nat.reduceMul, Nat.reduceEqDiff, Nat.reduceBEq, Nat.reduceSub, Int.reduceToNat, Int.reduceEq, Int.reduceNe, Int.reduceLT, Int.reduceLE, Int.reduceGT, Int.reduceGE, Int.reduceBEq, Int.reduceBNe, Int.reduceAdd, Int.reduceSub, Int.reduceMul, Int.reduceNeg, evM, nilV, extrV, binV, binI, binS, unV, convV, mkIfV, loadV, rdN, storeV, fieldAddrV, idxAddrV, idxV, fieldV, partV, lenV, capV, sliceV, bndV, stO, wrL, unfr, oneC, Value.cells, ptrV, eqD, tasV, buildV, bslL, buildL, setL, zrepL, eqL, leafEq, d2, r1, r2]
            intro tb htb
            (try simp -implicitDefEqProofs only [↓XA, XB, XC, TF, UF, exists_eq_left', exists_eq_left, exists_eq_right, implies_true, forall_const, ↓reduceIte, reduceCtorEq, Nat.reduceLeDiff, Nat.reduceLT, Nat.reduceAdd, Nat.reduceMul, Nat.reduceEqDiff, Nat.reduceBEq, Nat.reduceSub, Int.reduceToNat, Int.reduceEq, Int.reduceNe, Int.reduceLT, Int.reduceLE, Int.reduceGT, Int.reduceGE, Int.reduceBEq, Int.reduceBNe, Int.reduceAdd, Int.reduceSub, Int.reduceMul, Int.reduceNeg, evM, nilV, extrV, binV, binI, binS, unV, convV, mkIfV, loadV, rdN, storeV, fieldAddrV, idxAddrV, idxV, fieldV, partV, lenV, capV, sliceV, bndV, stO, wrL, unfr, oneC, Value.cells, ptrV, eqD, tasV, buildV, bslL, buildL, setL, zrepL, eqL, leafEq])
            have hb2 : h2 b ≠ none := by
              obtain ⟨_, _, _, h5, _⟩ := hown2
              rw [h5]; simp
            have hbtb : b ≠ tb := by rintro rfl; exact hb2 htb
            have hbb : h2 bb ≠ none := by
              intro e
              rw [e] at r1; cases r1
            have hbbt : bb ≠ tb := by rintro rfl; exact hbb htb
            have hbbb : bb ≠ b := hdis bb o rfl hlt
            refine AppK.own (e := 3) (sz := 1) (by_ := 8) (z := .int .i64 0) (n := ys.length) (m := 1) (ys := ints [L1[j].1]) rfl rfl Try.underlying22 Try.underlying22 rfl szK_3 byK_3 zeroK_3 rfl (hown2.frame fun b' e => by cases e; exact upd_ne _ _ _ hbtb) ?_ rfl ?_ (by omega) (.inl (by omega)) ?_
            · simp [rdN, upd_same, rd_cells, ints]
            · omega
            · rintro v' h3 b' oo ho3 hh3 hob
              obtain ⟨bo', co', rfl⟩ := Own.val ho3
              (try simp -implicitDefEqProofs only [↓XA, XB, XC, TF, UF, exists_eq_left', exists_eq_left, exists_eq_right, implies_true, forall_const, ↓reduceIte, reduceCtorEq, Nat.reduceLeDiff, Nat.reduceLT, Nat.reduceAdd, Nat.reduceMul, Nat.reduceEqDiff, Nat.reduceBEq, Nat.reduceSub, Int.reduceToNat, Int.reduceEq, Int.reduceNe, Int.reduceLT, Int.reduceLE, Int.reduceGT, Int.reduceGE, Int.reduceBEq, Int.reduceBNe, Int.reduceAdd, Int.reduceSub, Int.reduceMul, Int.reduceNeg, evM, nilV, extrV, binV, binI, binS, unV, convV, mkIfV, loadV, rdN, storeV, fieldAddrV, idxAddrV, idxV, fieldV, partV, lenV, capV, sliceV, bndV, stO, wrL, unfr, oneC, Value.cells, ptrV, eqD, tasV, buildV, bslL, buildL, setL, zrepL, eqL, leafEq])
              ((refine hK _ _ ?_); clear hK K)
              have hkh2 : Keep h h2 := hk.trans hk2
              have hb'n : h b' = none := by
                rcases hob with e | e
                · cases e; exact hbn
                · refine hkh2.none ?_
                  rw [upd_apply] at e
                  split at e
                  · cases e
                  · exact e
              have hbb' : bb ≠ b' := by
                rcases hob with e | e
                · cases e; exact hbbb
                · rintro rfl
                  rw [upd_ne _ _ _ hbbt] at e
                  exact hbb e
              have hk3 : Keep h h3 := by
                rw [hh3]; exact (hkh2.upd (hkh2.none htb) _).upd hb'n _
              have hbb3 : h3 bb = h2 bb := by rw [hh3, upd_ne _ _ _ hbb', upd_ne _ _ _ hbbt]
              have har3 : ArV h3 (some ⟨bb, o, none⟩) (cellsL L1) := har2.frame fun b'' o'' e => by cases e; exact hbb3
              rw [← hbb3] at r1 r2
              clear hh3
              refine HW.rgnK rfl (fun K hK => ?_)
              simp -implicitDefEqProofs only [↓XA, XB, XC, TF, UF, exists_eq_left', exists_eq_left, exists_eq_right, implies_true, forall_const, ↓reduceIte, reduceCtorEq, Nat.reduceLeDiff, Nat.reduceLT, Nat.reduceAdd, Nat.reduceMul, Nat.reduceEqDiff, Nat.reduceBEq, Nat.reduceSub, Int.reduceToNat, Int.reduceEq, Int.reduceNe, Int.reduceLT, Int.reduceLE, Int.reduceGT, Int.reduceGE, Int.reduceBEq, Int.reduceBNe, Int.reduceAdd, Int.reduceSub, Int.reduceMul, Int.reduceNeg, evM, nilV, extrV, binV, binI, binS, unV, convV, mkIfV, loadV, rdN, storeV, fieldAddrV, idxAddrV, idxV, fieldV, partV, lenV, capV, sliceV, bndV, stO, wrL, unfr, oneC, Value.cells, ptrV, eqD, tasV, buildV, bslL, buildL, setL, zrepL, eqL, leafEq, d2, r1, r2]
              refine (without_ok har3 (by omega) L1[j].1).mono ?_
              rintro v h4 ⟨hk4, nb, hnb, hown4⟩
              obtain ⟨wb, wc, rfl⟩ := Own.val hown4
              (try simp -implicitDefEqProofs only [↓XA, XB, XC, TF, UF, exists_eq_left', exists_eq_left, exists_eq_right, implies_true, forall_const, ↓reduceIte, reduceCtorEq, Nat.reduceLeDiff, Nat.reduceLT, Nat.reduceAdd, Nat.reduceMul, Nat.reduceEqDiff, Nat.reduceBEq, Nat.reduceSub, Int.reduceToNat, Int.reduceEq, Int.reduceNe, Int.reduceLT, Int.reduceLE, Int.reduceGT, Int.reduceGE, Int.reduceBEq, Int.reduceBNe, Int.reduceAdd, Int.reduceSub, Int.reduceMul, Int.reduceNeg, evM, nilV, extrV, binV, binI, binS, unV, convV, mkIfV, loadV, rdN, storeV, fieldAddrV, idxAddrV, idxV, fieldV, partV, lenV, capV, sliceV, bndV, stO, wrL, unfr, oneC, Value.cells, ptrV, eqD, tasV, buildV, bslL, buildL, setL, zrepL, eqL, leafEq])
              ((refine hK _ _ ?_); clear hK K)
              (repeat (first | (with_reducible refine Seq.ret ?_) | (with_reducible refine Blk.ret ?_) | (with_reducible refine Blk.here ?_) | (with_reducible refine Seq.exit ?_) | (with_reducible refine Blk.out (by decide) ?_) | (with_reducible refine Blk.normal ?_) | (with_reducible refine Seq.normal ?_)))
              have hwl : (wo L1[j].1 L1).length = L1.length - 1 := by
                rw [wo_length hR1, if_neg (by rw [hfst.1]; simp)]
              have w1 : IntKind.i64.wrap ((L1.length : Int) - 1) = ((wo L1[j].1 L1).length : Int) := by rw [hwl, wrap_i64 (by omega) (by omega)]; omega
              refine HW.rgnK rfl (fun K hK => ?_)
              simp -implicitDefEqProofs only [↓XA, XB, XC, TF, UF, exists_eq_left', exists_eq_left, exists_eq_right, implies_true, forall_const, ↓reduceIte, reduceCtorEq, Nat.reduceLeDiff, Nat.reduceLT, Nat.reduceAdd, Nat.reduceMul, Nat.reduceEqDiff, Nat.reduceBEq, Nat.reduceSub, Int.reduceToNat, Int.reduceEq, Int.reduceNe, Int.reduceLT, Int.reduceLE, Int.reduceGT, Int.reduceGE, Int.reduceBEq, Int.reduceBNe, Int.reduceAdd, Int.reduceSub, Int.reduceMul, Int.reduceNeg, evM, nilV, extrV, binV, binI, binS, unV, convV, mkIfV, loadV, rdN, storeV, fieldAddrV, idxAddrV, idxV, fieldV, partV, lenV, capV, sliceV, bndV, stO, wrL, unfr, oneC, Value.cells, ptrV, eqD, tasV, buildV, bslL, buildL, setL, zrepL, eqL, leafEq, w1]
              ((refine hK _ _ ?_); clear hK K)
              (repeat (first | (with_reducible refine Seq.ret ?_) | (with_reducible refine Blk.ret ?_) | (with_reducible refine Blk.here ?_) | (with_reducible refine Seq.exit ?_) | (with_reducible refine Blk.out (by decide) ?_) | (with_reducible refine Blk.normal ?_) | (with_reducible refine Seq.normal ?_)))
              refine ⟨(wb, wc, wo L1[j].1 L1, .slice bo' (ys.length + 1) co', ys ++ [L1[j].1], put S1 L1[j].1 none), by simp only; omega, ⟨hk3.trans hk4, (hown4.ar).1, hR1.out _, ?_, b', ?_, hb'n, ?_, ?_⟩, rfl, rfl, rfl, rfl, trivial⟩
              · simp only
                rw [hwl]
                exact .snoc hr hfst (by omega) hpos
              · refine Own.frame (h := h3) (by simpa [ints] using ho3) ?_
                intro b'' e
                cases e
                obtain ⟨_, _, _, h5, _⟩ := ho3
                rw [hk4 _ _ h5, h5]
              · intro bb2 o2 e _
                simp only at e
                have := (hown4.ar).2.2 bb2 o2 e
                cases this
                rintro rfl
                obtain ⟨_, _, _, h5, _⟩ := ho3
                rw [hnb] at h5; cases h5
              · intro bb2 o2 e _
                simp only at e
                have := (hown4.ar).2.2 bb2 o2 e
                cases this
                exact .inr (hk3.none hnb)
      · cases hb
  · rintro ⟨x1, x2⟩ h1 ⟨hk, b1, c1, L', b2, c2, ys, S', e1, e2, hrest⟩
    simp only at e1 e2
    subst e1; subst e2
    simp only [List.zip_cons_cons, List.zip_nil_left]
    (repeat refine HW.seqL ?_); refine HW.seqR rfl (fun K hK => ?_)
    simp -implicitDefEqProofs only [↓XA, XB, XC, TF, UF, exists_eq_left', exists_eq_left, exists_eq_right, implies_true, forall_const, ↓reduceIte, reduceCtorEq, Nat.reduceLeDiff, Nat.reduceLT, Nat.reduceAdd, Nat.reduceMul, Nat.reduceEqDiff, Nat.reduceBEq, Nat.reduceSub, Int.reduceToNat, Int.reduceEq, Int.reduceNe, Int.reduceLT, Int.reduceLE, Int.reduceGT, Int.reduceGE, Int.reduceBEq, Int.reduceBNe, Int.reduceAdd, Int.reduceSub, Int.reduceMul, Int.reduceNeg, evM, nilV, extrV, binV, binI, binS, unV, convV, mkIfV, loadV, rdN, storeV, fieldAddrV, idxAddrV, idxV, fieldV, partV, lenV, capV, sliceV, bndV, stO, wrL, unfr, oneC, Value.cells, ptrV, eqD, tasV, buildV, bslL, buildL, setL, zrepL, eqL, leafEq]
    ((refine hK _ _ ?_); clear hK K)
    ((refine HW.ret ?_); (repeat (first | (with_reducible refine Seq.ret ?_) | (with_reducible refine Blk.ret ?_))); (refine RetK.two rfl rfl ?_))
    exact ⟨hk, b1, c1, L', b2, c2, ys, S', rfl, hrest⟩
end Go.Proofs.Ytiiglipmekeikaa
