/- A clock: what changes it. -/
import Derived.Test.YtiiglipmekeikaaA4
import Derived.Test.YtiiglipmekeikaaHxArgs
set_option linter.unusedVariables false
set_option linter.unusedSimpArgs false
namespace Go.Proofs.Ytiiglipmekeikaa
open Go.Hx

/-- Entries, the map's list and the alarms they stand for. -/
structure Abs (a : Nat → E) (n : Nat) (l : List (Int × Value)) (S : Al) : Prop where
  ent : ∀ i, i < n → lk l (a i).id = some (ptr (a i).b)
  all : ∀ k v, lk l k = some v → ∃ i, i < n ∧ (a i).id = k
  len : l.length = n
  to : ∀ i, i < n → S (a i).id = some (a i).at_
  from_ : ∀ k t, S k = some t → ∃ i, i < n ∧ (a i).id = k ∧ (a i).at_ = t
theorem ClkD.abs {h : Hp} {c m n : Nat} {rv : Value} {ob : Option Nat} {a : Nat → E} {l : List (Int × Value)} {S : Al} (hc : ClkD h c m rv ob a n l S) : Abs a n l S := ⟨hc.ent, hc.all, hc.len, hc.to, hc.from_⟩
theorem ClkD.of {h : Hp} {c m n : Nat} {rv : Value} {ob : Option Nat} {a : Nat → E} {l : List (Int × Value)} {S : Al} (h1 : Hg h c rv ob a n (.map (some m))) (h2 : HeapOrd a n) (h3 : KMap encI (h m) l) (h4 : Abs a n l S) : ClkD h c m rv ob a n l S := ⟨h1, h2, h3, h4.ent, h4.all, h4.len, h4.to, h4.from_⟩
theorem Abs.move {a a' : Nat → E} {n : Nat} {l : List (Int × Value)} {S : Al} (h : Abs a n l S) (hs : SameSet a a' n) : Abs a' n l S := by
  refine ⟨?_, ?_, h.len, ?_, ?_⟩
  · intro i hi
    obtain ⟨j, hj, e⟩ := (hs (a' i)).1 ⟨i, hi, rfl⟩
    rw [← e]; exact h.ent j hj
  · intro k v hk
    obtain ⟨j, hj, e⟩ := h.all k v hk
    obtain ⟨i, hi, e2⟩ := (hs (a j)).2 ⟨j, hj, rfl⟩
    exact ⟨i, hi, by rw [e2, e]⟩
  · intro i hi
    obtain ⟨j, hj, e⟩ := (hs (a' i)).1 ⟨i, hi, rfl⟩
    rw [← e]; exact h.to j hj
  · intro k t hk
    obtain ⟨j, hj, e, e'⟩ := h.from_ k t hk
    obtain ⟨i, hi, e2⟩ := (hs (a j)).2 ⟨j, hj, rfl⟩
    exact ⟨i, hi, by rw [e2, e], by rw [e2, e']⟩
/-- An entry's tick changes. -/
def retick (a : Nat → E) (i : Nat) (t : Int) : Nat → E := fun j => if j = i then ⟨(a i).b, t, (a i).id⟩ else a j
theorem retick_b (a : Nat → E) (i : Nat) (t : Int) (j : Nat) : (retick a i t j).b = (a j).b := by
  unfold retick; split
  · rename_i e; rw [e]
  · rfl
theorem retick_id (a : Nat → E) (i : Nat) (t : Int) (j : Nat) : (retick a i t j).id = (a j).id := by
  unfold retick; split
  · rename_i e; rw [e]
  · rfl
theorem Abs.retick {a : Nat → E} {n : Nat} {l : List (Int × Value)} {S : Al} (h : Abs a n l S) (hid : ∀ i j, i < n → j < n → (a i).id = (a j).id → i = j) {i : Nat} (hi : i < n) (t : Int) : Abs (retick a i t) n l (put S (a i).id (some t)) := by
  refine ⟨?_, ?_, h.len, ?_, ?_⟩
  · intro j hj
    rw [retick_b, retick_id]; exact h.ent j hj
  · intro k v hk
    obtain ⟨j, hj, e⟩ := h.all k v hk
    exact ⟨j, hj, by rw [retick_id, e]⟩
  · intro j hj
    rw [retick_id]
    by_cases e : j = i
    · subst e; simp [put, Go.Proofs.Ytiiglipmekeikaa.retick]
    · rw [put_ne _ _ _ (fun e' => e (hid _ _ hj hi e')), h.to j hj]
      simp [Go.Proofs.Ytiiglipmekeikaa.retick, e]
  · intro k t' hk
    by_cases e : k = (a i).id
    · rw [e, put_same] at hk
      refine ⟨i, hi, by rw [retick_id, e], ?_⟩
      simpa [Go.Proofs.Ytiiglipmekeikaa.retick] using hk
    · rw [put_ne _ _ _ e] at hk
      obtain ⟨j, hj, e1, e2⟩ := h.from_ k t' hk
      have hji : j ≠ i := by rintro rfl; exact e e1.symm
      exact ⟨j, hj, by rw [retick_id, e1], by simp [Go.Proofs.Ytiiglipmekeikaa.retick, hji, e2]⟩
theorem Abs.add {a : Nat → E} {n : Nat} {l : List (Int × Value)} {S : Al} (h : Abs a n l S) (hn : (l.map (·.1)).Nodup) {e : E} (hk : lk l e.id = none) : Abs (ext a n e) (n + 1) (setA l e.id (ptr e.b)) (put S e.id (some e.at_)) := by
  have hne : ∀ i, i < n → (a i).id ≠ e.id := by
    intro i hi e'
    have := h.ent i hi
    rw [e', hk] at this; cases this
  refine ⟨?_, ?_, ?_, ?_, ?_⟩
  · intro i hi
    rw [setA_lk hn]
    by_cases e1 : i = n
    · subst e1; rw [ext_n, if_pos rfl]
    · rw [ext_o a n e e1, if_neg (hne i (by omega))]; exact h.ent i (by omega)
  · intro k v hkv
    rw [setA_lk hn] at hkv
    split at hkv
    · rename_i e1; exact ⟨n, by omega, by rw [ext_n, e1]⟩
    · obtain ⟨i, hi, e1⟩ := h.all k v hkv
      exact ⟨i, by omega, by rw [ext_o a n e (by omega), e1]⟩
  · rw [setA_length, if_pos hk, h.len]
  · intro i hi
    by_cases e1 : i = n
    · subst e1; rw [ext_n, put_same]
    · rw [ext_o a n e e1, put_ne _ _ _ (hne i (by omega))]; exact h.to i (by omega)
  · intro k t hk'
    by_cases e1 : k = e.id
    · rw [e1, put_same, Option.some.injEq] at hk'
      exact ⟨n, by omega, by rw [ext_n, e1], by rw [ext_n, hk']⟩
    · rw [put_ne _ _ _ e1] at hk'
      obtain ⟨i, hi, e2, e3⟩ := h.from_ k t hk'
      exact ⟨i, by omega, by rw [ext_o a n e (by omega), e2], by rw [ext_o a n e (by omega), e3]⟩
theorem Abs.del {a a' : Nat → E} {n : Nat} {l : List (Int × Value)} {S : Al} (h : Abs a (n + 1) l S) (hn : (l.map (·.1)).Nodup) (hid : ∀ i j, i < n + 1 → j < n + 1 → (a i).id = (a j).id → i = j) {i : Nat} (hi : i < n + 1)
    (hs : ∀ e, (∃ k, k < n ∧ a' k = e) ↔ ∃ k, k < n + 1 ∧ k ≠ i ∧ a k = e) : Abs a' n (delA l (a i).id) (put S (a i).id none) := by
  refine ⟨?_, ?_, ?_, ?_, ?_⟩
  · intro j hj
    obtain ⟨k, hk, hki, e⟩ := (hs (a' j)).1 ⟨j, hj, rfl⟩
    rw [← e, delA_lk, if_neg (fun e' => hki (hid _ _ hk hi e'))]
    exact h.ent k hk
  · intro k v hkv
    rw [delA_lk] at hkv
    split at hkv
    · cases hkv
    · rename_i e1
      obtain ⟨j, hj, e2⟩ := h.all k v hkv
      obtain ⟨q, hq, e3⟩ := (hs (a j)).2 ⟨j, hj, by rintro rfl; exact e1 e2.symm, rfl⟩
      exact ⟨q, hq, by rw [e3, e2]⟩
  · rw [delA_length hn, if_neg (by rw [h.ent i hi]; simp), h.len]; omega
  · intro j hj
    obtain ⟨k, hk, hki, e⟩ := (hs (a' j)).1 ⟨j, hj, rfl⟩
    rw [← e, put_ne _ _ _ (fun e' => hki (hid _ _ hk hi e'))]
    exact h.to k hk
  · intro k t hkt
    by_cases e1 : k = (a i).id
    · rw [e1, put_same] at hkt; cases hkt
    · rw [put_ne _ _ _ e1] at hkt
      obtain ⟨j, hj, e2, e4⟩ := h.from_ k t hkt
      obtain ⟨q, hq, e3⟩ := (hs (a j)).2 ⟨j, hj, by rintro rfl; exact e1 e2.symm, rfl⟩
      exact ⟨q, hq, by rw [e3, e2], by rw [e3, e4]⟩
theorem Hg.frame {h h' : Hp} {c n : Nat} {rv : Value} {ob : Option Nat} {a : Nat → E} {mv : Value} (hg : Hg h c rv ob a n mv) (hf : ∀ b, CB c ob a n b → h' b = h b) : Hg h' c rv ob a n mv := by
  refine ⟨?_, hg.own.frame fun b hb => hf b (.inr (.inl hb)), ?_, hg.inj⟩
  · rw [hf c (.inl rfl)]; exact hg.clk
  · intro i hi
    rw [hf _ (.inr (.inr ⟨i, hi, rfl⟩))]; exact hg.ent i hi
theorem Hg.alloc {h : Hp} {c n : Nat} {rv : Value} {ob : Option Nat} {a : Nat → E} {mv : Value} (hg : Hg h c rv ob a n mv) {b : Nat} (hb : CB c ob a n b) : h b ≠ none := by
  rcases hb with e | e | ⟨k, hk, e⟩
  · rw [e, hg.clk]; simp
  · subst e
    obtain ⟨cap, cs, _, hb, _⟩ := hg.own
    rw [hb]; simp
  · rw [e, hg.ent k hk]; simp

theorem set_ok {h : Hp} {c n : Nat} {F : Nat → Prop} {S : Al} (hc : Clk h c F S n) (hn : n < 2 ^ 40) (k t : Int) (h0 : 0 ≤ t) (h1 : t ≤ 1099511627776) :
    CallK Try.prog 8 [ptr c, .int .i64 k, .int .i64 t] h fun v h' => v = .int .i64 0 ∧ ∃ F' n', Clk h' c F' (put S k (some t)) n' ∧ n' = (if S k = none then n + 1 else n) ∧ Step F F' h h' := by
  obtain ⟨m, rv, ob, a, l, hd, rfl⟩ := hc
  have hg := hd.get k false
  have hclk := hd.hg.clk
  have hm := hd.ne_m
  have t0 : ¬ t < 0 := by omega
  have t1 : ¬ 1099511627776 < t := by omega
  rcases hd.find k with ⟨e1, e2⟩ | ⟨i, hi, e1, e2, e3⟩
  · rw [e2] at hg
    simp only [hitO] at hg
    refine CallK.of Try.func8 (by kernel_rfl) rfl Try.ntmps8 (rs := _) Try.results8 (by simp) ?_; simp only [envOf, Nat.zero_add, Nat.reduceAdd]
    (repeat refine HW.seqL ?_); refine HW.seqR rfl (fun K hK => ?_)
    simp -implicitDefEqProofs only [↓XA, XB, XC, TF, UF, exists_eq_left', exists_eq_left, exists_eq_right, implies_true, forall_const, ↓reduceIte, reduceCtorEq, Nat.reduceLeDiff, Nat.reduceLT, Nat.reduceAdd, Nat.reduceMul, Nat.reduceEqDiff, Nat.reduceBEq, Nat.reduceSub, Int.reduceToNat, Int.reduceEq, Int.reduceNe, Int.reduceLT, Int.reduceLE, Int.reduceGT, Int.reduceGE, Int.reduceBEq, Int.reduceBNe, Int.reduceAdd, Int.reduceSub, Int.reduceMul, Int.reduceNeg, evM, nilV, extrV, binV, binI, binS, unV, convV, mkIfV, loadV, rdN, storeV, fieldAddrV, idxAddrV, idxV, fieldV, partV, lenV, capV, sliceV, bndV, stO, wrL, unfr, oneC, Value.cells, ptrV, eqD, tasV, buildV, bslL, buildL, setL, zrepL, eqL, leafEq, ptr]
    ((refine hK _ _ ?_); clear hK K)
    (repeat refine HW.seqL ?_); refine HW.seqR rfl (fun K hK => ?_)
    simp -implicitDefEqProofs only [↓XA, XB, XC, TF, UF, exists_eq_left', exists_eq_left, exists_eq_right, implies_true, forall_const, ↓reduceIte, reduceCtorEq, Nat.reduceLeDiff, Nat.reduceLT, Nat.reduceAdd, Nat.reduceMul, Nat.reduceEqDiff, Nat.reduceBEq, Nat.reduceSub, Int.reduceToNat, Int.reduceEq, Int.reduceNe, Int.reduceLT, Int.reduceLE, Int.reduceGT, Int.reduceGE, Int.reduceBEq, Int.reduceBNe, Int.reduceAdd, Int.reduceSub, Int.reduceMul, Int.reduceNeg, evM, nilV, extrV, binV, binI, binS, unV, convV, mkIfV, loadV, rdN, storeV, fieldAddrV, idxAddrV, idxV, fieldV, partV, lenV, capV, sliceV, bndV, stO, wrL, unfr, oneC, Value.cells, ptrV, eqD, tasV, buildV, bslL, buildL, setL, zrepL, eqL, leafEq, t0, t1, gt_iff_lt]
    ((refine hK _ _ ?_); clear hK K)
    (repeat refine HW.seqL ?_); first | refine HW.ite rfl (fun hb => ?_) (fun hb => ?_) | refine HW.iteS rfl (fun hb => ?_) (fun hb => ?_)
    · cases hb
    · refine HW.skip ?_
      (repeat (first | (with_reducible refine Seq.ret ?_) | (with_reducible refine Blk.ret ?_) | (with_reducible refine Blk.here ?_) | (with_reducible refine Seq.exit ?_) | (with_reducible refine Blk.out (by decide) ?_) | (with_reducible refine Blk.normal ?_) | (with_reducible refine Seq.normal ?_)))
      (repeat refine HW.seqL ?_); refine HW.seqR rfl (fun K hK => ?_)
      simp -implicitDefEqProofs only [↓XA, XB, XC, TF, UF, exists_eq_left', exists_eq_left, exists_eq_right, implies_true, forall_const, ↓reduceIte, reduceCtorEq, Nat.reduceLeDiff, Nat.reduceLT, Nat.reduceAdd, Nat.reduceMul, Nat.reduceEqDiff, Nat.reduceBEq, Nat.reduceSub, Int.reduceToNat, Int.reduceEq, Int.reduceNe, Int.reduceLT, Int.reduceLE, Int.reduceGT, Int.reduceGE, Int.reduceBEq, Int.reduceBNe, Int.reduceAdd, Int.reduceSub, Int.reduceMul, Int.reduceNeg, evM, nilV, extrV, binV, binI, binS, unV, convV, mkIfV, loadV, rdN, storeV, fieldAddrV, idxAddrV, idxV, fieldV, partV, lenV, capV, sliceV, bndV, stO, wrL, unfr, oneC, Value.cells, ptrV, eqD, tasV, buildV, bslL, buildL, setL, zrepL, eqL, leafEq, hclk, hg]
      ((refine hK _ _ ?_); clear hK K)
      (repeat refine HW.seqL ?_); refine HW.seqR rfl (fun K hK => ?_)
      simp -implicitDefEqProofs only [↓XA, XB, XC, TF, UF, exists_eq_left', exists_eq_left, exists_eq_right, implies_true, forall_const, ↓reduceIte, reduceCtorEq, Nat.reduceLeDiff, Nat.reduceLT, Nat.reduceAdd, Nat.reduceMul, Nat.reduceEqDiff, Nat.reduceBEq, Nat.reduceSub, Int.reduceToNat, Int.reduceEq, Int.reduceNe, Int.reduceLT, Int.reduceLE, Int.reduceGT, Int.reduceGE, Int.reduceBEq, Int.reduceBNe, Int.reduceAdd, Int.reduceSub, Int.reduceMul, Int.reduceNeg, evM, nilV, extrV, binV, binI, binS, unV, convV, mkIfV, loadV, rdN, storeV, fieldAddrV, idxAddrV, idxV, fieldV, partV, lenV, capV, sliceV, bndV, stO, wrL, unfr, oneC, Value.cells, ptrV, eqD, tasV, buildV, bslL, buildL, setL, zrepL, eqL, leafEq, bne_self_eq_false]
      ((refine hK _ _ ?_); clear hK K)
      (repeat refine HW.seqL ?_); first | refine HW.ite rfl (fun hb => ?_) (fun hb => ?_) | refine HW.iteS rfl (fun hb => ?_) (fun hb => ?_)
      · cases hb
      · refine HW.skip ?_
        (repeat (first | (with_reducible refine Seq.ret ?_) | (with_reducible refine Blk.ret ?_) | (with_reducible refine Blk.here ?_) | (with_reducible refine Seq.exit ?_) | (with_reducible refine Blk.out (by decide) ?_) | (with_reducible refine Blk.normal ?_) | (with_reducible refine Seq.normal ?_)))
        (repeat refine HW.seqL ?_); refine HW.seqR rfl (fun K hK => ?_)
        simp -implicitDefEqProofs only [↓XA, XB, XC, TF, UF, exists_eq_left', exists_eq_left, exists_eq_right, implies_true, forall_const, ↓reduceIte, reduceCtorEq, Nat.reduceLeDiff, Nat.reduceLT, Nat.reduceAdd, Nat.reduceMul, Nat.reduceEqDiff, Nat.reduceBEq, Nat.reduceSub, Int.reduceToNat, Int.reduceEq, Int.reduceNe, Int.reduceLT, Int.reduceLE, Int.reduceGT, Int.reduceGE, Int.reduceBEq, Int.reduceBNe, Int.reduceAdd, Int.reduceSub, Int.reduceMul, Int.reduceNeg, evM, nilV, extrV, binV, binI, binS, unV, convV, mkIfV, loadV, rdN, storeV, fieldAddrV, idxAddrV, idxV, fieldV, partV, lenV, capV, sliceV, bndV, stO, wrL, unfr, oneC, Value.cells, ptrV, eqD, tasV, buildV, bslL, buildL, setL, zrepL, eqL, leafEq]
        intro b hbn
        (try simp -implicitDefEqProofs only [↓XA, XB, XC, TF, UF, exists_eq_left', exists_eq_left, exists_eq_right, implies_true, forall_const, ↓reduceIte, reduceCtorEq, Nat.reduceLeDiff, Nat.reduceLT, Nat.reduceAdd, Nat.reduceMul, Nat.reduceEqDiff, Nat.reduceBEq, Nat.reduceSub, Int.reduceToNat, Int.reduceEq, Int.reduceNe, Int.reduceLT, Int.reduceLE, Int.reduceGT, Int.reduceGE, Int.reduceBEq, Int.reduceBNe, Int.reduceAdd, Int.reduceSub, Int.reduceMul, Int.reduceNeg, evM, nilV, extrV, binV, binI, binS, unV, convV, mkIfV, loadV, rdN, storeV, fieldAddrV, idxAddrV, idxV, fieldV, partV, lenV, capV, sliceV, bndV, stO, wrL, unfr, oneC, Value.cells, ptrV, eqD, tasV, buildV, bslL, buildL, setL, zrepL, eqL, leafEq])
        ((refine hK _ _ ?_); clear hK K)
        have hbc : c ≠ b := by rintro rfl; rw [hclk] at hbn; cases hbn
        obtain ⟨h1, hh1⟩ : ∃ h1, h1 = upd h b (Obj.cells (List.toArray [Value.int IntKind.i64 t, Value.int IntKind.i64 k, Value.int IntKind.i64 0]) 57 (0, 0)) := ⟨_, rfl⟩
        rw [← hh1]
        have hmb : m ≠ b := by
          rintro rfl
          obtain ⟨es, ck, hmm, _⟩ := hd.map
          rw [hmm] at hbn; cases hbn
        have hm1 : KMap encI (h1 m) l := by rw [hh1, upd_ne _ _ _ hmb]; exact hd.map
        have hclk1 : h1 c = some (.cells [rv, .map (some m)].toArray 54 (0, 0)) := by rw [hh1, upd_ne _ _ _ hbc]; exact hclk
        obtain ⟨o, hset, hmap2⟩ := hm1.set (P := Try.prog) (t := 50) lawI mapK_50 k (ptr b)
        simp only [encI, ptr] at hset
        (repeat refine HW.seqL ?_); refine HW.seqR rfl (fun K hK => ?_)
        simp -implicitDefEqProofs only [↓XA, XB, XC, TF, UF, exists_eq_left', exists_eq_left, exists_eq_right, implies_true, forall_const, ↓reduceIte, reduceCtorEq, Nat.reduceLeDiff, Nat.reduceLT, Nat.reduceAdd, Nat.reduceMul, Nat.reduceEqDiff, Nat.reduceBEq, Nat.reduceSub, Int.reduceToNat, Int.reduceEq, Int.reduceNe, Int.reduceLT, Int.reduceLE, Int.reduceGT, Int.reduceGE, Int.reduceBEq, Int.reduceBNe, Int.reduceAdd, Int.reduceSub, Int.reduceMul, Int.reduceNeg, evM, nilV, extrV, binV, binI, binS, unV, convV, mkIfV, loadV, rdN, storeV, fieldAddrV, idxAddrV, idxV, fieldV, partV, lenV, capV, sliceV, bndV, stO, wrL, unfr, oneC, Value.cells, ptrV, eqD, tasV, buildV, bslL, buildL, setL, zrepL, eqL, leafEq, hclk1, hset]
        ((refine hK _ _ ?_); clear hK K)
        obtain ⟨h2, hh2⟩ : ∃ h2, h2 = upd h1 m o := ⟨_, rfl⟩
        rw [← hh2]
        have hold : ∀ b', CB c ob a n b' → h2 b' = h b' := by
          intro b' hb'
          rw [hh2, upd_ne _ _ _ (by rintro rfl; exact hm hb'), hh1, upd_ne _ _ _ (by rintro rfl; exact hd.hg.alloc hb' hbn)]
        have hg2 : Hg h2 c rv ob a n (.map (some m)) := hd.hg.frame hold
        have he2 : h2 b = some (entO ⟨b, t, k⟩ 0) := by rw [hh2, upd_ne _ _ _ hmb.symm, hh1, upd_same]; rfl
        have hclk2 := hg2.clk
        (repeat refine HW.seqL ?_); refine HW.seqR rfl (fun K hK => ?_)
        simp -implicitDefEqProofs only [↓XA, XB, XC, TF, UF, exists_eq_left', exists_eq_left, exists_eq_right, implies_true, forall_const, ↓reduceIte, reduceCtorEq, Nat.reduceLeDiff, Nat.reduceLT, Nat.reduceAdd, Nat.reduceMul, Nat.reduceEqDiff, Nat.reduceBEq, Nat.reduceSub, Int.reduceToNat, Int.reduceEq, Int.reduceNe, Int.reduceLT, Int.reduceLE, Int.reduceGT, Int.reduceGE, Int.reduceBEq, Int.reduceBNe, Int.reduceAdd, Int.reduceSub, Int.reduceMul, Int.reduceNeg, evM, nilV, extrV, binV, binI, binS, unV, convV, mkIfV, loadV, rdN, storeV, fieldAddrV, idxAddrV, idxV, fieldV, partV, lenV, capV, sliceV, bndV, stO, wrL, unfr, oneC, Value.cells, ptrV, eqD, tasV, buildV, bslL, buildL, setL, zrepL, eqL, leafEq, hclk2]
        refine (hpush_ok (e := ⟨b, t, k⟩) (k0 := 0) hg2 (by omega) he2 (fun i hi e => hd.hg.alloc (.inr (.inr ⟨i, hi, rfl⟩)) (by rw [e]; exact hbn)) hd.ord).mono ?_
        rintro v h3 ⟨rb, cap, a', hd3, hO3, hss, hrb, hf3⟩
        (try simp -implicitDefEqProofs only [↓XA, XB, XC, TF, UF, exists_eq_left', exists_eq_left, exists_eq_right, implies_true, forall_const, ↓reduceIte, reduceCtorEq, Nat.reduceLeDiff, Nat.reduceLT, Nat.reduceAdd, Nat.reduceMul, Nat.reduceEqDiff, Nat.reduceBEq, Nat.reduceSub, Int.reduceToNat, Int.reduceEq, Int.reduceNe, Int.reduceLT, Int.reduceLE, Int.reduceGT, Int.reduceGE, Int.reduceBEq, Int.reduceBNe, Int.reduceAdd, Int.reduceSub, Int.reduceMul, Int.reduceNeg, evM, nilV, extrV, binV, binI, binS, unV, convV, mkIfV, loadV, rdN, storeV, fieldAddrV, idxAddrV, idxV, fieldV, partV, lenV, capV, sliceV, bndV, stO, wrL, unfr, oneC, Value.cells, ptrV, eqD, tasV, buildV, bslL, buildL, setL, zrepL, eqL, leafEq])
        ((refine hK _ _ ?_); clear hK K)
        (repeat refine HW.seqL ?_); refine HW.seqR rfl (fun K hK => ?_)
        simp -implicitDefEqProofs only [↓XA, XB, XC, TF, UF, exists_eq_left', exists_eq_left, exists_eq_right, implies_true, forall_const, ↓reduceIte, reduceCtorEq, Nat.reduceLeDiff, Nat.reduceLT, Nat.reduceAdd, Nat.reduceMul, Nat.reduceEqDiff, Nat.reduceBEq, Nat.reduceSub, Int.reduceToNat, Int.reduceEq, Int.reduceNe, Int.reduceLT, Int.reduceLE, Int.reduceGT, Int.reduceGE, Int.reduceBEq, Int.reduceBNe, Int.reduceAdd, Int.reduceSub, Int.reduceMul, Int.reduceNeg, evM, nilV, extrV, binV, binI, binS, unV, convV, mkIfV, loadV, rdN, storeV, fieldAddrV, idxAddrV, idxV, fieldV, partV, lenV, capV, sliceV, bndV, stO, wrL, unfr, oneC, Value.cells, ptrV, eqD, tasV, buildV, bslL, buildL, setL, zrepL, eqL, leafEq]
        ((refine hK _ _ ?_); clear hK K)
        ((refine HW.ret ?_); (repeat (first | (with_reducible refine Seq.ret ?_) | (with_reducible refine Blk.ret ?_))); (refine RetK.one rfl ?_))
        obtain ⟨es, ck, hmm, hkk, hnd⟩ := hd.map
        have hm3 : h3 m = some o := hf3 m o (by rw [hh2, upd_same]) (by
          rintro (e | e)
          · exact hm e
          · exact hmb e)
        have hrb' : ob = some rb ∨ h rb = none := by
          rcases hrb with hrb | hrb
          · exact .inl hrb
          · refine .inr ?_
            rw [hh2, upd_apply] at hrb
            split at hrb
            · cases hrb
            · rw [hh1, upd_apply] at hrb
              split at hrb
              · cases hrb
              · exact hrb
        refine ⟨rfl, _, n + 1, ⟨m, _, _, a', _, ClkD.of (Hg.of hd3) hO3 (by rw [hm3]; exact hmap2) ((hd.abs.add (e := ⟨b, t, k⟩) hnd e2).move hss), rfl⟩, by rw [if_pos e1], ?_, ?_⟩
        · intro b' o' hb' hnb
          refine hf3 b' o' ?_ ?_
          · rw [hh2, upd_ne _ _ _ (by rintro rfl; exact hnb (.inl rfl)), hh1, upd_ne _ _ _ (by rintro rfl; rw [hbn] at hb'; cases hb')]; exact hb'
          · rintro (e | e)
            · exact hnb (.inr e)
            · simp only at e; subst e; rw [hbn] at hb'; cases hb'
        · rintro b' (e | e | e | ⟨j, hj, e⟩)
          · exact .inl (.inl e)
          · exact .inl (.inr (.inl e))
          · cases e
            rcases hrb' with hrb | hrb
            · exact .inl (.inr (.inr (.inl hrb)))
            · exact .inr hrb
          · obtain ⟨q, hq, e5⟩ := (hss (a' j)).1 ⟨j, hj, rfl⟩
            rw [← e5] at e
            by_cases hqn : q = n
            · subst hqn; rw [ext_n] at e; rw [e]; exact .inr hbn
            · rw [ext_o a n _ hqn] at e
              exact .inl (.inr (.inr (.inr ⟨q, by omega, e⟩)))
  · rw [e3] at hg
    simp only [hitO] at hg
    have he := hd.hg.ent i hi
    obtain ⟨rb, cap, cs, rfl, rfl, hB, _, hdd⟩ := hd.row (by omega)
    have hcb : c ≠ (a i).b := hdd.ne_ent hi
    have hrb := hdd.row.ne hi
    simp only [entO, ptr, Go.Proofs.Ytiiglipmekeikaa.row] at he hg hclk
    refine CallK.of Try.func8 (by kernel_rfl) rfl Try.ntmps8 (rs := _) Try.results8 (by simp) ?_; simp only [envOf, Nat.zero_add, Nat.reduceAdd]
    (repeat refine HW.seqL ?_); refine HW.seqR rfl (fun K hK => ?_)
    simp -implicitDefEqProofs only [↓XA, XB, XC, TF, UF, exists_eq_left', exists_eq_left, exists_eq_right, implies_true, forall_const, ↓reduceIte, reduceCtorEq, Nat.reduceLeDiff, Nat.reduceLT, Nat.reduceAdd, Nat.reduceMul, Nat.reduceEqDiff, Nat.reduceBEq, Nat.reduceSub, Int.reduceToNat, Int.reduceEq, Int.reduceNe, Int.reduceLT, Int.reduceLE, Int.reduceGT, Int.reduceGE, Int.reduceBEq, Int.reduceBNe, Int.reduceAdd, Int.reduceSub, Int.reduceMul, Int.reduceNeg, evM, nilV, extrV, binV, binI, binS, unV, convV, mkIfV, loadV, rdN, storeV, fieldAddrV, idxAddrV, idxV, fieldV, partV, lenV, capV, sliceV, bndV, stO, wrL, unfr, oneC, Value.cells, ptrV, eqD, tasV, buildV, bslL, buildL, setL, zrepL, eqL, leafEq, ptr]
    ((refine hK _ _ ?_); clear hK K)
    (repeat refine HW.seqL ?_); refine HW.seqR rfl (fun K hK => ?_)
    simp -implicitDefEqProofs only [↓XA, XB, XC, TF, UF, exists_eq_left', exists_eq_left, exists_eq_right, implies_true, forall_const, ↓reduceIte, reduceCtorEq, Nat.reduceLeDiff, Nat.reduceLT, Nat.reduceAdd, Nat.reduceMul, Nat.reduceEqDiff, Nat.reduceBEq, Nat.reduceSub, Int.reduceToNat, Int.reduceEq, Int.reduceNe, Int.reduceLT, Int.reduceLE, Int.reduceGT, Int.reduceGE, Int.reduceBEq, Int.reduceBNe, Int.reduceAdd, Int.reduceSub, Int.reduceMul, Int.reduceNeg, evM, nilV, extrV, binV, binI, binS, unV, convV, mkIfV, loadV, rdN, storeV, fieldAddrV, idxAddrV, idxV, fieldV, partV, lenV, capV, sliceV, bndV, stO, wrL, unfr, oneC, Value.cells, ptrV, eqD, tasV, buildV, bslL, buildL, setL, zrepL, eqL, leafEq, t0, t1, gt_iff_lt]
    ((refine hK _ _ ?_); clear hK K)
    (repeat refine HW.seqL ?_); first | refine HW.ite rfl (fun hb => ?_) (fun hb => ?_) | refine HW.iteS rfl (fun hb => ?_) (fun hb => ?_)
    · cases hb
    · refine HW.skip ?_
      (repeat (first | (with_reducible refine Seq.ret ?_) | (with_reducible refine Blk.ret ?_) | (with_reducible refine Blk.here ?_) | (with_reducible refine Seq.exit ?_) | (with_reducible refine Blk.out (by decide) ?_) | (with_reducible refine Blk.normal ?_) | (with_reducible refine Seq.normal ?_)))
      (repeat refine HW.seqL ?_); refine HW.seqR rfl (fun K hK => ?_)
      simp -implicitDefEqProofs only [↓XA, XB, XC, TF, UF, exists_eq_left', exists_eq_left, exists_eq_right, implies_true, forall_const, ↓reduceIte, reduceCtorEq, Nat.reduceLeDiff, Nat.reduceLT, Nat.reduceAdd, Nat.reduceMul, Nat.reduceEqDiff, Nat.reduceBEq, Nat.reduceSub, Int.reduceToNat, Int.reduceEq, Int.reduceNe, Int.reduceLT, Int.reduceLE, Int.reduceGT, Int.reduceGE, Int.reduceBEq, Int.reduceBNe, Int.reduceAdd, Int.reduceSub, Int.reduceMul, Int.reduceNeg, evM, nilV, extrV, binV, binI, binS, unV, convV, mkIfV, loadV, rdN, storeV, fieldAddrV, idxAddrV, idxV, fieldV, partV, lenV, capV, sliceV, bndV, stO, wrL, unfr, oneC, Value.cells, ptrV, eqD, tasV, buildV, bslL, buildL, setL, zrepL, eqL, leafEq, hclk, hg]
      ((refine hK _ _ ?_); clear hK K)
      (repeat refine HW.seqL ?_); refine HW.seqR rfl (fun K hK => ?_)
      simp -implicitDefEqProofs only [↓XA, XB, XC, TF, UF, exists_eq_left', exists_eq_left, exists_eq_right, implies_true, forall_const, ↓reduceIte, reduceCtorEq, Nat.reduceLeDiff, Nat.reduceLT, Nat.reduceAdd, Nat.reduceMul, Nat.reduceEqDiff, Nat.reduceBEq, Nat.reduceSub, Int.reduceToNat, Int.reduceEq, Int.reduceNe, Int.reduceLT, Int.reduceLE, Int.reduceGT, Int.reduceGE, Int.reduceBEq, Int.reduceBNe, Int.reduceAdd, Int.reduceSub, Int.reduceMul, Int.reduceNeg, evM, nilV, extrV, binV, binI, binS, unV, convV, mkIfV, loadV, rdN, storeV, fieldAddrV, idxAddrV, idxV, fieldV, partV, lenV, capV, sliceV, bndV, stO, wrL, unfr, oneC, Value.cells, ptrV, eqD, tasV, buildV, bslL, buildL, setL, zrepL, eqL, leafEq]
      ((refine hK _ _ ?_); clear hK K)
      (repeat refine HW.seqL ?_); first | refine HW.ite rfl (fun hb => ?_) (fun hb => ?_) | refine HW.iteS rfl (fun hb => ?_) (fun hb => ?_)
      · (repeat refine HW.seqL ?_); refine HW.seqR rfl (fun K hK => ?_)
        simp -implicitDefEqProofs only [↓XA, XB, XC, TF, UF, exists_eq_left', exists_eq_left, exists_eq_right, implies_true, forall_const, ↓reduceIte, reduceCtorEq, Nat.reduceLeDiff, Nat.reduceLT, Nat.reduceAdd, Nat.reduceMul, Nat.reduceEqDiff, Nat.reduceBEq, Nat.reduceSub, Int.reduceToNat, Int.reduceEq, Int.reduceNe, Int.reduceLT, Int.reduceLE, Int.reduceGT, Int.reduceGE, Int.reduceBEq, Int.reduceBNe, Int.reduceAdd, Int.reduceSub, Int.reduceMul, Int.reduceNeg, evM, nilV, extrV, binV, binI, binS, unV, convV, mkIfV, loadV, rdN, storeV, fieldAddrV, idxAddrV, idxV, fieldV, partV, lenV, capV, sliceV, bndV, stO, wrL, unfr, oneC, Value.cells, ptrV, eqD, tasV, buildV, bslL, buildL, setL, zrepL, eqL, leafEq, he]
        ((refine hK _ _ ?_); clear hK K)
        (repeat refine HW.seqL ?_); refine HW.seqD (by kernel_rfl) (by rfl) [(0, [], []), (1, [], []), (2, [], []), (3, [], []), (4, [], []), (5, [], []), (6, [], []), (7, [], []), (8, [], [3, 7, 2, 6, 1, 5, 0, 4])] (by kernel_rfl) (by rfl) (fun K hK => ?_)
        simp -implicitDefEqProofs only [↓XA, XB, XC, TF, UF, exists_eq_left', exists_eq_left, exists_eq_right, implies_true, forall_const, ↓reduceIte, reduceCtorEq, Nat.reduceLeDiff, Nat.reduceLT, Nat.reduceAdd, Nat.reduceMul, Nat.reduceEqDiff, Nat.reduceBEq, Nat.reduceSub, Int.reduceToNat, Int.reduceEq, Int.reduceNe, Int.reduceLT, Int.reduceLE, Int.reduceGT, Int.reduceGE, Int.reduceBEq, Int.reduceBNe, Int.reduceAdd, Int.reduceSub, Int.reduceMul, Int.reduceNeg, evM, nilV, extrV, binV, binI, binS, unV, convV, mkIfV, loadV, rdN, storeV, fieldAddrV, idxAddrV, idxV, fieldV, partV, lenV, capV, sliceV, bndV, stO, wrL, unfr, oneC, Value.cells, ptrV, eqD, tasV, buildV, bslL, buildL, setL, zrepL, eqL, leafEq, he, hcb, hcb.symm, hclk]
        have hd1 : Hd (upd h (a i).b (Obj.cells (List.toArray [Value.int IntKind.i64 t, Value.int IntKind.i64 (a i).id, Value.int IntKind.i64 i]) 57 (0, 0))) c rb cap (retick a i t) n (.map (some m)) := by
          refine ⟨by rw [upd_ne _ _ _ hcb]; exact hdd.clk, ⟨hdd.row.le, ⟨cs, by rw [upd_ne _ _ _ hrb.symm]; exact hB, ?_⟩, ?_, ?_⟩⟩
          · obtain ⟨cs', hB', h2, h3⟩ := hdd.row.blk
            rw [hB] at hB'
            cases hB'
            exact ⟨h2, fun j hj => by rw [retick_b]; exact h3 j hj⟩
          · intro j hj
            rw [retick_b]
            by_cases e : j = i
            · subst e; rw [upd_same]; simp [entO, retick]
            · rw [upd_ne _ _ _ (fun e' => e (hd.hg.inj _ _ hj hi e')), hd.hg.ent j hj]; simp [retick, e]
          · intro j q hj hq e
            rw [retick_b, retick_b] at e
            exact hd.hg.inj j q hj hq e
        refine (fix_ok hd1 (by omega) i hi (dn_start hd.ord (fun q hq _ => by simp [retick, hq]) hi)).mono ?_
        rintro v h2 ⟨a', hdid, hO⟩
        (try simp -implicitDefEqProofs only [↓XA, XB, XC, TF, UF, exists_eq_left', exists_eq_left, exists_eq_right, implies_true, forall_const, ↓reduceIte, reduceCtorEq, Nat.reduceLeDiff, Nat.reduceLT, Nat.reduceAdd, Nat.reduceMul, Nat.reduceEqDiff, Nat.reduceBEq, Nat.reduceSub, Int.reduceToNat, Int.reduceEq, Int.reduceNe, Int.reduceLT, Int.reduceLE, Int.reduceGT, Int.reduceGE, Int.reduceBEq, Int.reduceBNe, Int.reduceAdd, Int.reduceSub, Int.reduceMul, Int.reduceNeg, evM, nilV, extrV, binV, binI, binS, unV, convV, mkIfV, loadV, rdN, storeV, fieldAddrV, idxAddrV, idxV, fieldV, partV, lenV, capV, sliceV, bndV, stO, wrL, unfr, oneC, Value.cells, ptrV, eqD, tasV, buildV, bslL, buildL, setL, zrepL, eqL, leafEq])
        ((refine hK _ _ ?_); clear hK K)
        (repeat refine HW.seqL ?_); refine HW.seqR rfl (fun K hK => ?_)
        simp -implicitDefEqProofs only [↓XA, XB, XC, TF, UF, exists_eq_left', exists_eq_left, exists_eq_right, implies_true, forall_const, ↓reduceIte, reduceCtorEq, Nat.reduceLeDiff, Nat.reduceLT, Nat.reduceAdd, Nat.reduceMul, Nat.reduceEqDiff, Nat.reduceBEq, Nat.reduceSub, Int.reduceToNat, Int.reduceEq, Int.reduceNe, Int.reduceLT, Int.reduceLE, Int.reduceGT, Int.reduceGE, Int.reduceBEq, Int.reduceBNe, Int.reduceAdd, Int.reduceSub, Int.reduceMul, Int.reduceNeg, evM, nilV, extrV, binV, binI, binS, unV, convV, mkIfV, loadV, rdN, storeV, fieldAddrV, idxAddrV, idxV, fieldV, partV, lenV, capV, sliceV, bndV, stO, wrL, unfr, oneC, Value.cells, ptrV, eqD, tasV, buildV, bslL, buildL, setL, zrepL, eqL, leafEq]
        ((refine hK _ _ ?_); clear hK K)
        ((refine HW.ret ?_); (repeat (first | (with_reducible refine Seq.ret ?_) | (with_reducible refine Blk.ret ?_))); (refine RetK.one rfl ?_))
        obtain ⟨es, ck, hmm, hkk, hnd⟩ := hd.map
        have hss := hdid.mv.set hdid.le
        have hfr : ∀ b' o', h b' = some o' → ¬ Cl c m (some rb) a n b' → h2 b' = some o' := by
          intro b' o' hb' hnb
          refine hdid.fr b' o' ?_ ?_
          · rw [upd_ne _ _ _ (by rintro rfl; exact hnb (.inr (.inr (.inr ⟨i, hi, rfl⟩))))]; exact hb'
          · rintro (e | ⟨q, hq, e⟩)
            · exact hnb (.inr (.inr (.inl (by rw [e]))))
            · rw [retick_b] at e; exact hnb (.inr (.inr (.inr ⟨q, hq, e⟩)))
        have hm2 : h2 m = h m := by
          rw [hmm]
          refine hdid.fr m _ (by rw [upd_ne _ _ _ (by rintro rfl; exact hm (.inr (.inr ⟨i, hi, rfl⟩)))]; exact hmm) ?_
          rintro (e | ⟨q, hq, e⟩)
          · exact hm (.inr (.inl (by rw [e])))
          · rw [retick_b] at e; exact hm (.inr (.inr ⟨q, hq, e⟩))
        refine ⟨rfl, _, n, ⟨m, _, _, a', l, ClkD.of (Hg.of hdid.hd) hO (by rw [hm2, hmm]; exact ⟨es, ck, rfl, hkk, hnd⟩) (by rw [← e1]; exact (hd.abs.retick (fun _ _ => hd.ids) hi t).move hss), rfl⟩, by rw [if_neg (by rw [e2]; simp)], hfr, ?_⟩
        rintro b' (e | e | e | ⟨j, hj, e⟩)
        · exact .inl (.inl e)
        · exact .inl (.inr (.inl e))
        · exact .inl (.inr (.inr (.inl e)))
        · obtain ⟨q, hq, e5⟩ := (hss (a' j)).1 ⟨j, hj, rfl⟩
          rw [← e5, retick_b] at e
          exact .inl (.inr (.inr (.inr ⟨q, hq, e⟩)))
      · cases hb

theorem cancel_ok {h : Hp} {c n : Nat} {F : Nat → Prop} {S : Al} (hc : Clk h c F S n) (hn : n < 2 ^ 40) (k : Int) :
    CallK Try.prog 9 [ptr c, .int .i64 k] h fun v h' => v = .bool (S k).isSome ∧ ∃ F' n', Clk h' c F' (put S k none) n' ∧ n' = (if S k = none then n else n - 1) ∧ Step F F' h h' := by
  obtain ⟨m, rv, ob, a, l, hd, hF⟩ := hc
  have hg := hd.get k false
  have hclk := hd.hg.clk
  have hm := hd.ne_m
  rcases hd.find k with ⟨e1, e2⟩ | ⟨i, hi, e1, e2, e3⟩
  · rw [e2] at hg
    simp only [hitO] at hg
    refine CallK.of Try.func9 (by kernel_rfl) rfl Try.ntmps9 (rs := _) Try.results9 (by simp) ?_; simp only [envOf, Nat.zero_add, Nat.reduceAdd]
    (repeat refine HW.seqL ?_); refine HW.seqR rfl (fun K hK => ?_)
    simp -implicitDefEqProofs only [↓XA, XB, XC, TF, UF, exists_eq_left', exists_eq_left, exists_eq_right, implies_true, forall_const, ↓reduceIte, reduceCtorEq, Nat.reduceLeDiff, Nat.reduceLT, Nat.reduceAdd, Nat.reduceMul, Nat.reduceEqDiff, Nat.reduceBEq, Nat.reduceSub, Int.reduceToNat, Int.reduceEq, Int.reduceNe, Int.reduceLT, Int.reduceLE, Int.reduceGT, Int.reduceGE, Int.reduceBEq, Int.reduceBNe, Int.reduceAdd, Int.reduceSub, Int.reduceMul, Int.reduceNeg, evM, nilV, extrV, binV, binI, binS, unV, convV, mkIfV, loadV, rdN, storeV, fieldAddrV, idxAddrV, idxV, fieldV, partV, lenV, capV, sliceV, bndV, stO, wrL, unfr, oneC, Value.cells, ptrV, eqD, tasV, buildV, bslL, buildL, setL, zrepL, eqL, leafEq, ptr]
    ((refine hK _ _ ?_); clear hK K)
    (repeat refine HW.seqL ?_); refine HW.seqR rfl (fun K hK => ?_)
    simp -implicitDefEqProofs only [↓XA, XB, XC, TF, UF, exists_eq_left', exists_eq_left, exists_eq_right, implies_true, forall_const, ↓reduceIte, reduceCtorEq, Nat.reduceLeDiff, Nat.reduceLT, Nat.reduceAdd, Nat.reduceMul, Nat.reduceEqDiff, Nat.reduceBEq, Nat.reduceSub, Int.reduceToNat, Int.reduceEq, Int.reduceNe, Int.reduceLT, Int.reduceLE, Int.reduceGT, Int.reduceGE, Int.reduceBEq, Int.reduceBNe, Int.reduceAdd, Int.reduceSub, Int.reduceMul, Int.reduceNeg, evM, nilV, extrV, binV, binI, binS, unV, convV, mkIfV, loadV, rdN, storeV, fieldAddrV, idxAddrV, idxV, fieldV, partV, lenV, capV, sliceV, bndV, stO, wrL, unfr, oneC, Value.cells, ptrV, eqD, tasV, buildV, bslL, buildL, setL, zrepL, eqL, leafEq, hclk, hg]
    ((refine hK _ _ ?_); clear hK K)
    (repeat refine HW.seqL ?_); refine HW.seqR rfl (fun K hK => ?_)
    simp -implicitDefEqProofs only [↓XA, XB, XC, TF, UF, exists_eq_left', exists_eq_left, exists_eq_right, implies_true, forall_const, ↓reduceIte, reduceCtorEq, Nat.reduceLeDiff, Nat.reduceLT, Nat.reduceAdd, Nat.reduceMul, Nat.reduceEqDiff, Nat.reduceBEq, Nat.reduceSub, Int.reduceToNat, Int.reduceEq, Int.reduceNe, Int.reduceLT, Int.reduceLE, Int.reduceGT, Int.reduceGE, Int.reduceBEq, Int.reduceBNe, Int.reduceAdd, Int.reduceSub, Int.reduceMul, Int.reduceNeg, evM, nilV, extrV, binV, binI, binS, unV, convV, mkIfV, loadV, rdN, storeV, fieldAddrV, idxAddrV, idxV, fieldV, partV, lenV, capV, sliceV, bndV, stO, wrL, unfr, oneC, Value.cells, ptrV, eqD, tasV, buildV, bslL, buildL, setL, zrepL, eqL, leafEq]
    ((refine hK _ _ ?_); clear hK K)
    (repeat refine HW.seqL ?_); first | refine HW.ite rfl (fun hb => ?_) (fun hb => ?_) | refine HW.iteS rfl (fun hb => ?_) (fun hb => ?_)
    · (repeat refine HW.seqL ?_); refine HW.seqR rfl (fun K hK => ?_)
      simp -implicitDefEqProofs only [↓XA, XB, XC, TF, UF, exists_eq_left', exists_eq_left, exists_eq_right, implies_true, forall_const, ↓reduceIte, reduceCtorEq, Nat.reduceLeDiff, Nat.reduceLT, Nat.reduceAdd, Nat.reduceMul, Nat.reduceEqDiff, Nat.reduceBEq, Nat.reduceSub, Int.reduceToNat, Int.reduceEq, Int.reduceNe, Int.reduceLT, Int.reduceLE, Int.reduceGT, Int.reduceGE, Int.reduceBEq, Int.reduceBNe, Int.reduceAdd, Int.reduceSub, Int.reduceMul, Int.reduceNeg, evM, nilV, extrV, binV, binI, binS, unV, convV, mkIfV, loadV, rdN, storeV, fieldAddrV, idxAddrV, idxV, fieldV, partV, lenV, capV, sliceV, bndV, stO, wrL, unfr, oneC, Value.cells, ptrV, eqD, tasV, buildV, bslL, buildL, setL, zrepL, eqL, leafEq]
      ((refine hK _ _ ?_); clear hK K)
      ((refine HW.ret ?_); (repeat (first | (with_reducible refine Seq.ret ?_) | (with_reducible refine Blk.ret ?_))); (refine RetK.one rfl ?_))
      have hp : put S k none = S := by
        funext k'
        unfold put
        split
        · rename_i e; rw [e, e1]
        · rfl
      rw [hp, e1]
      exact ⟨rfl, F, n, ⟨m, rv, ob, a, l, hd, hF⟩, rfl, Step.refl _ _⟩
    · cases hb
  · rw [e3] at hg
    simp only [hitO] at hg
    have he := hd.hg.ent i hi
    obtain ⟨rb, cap, cs, rfl, rfl, hB, _, hdd⟩ := hd.row (by omega)
    obtain ⟨n, rfl⟩ : ∃ n', n = n' + 1 := ⟨n - 1, by omega⟩
    simp only [entO, ptr, Go.Proofs.Ytiiglipmekeikaa.row] at he hg hclk
    refine CallK.of Try.func9 (by kernel_rfl) rfl Try.ntmps9 (rs := _) Try.results9 (by simp) ?_; simp only [envOf, Nat.zero_add, Nat.reduceAdd]
    (repeat refine HW.seqL ?_); refine HW.seqR rfl (fun K hK => ?_)
    simp -implicitDefEqProofs only [↓XA, XB, XC, TF, UF, exists_eq_left', exists_eq_left, exists_eq_right, implies_true, forall_const, ↓reduceIte, reduceCtorEq, Nat.reduceLeDiff, Nat.reduceLT, Nat.reduceAdd, Nat.reduceMul, Nat.reduceEqDiff, Nat.reduceBEq, Nat.reduceSub, Int.reduceToNat, Int.reduceEq, Int.reduceNe, Int.reduceLT, Int.reduceLE, Int.reduceGT, Int.reduceGE, Int.reduceBEq, Int.reduceBNe, Int.reduceAdd, Int.reduceSub, Int.reduceMul, Int.reduceNeg, evM, nilV, extrV, binV, binI, binS, unV, convV, mkIfV, loadV, rdN, storeV, fieldAddrV, idxAddrV, idxV, fieldV, partV, lenV, capV, sliceV, bndV, stO, wrL, unfr, oneC, Value.cells, ptrV, eqD, tasV, buildV, bslL, buildL, setL, zrepL, eqL, leafEq, ptr]
    ((refine hK _ _ ?_); clear hK K)
    (repeat refine HW.seqL ?_); refine HW.seqR rfl (fun K hK => ?_)
    simp -implicitDefEqProofs only [↓XA, XB, XC, TF, UF, exists_eq_left', exists_eq_left, exists_eq_right, implies_true, forall_const, ↓reduceIte, reduceCtorEq, Nat.reduceLeDiff, Nat.reduceLT, Nat.reduceAdd, Nat.reduceMul, Nat.reduceEqDiff, Nat.reduceBEq, Nat.reduceSub, Int.reduceToNat, Int.reduceEq, Int.reduceNe, Int.reduceLT, Int.reduceLE, Int.reduceGT, Int.reduceGE, Int.reduceBEq, Int.reduceBNe, Int.reduceAdd, Int.reduceSub, Int.reduceMul, Int.reduceNeg, evM, nilV, extrV, binV, binI, binS, unV, convV, mkIfV, loadV, rdN, storeV, fieldAddrV, idxAddrV, idxV, fieldV, partV, lenV, capV, sliceV, bndV, stO, wrL, unfr, oneC, Value.cells, ptrV, eqD, tasV, buildV, bslL, buildL, setL, zrepL, eqL, leafEq, hclk, hg]
    ((refine hK _ _ ?_); clear hK K)
    (repeat refine HW.seqL ?_); refine HW.seqR rfl (fun K hK => ?_)
    simp -implicitDefEqProofs only [↓XA, XB, XC, TF, UF, exists_eq_left', exists_eq_left, exists_eq_right, implies_true, forall_const, ↓reduceIte, reduceCtorEq, Nat.reduceLeDiff, Nat.reduceLT, Nat.reduceAdd, Nat.reduceMul, Nat.reduceEqDiff, Nat.reduceBEq, Nat.reduceSub, Int.reduceToNat, Int.reduceEq, Int.reduceNe, Int.reduceLT, Int.reduceLE, Int.reduceGT, Int.reduceGE, Int.reduceBEq, Int.reduceBNe, Int.reduceAdd, Int.reduceSub, Int.reduceMul, Int.reduceNeg, evM, nilV, extrV, binV, binI, binS, unV, convV, mkIfV, loadV, rdN, storeV, fieldAddrV, idxAddrV, idxV, fieldV, partV, lenV, capV, sliceV, bndV, stO, wrL, unfr, oneC, Value.cells, ptrV, eqD, tasV, buildV, bslL, buildL, setL, zrepL, eqL, leafEq]
    ((refine hK _ _ ?_); clear hK K)
    (repeat refine HW.seqL ?_); first | refine HW.ite rfl (fun hb => ?_) (fun hb => ?_) | refine HW.iteS rfl (fun hb => ?_) (fun hb => ?_)
    · cases hb
    · refine HW.skip ?_
      (repeat (first | (with_reducible refine Seq.ret ?_) | (with_reducible refine Blk.ret ?_) | (with_reducible refine Blk.here ?_) | (with_reducible refine Seq.exit ?_) | (with_reducible refine Blk.out (by decide) ?_) | (with_reducible refine Blk.normal ?_) | (with_reducible refine Seq.normal ?_)))
      (repeat refine HW.seqL ?_); refine HW.seqD (by kernel_rfl) (by rfl) [(0, [], []), (1, [], []), (2, [], []), (3, [], []), (4, [], []), (5, [], []), (6, [], []), (7, [], []), (8, [], [3, 7, 2, 6, 1, 5, 0, 4])] (by kernel_rfl) (by rfl) (fun K hK => ?_)
      simp -implicitDefEqProofs only [↓XA, XB, XC, TF, UF, exists_eq_left', exists_eq_left, exists_eq_right, implies_true, forall_const, ↓reduceIte, reduceCtorEq, Nat.reduceLeDiff, Nat.reduceLT, Nat.reduceAdd, Nat.reduceMul, Nat.reduceEqDiff, Nat.reduceBEq, Nat.reduceSub, Int.reduceToNat, Int.reduceEq, Int.reduceNe, Int.reduceLT, Int.reduceLE, Int.reduceGT, Int.reduceGE, Int.reduceBEq, Int.reduceBNe, Int.reduceAdd, Int.reduceSub, Int.reduceMul, Int.reduceNeg, evM, nilV, extrV, binV, binI, binS, unV, convV, mkIfV, loadV, rdN, storeV, fieldAddrV, idxAddrV, idxV, fieldV, partV, lenV, capV, sliceV, bndV, stO, wrL, unfr, oneC, Value.cells, ptrV, eqD, tasV, buildV, bslL, buildL, setL, zrepL, eqL, leafEq, he]
      refine (remove_ok hdd (by omega) hd.ord i hi).mono ?_
      rintro v h2 ⟨a', hd2, hO, hss, hfr⟩
      (try simp -implicitDefEqProofs only [↓XA, XB, XC, TF, UF, exists_eq_left', exists_eq_left, exists_eq_right, implies_true, forall_const, ↓reduceIte, reduceCtorEq, Nat.reduceLeDiff, Nat.reduceLT, Nat.reduceAdd, Nat.reduceMul, Nat.reduceEqDiff, Nat.reduceBEq, Nat.reduceSub, Int.reduceToNat, Int.reduceEq, Int.reduceNe, Int.reduceLT, Int.reduceLE, Int.reduceGT, Int.reduceGE, Int.reduceBEq, Int.reduceBNe, Int.reduceAdd, Int.reduceSub, Int.reduceMul, Int.reduceNeg, evM, nilV, extrV, binV, binI, binS, unV, convV, mkIfV, loadV, rdN, storeV, fieldAddrV, idxAddrV, idxV, fieldV, partV, lenV, capV, sliceV, bndV, stO, wrL, unfr, oneC, Value.cells, ptrV, eqD, tasV, buildV, bslL, buildL, setL, zrepL, eqL, leafEq])
      ((refine hK _ _ ?_); clear hK K)
      obtain ⟨es, ck, hmm, hkk, hnd⟩ := hd.map
      have hm2 : KMap encI (h2 m) l := by
        rw [hfr m _ hmm hm]; exact ⟨es, ck, rfl, hkk, hnd⟩
      have hclk2 := hd2.clk
      simp only [Go.Proofs.Ytiiglipmekeikaa.row] at hclk2
      obtain ⟨o, hdel, hmap3⟩ := hm2.del (P := Try.prog) (t := 50) lawI mapK_50 k
      simp only [encI] at hdel
      (repeat refine HW.seqL ?_); refine HW.seqR rfl (fun K hK => ?_)
      simp -implicitDefEqProofs only [↓XA, XB, XC, TF, UF, exists_eq_left', exists_eq_left, exists_eq_right, implies_true, forall_const, ↓reduceIte, reduceCtorEq, Nat.reduceLeDiff, Nat.reduceLT, Nat.reduceAdd, Nat.reduceMul, Nat.reduceEqDiff, Nat.reduceBEq, Nat.reduceSub, Int.reduceToNat, Int.reduceEq, Int.reduceNe, Int.reduceLT, Int.reduceLE, Int.reduceGT, Int.reduceGE, Int.reduceBEq, Int.reduceBNe, Int.reduceAdd, Int.reduceSub, Int.reduceMul, Int.reduceNeg, evM, nilV, extrV, binV, binI, binS, unV, convV, mkIfV, loadV, rdN, storeV, fieldAddrV, idxAddrV, idxV, fieldV, partV, lenV, capV, sliceV, bndV, stO, wrL, unfr, oneC, Value.cells, ptrV, eqD, tasV, buildV, bslL, buildL, setL, zrepL, eqL, leafEq, hclk2, hdel]
      ((refine hK _ _ ?_); clear hK K)
      (repeat refine HW.seqL ?_); refine HW.seqR rfl (fun K hK => ?_)
      simp -implicitDefEqProofs only [↓XA, XB, XC, TF, UF, exists_eq_left', exists_eq_left, exists_eq_right, implies_true, forall_const, ↓reduceIte, reduceCtorEq, Nat.reduceLeDiff, Nat.reduceLT, Nat.reduceAdd, Nat.reduceMul, Nat.reduceEqDiff, Nat.reduceBEq, Nat.reduceSub, Int.reduceToNat, Int.reduceEq, Int.reduceNe, Int.reduceLT, Int.reduceLE, Int.reduceGT, Int.reduceGE, Int.reduceBEq, Int.reduceBNe, Int.reduceAdd, Int.reduceSub, Int.reduceMul, Int.reduceNeg, evM, nilV, extrV, binV, binI, binS, unV, convV, mkIfV, loadV, rdN, storeV, fieldAddrV, idxAddrV, idxV, fieldV, partV, lenV, capV, sliceV, bndV, stO, wrL, unfr, oneC, Value.cells, ptrV, eqD, tasV, buildV, bslL, buildL, setL, zrepL, eqL, leafEq]
      ((refine hK _ _ ?_); clear hK K)
      ((refine HW.ret ?_); (repeat (first | (with_reducible refine Seq.ret ?_) | (with_reducible refine Blk.ret ?_))); (refine RetK.one rfl ?_))
      have hsub : ∀ b, CB c (some rb) a' n b → CB c (some rb) a (n + 1) b := by
        rintro b (e | e | ⟨q, hq, e⟩)
        · exact .inl e
        · exact .inr (.inl e)
        · obtain ⟨j, hj, _, e5⟩ := (hss (a' q)).1 ⟨q, hq, rfl⟩
          exact .inr (.inr ⟨j, hj, by rw [e, e5]⟩)
      refine ⟨by rw [e2]; rfl, _, n, ⟨m, _, _, a', _, ClkD.of ((Hg.of hd2).frame fun b hb => upd_ne _ _ _ (by rintro rfl; exact hm (hsub _ hb))) hO (by rw [upd_same]; exact hmap3) (by rw [← e1]; exact hd.abs.del hnd (fun _ _ => hd.ids) hi hss), rfl⟩, by rw [if_neg (by rw [e2]; simp)]; omega, ?_, ?_⟩
      · subst hF
        intro b o' hb hnb
        rw [upd_ne _ _ _ (by rintro rfl; exact hnb (.inl rfl))]
        exact hfr b o' hb fun e => hnb (.inr e)
      · subst hF
        rintro b (e | e)
        · exact .inl (.inl e)
        · exact .inl (.inr (hsub b e))

theorem Step.upd {F F' : Nat → Prop} {h h1 : Hp} {b : Nat} (s : Step F F' h h1) (hb : h1 b = none ∨ F b ∨ h b = none) (o : Obj) : Step F F' h (upd h1 b o) := by
  refine ⟨?_, s.2⟩
  intro c oc e n
  have h2 := s.1 c oc e n
  rw [upd_ne _ _ _ ?_]
  · exact h2
  · rintro rfl
    rcases hb with hb | hb | hb
    · rw [hb] at h2; cases h2
    · exact n hb
    · rw [hb] at e; cases e
/-- What rings by a tick, one behind the other. -/
inductive Rings (S : Al) (n : Nat) (now : Int) : List Int → Al → Nat → Prop
  | nil : Rings S n now [] S n
  | snoc {xs S1 n1 k t} : Rings S n now xs S1 n1 → First S1 k t → t ≤ now → 0 < n1 → Rings S n now (xs ++ [k]) (put S1 k none) (n1 - 1)
def Still2 (now : Int) (S : Al) : Prop := ∀ k t, S k = some t → now < t
theorem Rings.le {S S1 : Al} {n n1 : Nat} {now : Int} {xs : List Int} (hr : Rings S n now xs S1 n1) : xs.length + n1 = n := by
  induction hr with
  | nil => simp
  | snoc _ _ _ h0 ih => simp; omega


theorem due_ok {h : Hp} {c n : Nat} {F : Nat → Prop} {S : Al} (hc : Clk h c F S n) (hn : n < 2 ^ 40) (now : Int) :
    CallK Try.prog 10 [ptr c, .int .i64 now] h fun v h' => ∃ xs ob F' S' n', Rings S n now xs S' n' ∧ Still2 now S' ∧ Clk h' c F' S' n' ∧ Step F F' h h' ∧ Own h' 3 1 v xs.length (ints xs) ob ∧ ∀ b, ob = some b → (h b = none ∨ F b) ∧ ¬ F' b := by
  refine CallK.of Try.func10 (by kernel_rfl) rfl Try.ntmps10 (rs := _) Try.results10 (by simp) ?_; simp only [envOf, Nat.zero_add, Nat.reduceAdd]
  (repeat refine HW.seqL ?_); refine HW.seqR rfl (fun K hK => ?_)
  simp -implicitDefEqProofs only [↓XA, XB, XC, TF, UF, exists_eq_left', exists_eq_left, exists_eq_right, implies_true, forall_const, ↓reduceIte, reduceCtorEq, Nat.reduceLeDiff, Nat.reduceLT, Nat.reduceAdd, Nat.reduceMul, Nat.reduceEqDiff, Nat.reduceBEq, Nat.reduceSub, Int.reduceToNat, Int.reduceEq, Int.reduceNe, Int.reduceLT, Int.reduceLE, Int.reduceGT, Int.reduceGE, Int.reduceBEq, Int.reduceBNe, Int.reduceAdd, Int.reduceSub, Int.reduceMul, Int.reduceNeg, evM, nilV, extrV, binV, binI, binS, unV, convV, mkIfV, loadV, rdN, storeV, fieldAddrV, idxAddrV, idxV, fieldV, partV, lenV, capV, sliceV, bndV, stO, wrL, unfr, oneC, Value.cells, ptrV, eqD, tasV, buildV, bslL, buildL, setL, zrepL, eqL, leafEq, ptr]
  ((refine hK _ _ ?_); clear hK K)
  (repeat refine HW.seqL ?_); refine HW.seqR rfl (fun K hK => ?_)
  simp -implicitDefEqProofs only [↓XA, XB, XC, TF, UF, exists_eq_left', exists_eq_left, exists_eq_right, implies_true, forall_const, ↓reduceIte, reduceCtorEq, Nat.reduceLeDiff, Nat.reduceLT, Nat.reduceAdd, Nat.reduceMul, Nat.reduceEqDiff, Nat.reduceBEq, Nat.reduceSub, Int.reduceToNat, Int.reduceEq, Int.reduceNe, Int.reduceLT, Int.reduceLE, Int.reduceGT, Int.reduceGE, Int.reduceBEq, Int.reduceBNe, Int.reduceAdd, Int.reduceSub, Int.reduceMul, Int.reduceNeg, evM, nilV, extrV, binV, binI, binS, unV, convV, mkIfV, loadV, rdN, storeV, fieldAddrV, idxAddrV, idxV, fieldV, partV, lenV, capV, sliceV, bndV, stO, wrL, unfr, oneC, Value.cells, ptrV, eqD, tasV, buildV, bslL, buildL, setL, zrepL, eqL, leafEq]
  ((refine hK _ _ ?_); clear hK K)
  refine HW.join (α := Value) [4, 5] (fun v => [.slice none 0 0, v]) (fun v h' => ∃ xs ob F' S' n', Rings S n now xs S' n' ∧ Still2 now S' ∧ Clk h' c F' S' n' ∧ Step F F' h h' ∧ Own h' 3 1 v xs.length (ints xs) ob ∧ ∀ b, ob = some b → (h b = none ∨ F b) ∧ ¬ F' b) ?_ ?_
  · refine HW.block ?_
    refine HW.loopV (α := Value × Nat) [0, 1, 4, 5] (fun x => [ptr c, .int .i64 now, .slice none 0 0, x.1]) (fun x h' => ∃ xs ob F' S', Rings S n now xs S' x.2 ∧ Clk h' c F' S' x.2 ∧ Step F F' h h' ∧ Own h' 3 1 x.1 xs.length (ints xs) ob ∧ ∀ b, ob = some b → (h b = none ∨ F b) ∧ ¬ F' b) (fun x => x.2) (.slice none 0 0, n) ⟨[], none, F, S, .nil, hc, Step.refl _ _, ⟨rfl, rfl, rfl⟩, fun b e => by cases e⟩ ⟨rfl, rfl, rfl, rfl, trivial⟩ ?_
    rintro ⟨v, n1⟩ h1 ⟨xs, ob, F1, S1, hr, hc1, hst, hown, hob⟩
    simp only at hr hc1
    simp only [List.zip_cons_cons, List.zip_nil_left]
    have hle := hr.le
    obtain ⟨m, rv, qb, a, l, hd, hF⟩ := id hc1
    by_cases hn0 : n1 = 0
    · subst hn0
      obtain ⟨base, cap, rfl⟩ := Own.val hd.hg.own
      have hclk := hd.hg.clk
      (repeat refine HW.seqL ?_); refine HW.seqR rfl (fun K hK => ?_)
      simp -implicitDefEqProofs only [↓XA, XB, XC, TF, UF, exists_eq_left', exists_eq_left, exists_eq_right, implies_true, forall_const, ↓reduceIte, reduceCtorEq, Nat.reduceLeDiff, Nat.reduceLT, Nat.reduceAdd, Nat.reduceMul, Nat.reduceEqDiff, Nat.reduceBEq, Nat.reduceSub, Int.reduceToNat, Int.reduceEq, Int.reduceNe, Int.reduceLT, Int.reduceLE, Int.reduceGT, Int.reduceGE, Int.reduceBEq, Int.reduceBNe, Int.reduceAdd, Int.reduceSub, Int.reduceMul, Int.reduceNeg, evM, nilV, extrV, binV, binI, binS, unV, convV, mkIfV, loadV, rdN, storeV, fieldAddrV, idxAddrV, idxV, fieldV, partV, lenV, capV, sliceV, bndV, stO, wrL, unfr, oneC, Value.cells, ptrV, eqD, tasV, buildV, bslL, buildL, setL, zrepL, eqL, leafEq, ptr, hclk, Int.natCast_zero, gt_iff_lt, Int.lt_irrefl]
      ((refine hK _ _ ?_); clear hK K)
      (repeat refine HW.seqL ?_); first | refine HW.ite rfl (fun hb => ?_) (fun hb => ?_) | refine HW.iteS rfl (fun hb => ?_) (fun hb => ?_)
      · cases hb
      · refine HW.exit ?_
        (repeat (first | (with_reducible refine Seq.ret ?_) | (with_reducible refine Blk.ret ?_) | (with_reducible refine Blk.here ?_) | (with_reducible refine Seq.exit ?_) | (with_reducible refine Blk.out (by decide) ?_) | (with_reducible refine Blk.normal ?_) | (with_reducible refine Seq.normal ?_)))
        refine ⟨v, ⟨xs, ob, F1, S1, 0, hr, ?_, hc1, hst, hown, hob⟩, rfl, rfl, trivial⟩
        intro k t hk
        obtain ⟨i, hi, _⟩ := hd.from_ k t hk
        omega
    · obtain ⟨rb, cap, cs, rfl, rfl, hB, hcs, _⟩ := hd.row (by omega)
      have hclk := hd.hg.clk
      have he := hd.hg.ent 0 (by omega)
      have hfst := hd.first (by omega)
      have hnn : (0 : Int) < n1 := by omega
      simp only [entO, ptr, Go.Proofs.Ytiiglipmekeikaa.row] at he hcs hclk
      (repeat refine HW.seqL ?_); refine HW.seqR rfl (fun K hK => ?_)
      simp -implicitDefEqProofs only [↓XA, XB, XC, TF, UF, exists_eq_left', exists_eq_left, exists_eq_right, implies_true, forall_const, ↓reduceIte, reduceCtorEq, Nat.reduceLeDiff, Nat.reduceLT, Nat.reduceAdd, Nat.reduceMul, Nat.reduceEqDiff, Nat.reduceBEq, Nat.reduceSub, Int.reduceToNat, Int.reduceEq, Int.reduceNe, Int.reduceLT, Int.reduceLE, Int.reduceGT, Int.reduceGE, Int.reduceBEq, Int.reduceBNe, Int.reduceAdd, Int.reduceSub, Int.reduceMul, Int.reduceNeg, evM, nilV, extrV, binV, binI, binS, unV, convV, mkIfV, loadV, rdN, storeV, fieldAddrV, idxAddrV, idxV, fieldV, partV, lenV, capV, sliceV, bndV, stO, wrL, unfr, oneC, Value.cells, ptrV, eqD, tasV, buildV, bslL, buildL, setL, zrepL, eqL, leafEq, ptr, hclk, gt_iff_lt, hnn, hB, hcs, he]
      ((refine hK _ _ ?_); clear hK K)
      (repeat refine HW.seqL ?_); first | refine HW.ite rfl (fun hb => ?_) (fun hb => ?_) | refine HW.iteS rfl (fun hb => ?_) (fun hb => ?_)
      · have htn : (a 0).at_ ≤ now := by simpa using hb
        refine HW.skip ?_
        (repeat (first | (with_reducible refine Seq.ret ?_) | (with_reducible refine Blk.ret ?_) | (with_reducible refine Blk.here ?_) | (with_reducible refine Seq.exit ?_) | (with_reducible refine Blk.out (by decide) ?_) | (with_reducible refine Blk.normal ?_) | (with_reducible refine Seq.normal ?_)))
        refine HW.block ?_
        (repeat refine HW.seqL ?_); refine HW.seqR rfl (fun K hK => ?_)
        simp -implicitDefEqProofs only [↓XA, XB, XC, TF, UF, exists_eq_left', exists_eq_left, exists_eq_right, implies_true, forall_const, ↓reduceIte, reduceCtorEq, Nat.reduceLeDiff, Nat.reduceLT, Nat.reduceAdd, Nat.reduceMul, Nat.reduceEqDiff, Nat.reduceBEq, Nat.reduceSub, Int.reduceToNat, Int.reduceEq, Int.reduceNe, Int.reduceLT, Int.reduceLE, Int.reduceGT, Int.reduceGE, Int.reduceBEq, Int.reduceBNe, Int.reduceAdd, Int.reduceSub, Int.reduceMul, Int.reduceNeg, evM, nilV, extrV, binV, binI, binS, unV, convV, mkIfV, loadV, rdN, storeV, fieldAddrV, idxAddrV, idxV, fieldV, partV, lenV, capV, sliceV, bndV, stO, wrL, unfr, oneC, Value.cells, ptrV, eqD, tasV, buildV, bslL, buildL, setL, zrepL, eqL, leafEq, ptr, hclk, gt_iff_lt, hnn, hB, hcs, he]
        ((refine hK _ _ ?_); clear hK K)
        (repeat refine HW.seqL ?_); refine HW.seqR rfl (fun K hK => ?_)
        simp -implicitDefEqProofs only [↓XA, XB, XC, TF, UF, exists_eq_left', exists_eq_left, exists_eq_right, implies_true, forall_const, ↓reduceIte, reduceCtorEq, Nat.reduceLeDiff, Nat.reduceLT, Nat.reduceAdd, Nat.reduceMul, Nat.reduceEqDiff, Nat.reduceBEq, Nat.reduceSub, Int.reduceToNat, Int.reduceEq, Int.reduceNe, Int.reduceLT, Int.reduceLE, Int.reduceGT, Int.reduceGE, Int.reduceBEq, Int.reduceBNe, Int.reduceAdd, Int.reduceSub, Int.reduceMul, Int.reduceNeg, evM, nilV, extrV, binV, binI, binS, unV, convV, mkIfV, loadV, rdN, storeV, fieldAddrV, idxAddrV, idxV, fieldV, partV, lenV, capV, sliceV, bndV, stO, wrL, unfr, oneC, Value.cells, ptrV, eqD, tasV, buildV, bslL, buildL, setL, zrepL, eqL, leafEq]
        refine (cancel_ok hc1 (by omega) (a 0).id).mono ?_
        rintro v2 h2 ⟨rfl, F2, n2, hc2, hn2, hst2⟩
        (try simp -implicitDefEqProofs only [↓XA, XB, XC, TF, UF, exists_eq_left', exists_eq_left, exists_eq_right, implies_true, forall_const, ↓reduceIte, reduceCtorEq, Nat.reduceLeDiff, Nat.reduceLT, Nat.reduceAdd, Nat.reduceMul, Nat.reduceEqDiff, Nat.reduceBEq, Nat.reduceSub, Int.reduceToNat, Int.reduceEq, Int.reduceNe, Int.reduceLT, Int.reduceLE, Int.reduceGT, Int.reduceGE, Int.reduceBEq, Int.reduceBNe, Int.reduceAdd, Int.reduceSub, Int.reduceMul, Int.reduceNeg, evM, nilV, extrV, binV, binI, binS, unV, convV, mkIfV, loadV, rdN, storeV, fieldAddrV, idxAddrV, idxV, fieldV, partV, lenV, capV, sliceV, bndV, stO, wrL, unfr, oneC, Value.cells, ptrV, eqD, tasV, buildV, bslL, buildL, setL, zrepL, eqL, leafEq])
        ((refine hK _ _ ?_); clear hK K)
        have hown2 : Own h2 3 1 v xs.length (ints xs) ob := by
          refine hown.frame ?_
          intro b hb2
          obtain ⟨_, h4⟩ := hob b hb2
          cases hx : h1 b with
          | none =>
            subst hb2
            obtain ⟨_, _, _, h5, _⟩ := hown
            rw [hx] at h5; cases h5
          | some o => rw [hst2.1 b o hx h4]
        have hob2 : ∀ b, ob = some b → h2 b ≠ none := by
          rintro b rfl
          obtain ⟨_, _, _, h5, _⟩ := hown2
          rw [h5]; simp
        refine HW.rgnK rfl (fun K hK => ?_)
        simp -implicitDefEqProofs only [↓XA, XB, XC, TF, UF, exists_eq_left', exists_eq_left, exists_eq_right, implies_true, forall_const, ↓reduceIte, reduceCtorEq, Nat.reduceLeDiff, Nat.reduceLT, Nat.reduceAdd, Nat.reduceMul, Nat.reduceEqDiff, Nat.reduceBEq, Nat.reduceSub, Int.reduceToNat, Int.reduceEq, Int.reduceNe, Int.reduceLT, Int.reduceLE, Int.reduceGT, Int.reduceGE, Int.reduceBEq, Int.reduceBNe, Int.reduceAdd, Int.reduceSub, Int.reduceMul, Int.reduceNeg, evM, nilV, extrV, binV, binI, binS, unV, convV, mkIfV, loadV, rdN, storeV, fieldAddrV, idxAddrV, idxV, fieldV, partV, lenV, capV, sliceV, bndV, stO, wrL, unfr, oneC, Value.cells, ptrV, eqD, tasV, buildV, bslL, buildL, setL, zrepL, eqL, leafEq]
        intro tb htb
        (try simp -implicitDefEqProofs only [↓XA, XB, XC, TF, UF, exists_eq_left', exists_eq_left, exists_eq_right, implies_true, forall_const, ↓reduceIte, reduceCtorEq, Nat.reduceLeDiff, Nat.reduceLT, Nat.reduceAdd, Nat.reduceMul, Nat.reduceEqDiff, Nat.reduceBEq, Nat.reduceSub, Int.reduceToNat, Int.reduceEq, Int.reduceNe, Int.reduceLT, Int.reduceLE, Int.reduceGT, Int.reduceGE, Int.reduceBEq, Int.reduceBNe, Int.reduceAdd, Int.reduceSub, Int.reduceMul, Int.reduceNeg, evM, nilV, extrV, binV, binI, binS, unV, convV, mkIfV, loadV, rdN, storeV, fieldAddrV, idxAddrV, idxV, fieldV, partV, lenV, capV, sliceV, bndV, stO, wrL, unfr, oneC, Value.cells, ptrV, eqD, tasV, buildV, bslL, buildL, setL, zrepL, eqL, leafEq])
        have hn2' : n2 = n1 - 1 := by rw [hn2, if_neg (by rw [hfst.1]; simp)]
        have htF : ¬ F2 tb := fun f => hc2.alloc f htb
        have hob3 : ∀ b, ob = some b → ¬ F2 b := by
          intro b hb2 f
          rcases hst2.2 b f with f | f
          · exact (hob b hb2).2 f
          · subst hb2
            obtain ⟨_, _, _, h5, _⟩ := hown
            rw [f] at h5; cases h5
        have hownT : Own (upd h2 tb (Obj.cells (List.toArray [Value.int IntKind.i64 (a 0).id]) 3 (0, 0))) 3 1 v xs.length (ints xs) ob :=
          hown2.frame fun b hb2 => upd_ne _ _ _ (by rintro rfl; exact hob2 _ hb2 htb)
        refine AppK.own (e := 3) (sz := 1) (by_ := 8) (z := .int .i64 0) (n := xs.length) (m := 1) (ys := ints [(a 0).id]) rfl rfl Try.underlying22 Try.underlying22 rfl szK_3 byK_3 zeroK_3 rfl hownT ?_ rfl ?_ (by omega) (.inl (by omega)) ?_
        · simp [rdN, upd_same, rd_cells, ints]
        · omega
        · rintro v' h3 b o ho3 rfl hob'
          (try simp -implicitDefEqProofs only [↓XA, XB, XC, TF, UF, exists_eq_left', exists_eq_left, exists_eq_right, implies_true, forall_const, ↓reduceIte, reduceCtorEq, Nat.reduceLeDiff, Nat.reduceLT, Nat.reduceAdd, Nat.reduceMul, Nat.reduceEqDiff, Nat.reduceBEq, Nat.reduceSub, Int.reduceToNat, Int.reduceEq, Int.reduceNe, Int.reduceLT, Int.reduceLE, Int.reduceGT, Int.reduceGE, Int.reduceBEq, Int.reduceBNe, Int.reduceAdd, Int.reduceSub, Int.reduceMul, Int.reduceNeg, evM, nilV, extrV, binV, binI, binS, unV, convV, mkIfV, loadV, rdN, storeV, fieldAddrV, idxAddrV, idxV, fieldV, partV, lenV, capV, sliceV, bndV, stO, wrL, unfr, oneC, Value.cells, ptrV, eqD, tasV, buildV, bslL, buildL, setL, zrepL, eqL, leafEq])
          ((refine hK _ _ ?_); clear hK K)
          (repeat (first | (with_reducible refine Seq.ret ?_) | (with_reducible refine Blk.ret ?_) | (with_reducible refine Blk.here ?_) | (with_reducible refine Seq.exit ?_) | (with_reducible refine Blk.out (by decide) ?_) | (with_reducible refine Blk.normal ?_) | (with_reducible refine Seq.normal ?_)))
          have hbF : ¬ F2 b := by
            rcases hob' with hb2 | hb2
            · exact hob3 b hb2
            · rw [upd_apply] at hb2
              split at hb2
              · cases hb2
              · exact fun f => hc2.alloc f hb2
          have hbn : h2 b = none ∨ F b ∨ h b = none := by
            rcases hob' with hb2 | hb2
            · rcases (hob b hb2).1 with h6 | h6
              · exact .inr (.inr h6)
              · exact .inr (.inl h6)
            · rw [upd_apply] at hb2
              split at hb2
              · cases hb2
              · exact .inl hb2
          have hst3 : Step F F2 h h2 := hst.trans hst2
          refine ⟨(v', n1 - 1), by simp only; omega, ⟨xs ++ [(a 0).id], some b, F2, put S1 (a 0).id none, ?_, ?_, (hst3.upd (.inl htb) _).upd ?_ _, ?_, ?_⟩, rfl, rfl, rfl, rfl, trivial⟩
          · exact .snoc hr hfst htn (by omega)
          · rw [← hn2']
            exact (hc2.upd htF _).upd hbF _
          · rcases hbn with h6 | h6 | h6
            · by_cases e : b = tb
              · subst e
                right
                by_cases hf : F b
                · exact .inl hf
                · refine .inr ?_
                  cases hx : h b with
                  | none => rfl
                  | some o' => rw [hst3.1 b o' hx hf] at h6; cases h6
              · exact .inl (by rw [upd_ne _ _ _ e]; exact h6)
            · exact .inr (.inl h6)
            · exact .inr (.inr h6)
          · simpa [ints] using ho3
          · rintro b' e'
            cases e'
            refine ⟨?_, hbF⟩
            rcases hbn with h6 | h6 | h6
            · by_cases hf : F b
              · exact .inr hf
              · refine .inl ?_
                cases hx : h b with
                | none => rfl
                | some o' => rw [hst3.1 b o' hx hf] at h6; cases h6
            · exact .inr h6
            · exact .inl h6
      · refine HW.exit ?_
        (repeat (first | (with_reducible refine Seq.ret ?_) | (with_reducible refine Blk.ret ?_) | (with_reducible refine Blk.here ?_) | (with_reducible refine Seq.exit ?_) | (with_reducible refine Blk.out (by decide) ?_) | (with_reducible refine Blk.normal ?_) | (with_reducible refine Seq.normal ?_)))
        refine ⟨v, ⟨xs, ob, F1, S1, n1, hr, ?_, hc1, hst, hown, hob⟩, rfl, rfl, trivial⟩
        intro k t hk
        have h1 : ¬ (a 0).at_ ≤ now := by simpa using hb
        have := hfst.2 k t hk
        omega
  · rintro v h1 ⟨xs, ob, F', S', n', h2⟩
    (repeat refine HW.seqL ?_); refine HW.seqR rfl (fun K hK => ?_)
    simp -implicitDefEqProofs only [↓XA, XB, XC, TF, UF, exists_eq_left', exists_eq_left, exists_eq_right, implies_true, forall_const, ↓reduceIte, reduceCtorEq, Nat.reduceLeDiff, Nat.reduceLT, Nat.reduceAdd, Nat.reduceMul, Nat.reduceEqDiff, Nat.reduceBEq, Nat.reduceSub, Int.reduceToNat, Int.reduceEq, Int.reduceNe, Int.reduceLT, Int.reduceLE, Int.reduceGT, Int.reduceGE, Int.reduceBEq, Int.reduceBNe, Int.reduceAdd, Int.reduceSub, Int.reduceMul, Int.reduceNeg, evM, nilV, extrV, binV, binI, binS, unV, convV, mkIfV, loadV, rdN, storeV, fieldAddrV, idxAddrV, idxV, fieldV, partV, lenV, capV, sliceV, bndV, stO, wrL, unfr, oneC, Value.cells, ptrV, eqD, tasV, buildV, bslL, buildL, setL, zrepL, eqL, leafEq, List.zip_cons_cons, List.zip_nil_left]
    ((refine hK _ _ ?_); clear hK K)
    ((refine HW.ret ?_); (repeat (first | (with_reducible refine Seq.ret ?_) | (with_reducible refine Blk.ret ?_))); (refine RetK.one rfl ?_))
    exact ⟨xs, ob, F', S', n', h2⟩
end Go.Proofs.Ytiiglipmekeikaa
