/- The row's own Push and Pop, and container/heap's Fix, Push, Remove. -/
import Derived.Test.YtiiglipmekeikaaA2
set_option linter.unusedVariables false
set_option linter.unusedSimpArgs false
namespace Go.Proofs.Ytiiglipmekeikaa
open Go.Hx

/-- One entry more. -/
def ext (a : Nat → E) (n : Nat) (e : E) : Nat → E := fun k => if k = n then e else a k
theorem ext_n (a : Nat → E) (n : Nat) (e : E) : ext a n e n = e := by simp [ext]
theorem ext_o (a : Nat → E) (n : Nat) (e : E) {k : Nat} (h : k ≠ n) : ext a n e k = a k := by simp [ext, h]
def ptrs (a : Nat → E) (n : Nat) : List Value := (List.range n).map fun i => ptr (a i).b
/-- A clock's block and its row, which may be nil. -/
structure Hg (h : Hp) (c : Nat) (rv : Value) (ob : Option Nat) (a : Nat → E) (n : Nat) (mv : Value) : Prop where
  clk : h c = some (.cells [rv, mv].toArray 54 (0, 0))
  own : Own h 55 1 rv n (ptrs a n) ob
  ent : ∀ i, i < n → h (a i).b = some (entO (a i) i)
  inj : ∀ i j, i < n → j < n → (a i).b = (a j).b → i = j
theorem Hg.of {h : Hp} {c rb cap n : Nat} {a : Nat → E} {mv : Value} (hd : Hd h c rb cap a n mv) : Hg h c (row rb n cap) (some rb) a n mv := by
  obtain ⟨cs, h1, h2, h3⟩ := hd.row.blk
  have := hd.row.le
  refine ⟨hd.clk, ⟨cap, cs, rfl, h1, hd.row.le, by omega, by simp [ptrs], ?_⟩, hd.row.ent, hd.row.inj⟩
  refine take_eq_of (by simp; omega) (by simp [ptrs]) ?_
  intro i hi
  simp only [Nat.mul_one] at hi
  simp [ptrs, h3 i hi, hi]
theorem Hg.to {h : Hp} {c rb n : Nat} {rv : Value} {a : Nat → E} {mv : Value} (hg : Hg h c rv (some rb) a n mv) : ∃ cap, rv = row rb n cap ∧ Hd h c rb cap a n mv := by
  obtain ⟨cap, cs, rfl, h1, h2, h3, h4, h5⟩ := hg.own
  refine ⟨cap, rfl, hg.clk, h2, ⟨cs, h1, by omega, ?_⟩, hg.ent, hg.inj⟩
  intro i hi
  have : (cs.toList.take (n * 1))[i]? = (ptrs a n)[i]? := by rw [h5]
  rw [List.getElem?_take_of_lt (by omega), Array.getElem?_toList] at this
  rw [this]
  simp [ptrs, hi]
/-- The clock's blocks. -/
def CB (c : Nat) (ob : Option Nat) (a : Nat → E) (n : Nat) (b : Nat) : Prop := b = c ∨ ob = some b ∨ ∃ k, k < n ∧ b = (a k).b
theorem Hg.ne_ent {h : Hp} {c n : Nat} {rv : Value} {ob : Option Nat} {a : Nat → E} {mv : Value} (hg : Hg h c rv ob a n mv) {i : Nat} (hi : i < n) : c ≠ (a i).b := by
  intro e
  have h1 := hg.ent i hi
  rw [← e, hg.clk] at h1
  simp [entO] at h1
theorem Hg.ne_ob {h : Hp} {c n : Nat} {rv : Value} {ob : Option Nat} {a : Nat → E} {mv : Value} (hg : Hg h c rv ob a n mv) : ob ≠ some c := by
  rintro rfl
  obtain ⟨cap, cs, _, h1, _⟩ := hg.own
  rw [hg.clk] at h1
  simp at h1
theorem Hg.ob_ent {h : Hp} {c n : Nat} {rv : Value} {ob : Option Nat} {a : Nat → E} {mv : Value} (hg : Hg h c rv ob a n mv) {i : Nat} (hi : i < n) : ob ≠ some (a i).b := by
  rintro rfl
  obtain ⟨cap, cs, _, h1, _⟩ := hg.own
  rw [hg.ent i hi] at h1
  simp [entO] at h1
theorem Own.val {h : Hp} {e sz n : Nat} {v : Value} {xs : List Value} {ob : Option Nat} (ho : Own h e sz v n xs ob) : ∃ base cap, v = .slice base n cap := by
  cases ob with
  | none => obtain ⟨rfl, rfl, _⟩ := ho; exact ⟨none, 0, rfl⟩
  | some b => obtain ⟨cap, cs, rfl, _⟩ := ho; exact ⟨_, cap, rfl⟩

theorem rpush_ok {h : Hp} {c n : Nat} {rv : Value} {ob : Option Nat} {a : Nat → E} {mv : Value} {e : E} {k0 : Int} (hg : Hg h c rv ob a n mv) (hn : n < 2 ^ 40) (he : h e.b = some (entO e k0)) (hne : ∀ i, i < n → (a i).b ≠ e.b) :
    CallK Try.prog 43 [.pointer (some ⟨c, 0, none⟩), .iface 55 (ptr e.b)] h fun v h' => ∃ rb cap, Hd h' c rb cap (ext a n e) (n + 1) mv ∧ (ob = some rb ∨ h rb = none) ∧ Fr (fun b => CB c ob a n b ∨ b = e.b) h h' := by
  obtain ⟨base, cap0, rfl⟩ := Own.val hg.own
  have hclk := hg.clk
  have hce : c ≠ e.b := by
    intro e'
    rw [← e', hclk] at he
    simp [entO] at he
  simp only [entO] at he
  refine CallK.of Try.func43 (by kernel_rfl) rfl Try.ntmps43 (rs := _) Try.results43 (by simp) ?_; simp only [envOf, Nat.zero_add, Nat.reduceAdd]
  (repeat refine HW.seqL ?_); refine HW.seqR rfl (fun K hK => ?_)
  simp -implicitDefEqProofs only [↓XA, XB, XC, TF, UF, exists_eq_left', exists_eq_left, exists_eq_right, implies_true, forall_const, ↓reduceIte, reduceCtorEq, Nat.reduceLeDiff, Nat.reduceLT, Nat.reduceAdd, Nat.reduceMul, Nat.reduceEqDiff, Nat.reduceBEq, Nat.reduceSub, Int.reduceToNat, Int.reduceEq, Int.reduceNe, Int.reduceLT, Int.reduceLE, Int.reduceGT, Int.reduceGE, Int.reduceBEq, Int.reduceBNe, Int.reduceAdd, Int.reduceSub, Int.reduceMul, Int.reduceNeg, evM, nilV, extrV, binV, binI, binS, unV, convV, mkIfV, loadV, rdN, storeV, fieldAddrV, idxAddrV, idxV, fieldV, partV, lenV, capV, sliceV, bndV, stO, wrL, unfr, oneC, Value.cells, ptrV, eqD, tasV, buildV, bslL, buildL, setL, zrepL, eqL, leafEq, ptr]
  ((refine hK _ _ ?_); clear hK K)
  (repeat refine HW.seqL ?_); refine HW.seqR rfl (fun K hK => ?_)
  simp -implicitDefEqProofs only [↓XA, XB, XC, TF, UF, exists_eq_left', exists_eq_left, exists_eq_right, implies_true, forall_const, ↓reduceIte, reduceCtorEq, Nat.reduceLeDiff, Nat.reduceLT, Nat.reduceAdd, Nat.reduceMul, Nat.reduceEqDiff, Nat.reduceBEq, Nat.reduceSub, Int.reduceToNat, Int.reduceEq, Int.reduceNe, Int.reduceLT, Int.reduceLE, Int.reduceGT, Int.reduceGE, Int.reduceBEq, Int.reduceBNe, Int.reduceAdd, Int.reduceSub, Int.reduceMul, Int.reduceNeg, evM, nilV, extrV, binV, binI, binS, unV, convV, mkIfV, loadV, rdN, storeV, fieldAddrV, idxAddrV, idxV, fieldV, partV, lenV, capV, sliceV, bndV, stO, wrL, unfr, oneC, Value.cells, ptrV, eqD, tasV, buildV, bslL, buildL, setL, zrepL, eqL, leafEq]
  ((refine hK _ _ ?_); clear hK K)
  (repeat refine HW.seqL ?_); first | refine HW.ite rfl (fun hb => ?_) (fun hb => ?_) | refine HW.iteS rfl (fun hb => ?_) (fun hb => ?_)
  · (repeat refine HW.seqL ?_); refine HW.seqR rfl (fun K hK => ?_)
    simp -implicitDefEqProofs only [↓XA, XB, XC, TF, UF, exists_eq_left', exists_eq_left, exists_eq_right, implies_true, forall_const, ↓reduceIte, reduceCtorEq, Nat.reduceLeDiff, Nat.reduceLT, Nat.reduceAdd, Nat.reduceMul, Nat.reduceEqDiff, Nat.reduceBEq, Nat.reduceSub, Int.reduceToNat, Int.reduceEq, Int.reduceNe, Int.reduceLT, Int.reduceLE, Int.reduceGT, Int.reduceGE, Int.reduceBEq, Int.reduceBNe, Int.reduceAdd, Int.reduceSub, Int.reduceMul, Int.reduceNeg, evM, nilV, extrV, binV, binI, binS, unV, convV, mkIfV, loadV, rdN, storeV, fieldAddrV, idxAddrV, idxV, fieldV, partV, lenV, capV, sliceV, bndV, stO, wrL, unfr, oneC, Value.cells, ptrV, eqD, tasV, buildV, bslL, buildL, setL, zrepL, eqL, leafEq, hclk, he, hce, hce.symm]
    ((refine hK _ _ ?_); clear hK K)
    refine HW.rgnK rfl (fun K hK => ?_)
    simp -implicitDefEqProofs only [↓XA, XB, XC, TF, UF, exists_eq_left', exists_eq_left, exists_eq_right, implies_true, forall_const, ↓reduceIte, reduceCtorEq, Nat.reduceLeDiff, Nat.reduceLT, Nat.reduceAdd, Nat.reduceMul, Nat.reduceEqDiff, Nat.reduceBEq, Nat.reduceSub, Int.reduceToNat, Int.reduceEq, Int.reduceNe, Int.reduceLT, Int.reduceLE, Int.reduceGT, Int.reduceGE, Int.reduceBEq, Int.reduceBNe, Int.reduceAdd, Int.reduceSub, Int.reduceMul, Int.reduceNeg, evM, nilV, extrV, binV, binI, binS, unV, convV, mkIfV, loadV, rdN, storeV, fieldAddrV, idxAddrV, idxV, fieldV, partV, lenV, capV, sliceV, bndV, stO, wrL, unfr, oneC, Value.cells, ptrV, eqD, tasV, buildV, bslL, buildL, setL, zrepL, eqL, leafEq, hclk, he, hce, hce.symm]
    intro tb htb
    (try simp -implicitDefEqProofs only [↓XA, XB, XC, TF, UF, exists_eq_left', exists_eq_left, exists_eq_right, implies_true, forall_const, ↓reduceIte, reduceCtorEq, Nat.reduceLeDiff, Nat.reduceLT, Nat.reduceAdd, Nat.reduceMul, Nat.reduceEqDiff, Nat.reduceBEq, Nat.reduceSub, Int.reduceToNat, Int.reduceEq, Int.reduceNe, Int.reduceLT, Int.reduceLE, Int.reduceGT, Int.reduceGE, Int.reduceBEq, Int.reduceBNe, Int.reduceAdd, Int.reduceSub, Int.reduceMul, Int.reduceNeg, evM, nilV, extrV, binV, binI, binS, unV, convV, mkIfV, loadV, rdN, storeV, fieldAddrV, idxAddrV, idxV, fieldV, partV, lenV, capV, sliceV, bndV, stO, wrL, unfr, oneC, Value.cells, ptrV, eqD, tasV, buildV, bslL, buildL, setL, zrepL, eqL, leafEq])
    have hue : upd h e.b (entO e n) e.b = some (entO e n) := upd_same _ _ _
    have htbe : tb ≠ e.b := by
      intro e'
      subst e'
      simp [upd_apply] at htb
    have htbh : h tb = none := by simpa [upd_apply, htbe] using htb
    have htbc : tb ≠ c := by
      intro e'
      subst e'
      rw [hclk] at htbh; cases htbh
    have hown := Own.frame (h' := upd (upd h e.b (entO e n)) tb (Obj.cells (List.toArray [Value.pointer (some ⟨e.b, 0, none⟩)]) 55 (0, 0))) hg.own (by
      intro b hb'
      subst hb'
      obtain ⟨cap, cs, _, hbb, _⟩ := hg.own
      rw [upd_ne _ _ _ (by intro e'; subst e'; rw [hbb] at htbh; cases htbh), upd_ne _ _ _ (by intro e'; subst e'; rw [hbb] at he; simp at he)])
    refine AppK.own (e := 55) (sz := 1) (by_ := 8) (z := .pointer none) (n := n) (m := 1) (ys := [Value.pointer (some ⟨e.b, 0, none⟩)]) rfl rfl Try.underlying52 Try.underlying52 rfl szK_55 byK_55 zeroK_55 rfl hown ?_ rfl ?_ (by omega) (.inl (by omega)) ?_
    · simp [rdN, upd_same, rd_cells]
    · omega
    · rintro v' h3 b o ho3 rfl hob
      have hbc : b ≠ c := by
        intro e'
        subst e'
        rcases hob with hob | hob
        · exact hg.ne_ob hob
        · simp [upd_apply, htbc.symm, hce, hclk] at hob
      have hbe : b ≠ e.b := by
        intro e'
        subst e'
        rcases hob with hob | hob
        · subst hob
          obtain ⟨cap, cs, _, hbb, _⟩ := hg.own
          rw [hbb] at he; simp at he
        · simp [upd_apply, htbe.symm] at hob
      have hc3 : (upd (upd (upd h e.b (entO e n)) tb (Obj.cells (List.toArray [Value.pointer (some ⟨e.b, 0, none⟩)]) 55 (0, 0))) b o) c = some (.cells (List.toArray [.slice base n cap0, mv]) 54 (0, 0)) := by
        rw [upd_ne _ _ _ hbc.symm, upd_ne _ _ _ htbc.symm, upd_ne _ _ _ hce]; exact hclk
      obtain ⟨b2, c2, rfl⟩ := Own.val ho3
      (try simp -implicitDefEqProofs only [↓XA, XB, XC, TF, UF, exists_eq_left', exists_eq_left, exists_eq_right, implies_true, forall_const, ↓reduceIte, reduceCtorEq, Nat.reduceLeDiff, Nat.reduceLT, Nat.reduceAdd, Nat.reduceMul, Nat.reduceEqDiff, Nat.reduceBEq, Nat.reduceSub, Int.reduceToNat, Int.reduceEq, Int.reduceNe, Int.reduceLT, Int.reduceLE, Int.reduceGT, Int.reduceGE, Int.reduceBEq, Int.reduceBNe, Int.reduceAdd, Int.reduceSub, Int.reduceMul, Int.reduceNeg, evM, nilV, extrV, binV, binI, binS, unV, convV, mkIfV, loadV, rdN, storeV, fieldAddrV, idxAddrV, idxV, fieldV, partV, lenV, capV, sliceV, bndV, stO, wrL, unfr, oneC, Value.cells, ptrV, eqD, tasV, buildV, bslL, buildL, setL, zrepL, eqL, leafEq, hclk, hce, htbc.symm, hbc.symm])
      ((refine hK _ _ ?_); clear hK K)
      refine RetK.nilN ?_
      have hbk : ∀ i, i < n → (a i).b ≠ b := by
        intro i hi e'
        rcases hob with hob | hob
        · exact hg.ob_ent hi (by rw [hob, e'])
        · have h1 := hg.ent i hi
          rw [e'] at h1
          have h2 : upd (upd h e.b (entO e n)) tb (Obj.cells (List.toArray [Value.pointer (some ⟨e.b, 0, none⟩)]) 55 (0, 0)) b ≠ none := by
            rw [upd_apply]; split
            · simp
            · rw [upd_ne _ _ _ hbe, h1]; simp
          exact h2 hob
      have hg4 : Hg (upd (upd (upd (upd h e.b (entO e n)) tb (Obj.cells (List.toArray [Value.pointer (some ⟨e.b, 0, none⟩)]) 55 (0, 0))) b o) c (Obj.cells (List.toArray [.slice b2 (n + 1) c2, mv]) 54 (0, 0))) c (.slice b2 (n + 1) c2) (some b) (ext a n e) (n + 1) mv := by
        refine ⟨upd_same _ _ _, ?_, ?_, ?_⟩
        · have : ptrs (ext a n e) (n + 1) = ptrs a n ++ [Value.pointer (some ⟨e.b, 0, none⟩)] := by
            unfold ptrs
            rw [List.range_succ, List.map_append]
            congr 1
            · apply List.map_congr_left
              intro i hi
              rw [ext_o a n e (by have := List.mem_range.1 hi; omega)]
            · simp [ext_n, ptr]
          rw [this]
          exact ho3.frame (fun b' hb' => upd_ne _ _ _ (by simp at hb'; omega))
        · intro i hi
          by_cases hin : i = n
          · subst hin
            rw [ext_n, upd_ne _ _ _ hce.symm, upd_ne _ _ _ hbe.symm, upd_ne _ _ _ htbe.symm, upd_same]
          · have hi' : i < n := by omega
            have h1 := hg.ent i hi'
            rw [ext_o a n e hin, upd_ne _ _ _ (hg.ne_ent hi').symm, upd_ne _ _ _ (hbk i hi'), upd_ne _ _ _ (by intro e'; rw [e'] at h1; rw [h1] at htbh; cases htbh), upd_ne _ _ _ (hne i hi')]
            exact h1
        · intro i j hi hj e'
          by_cases hin : i = n <;> by_cases hjn : j = n
          · omega
          · subst hin
            rw [ext_n, ext_o a i e hjn] at e'
            exact absurd e'.symm (hne j (by omega))
          · subst hjn
            rw [ext_n, ext_o a j e hin] at e'
            exact absurd e' (hne i (by omega))
          · rw [ext_o a n e hin, ext_o a n e hjn] at e'
            exact hg.inj i j (by omega) (by omega) e'
      obtain ⟨cap, hrow, hd⟩ := hg4.to
      refine ⟨b, cap, hd, ?_, ?_⟩
      · rcases hob with hob | hob
        · exact .inl hob
        · refine .inr ?_
          rw [upd_apply] at hob
          split at hob
          · cases hob
          · rwa [upd_ne _ _ _ hbe] at hob
      · refine ((((Fr.refl _ h).upd (.inl (.inr rfl))).upd (.inr htbh)).upd ?_).upd (.inl (.inl (.inl rfl)))
        rcases hob with hob | hob
        · exact .inl (.inl (.inr (.inl hob)))
        · refine .inr ?_
          rw [upd_apply] at hob
          split at hob
          · cases hob
          · rwa [upd_ne _ _ _ hbe] at hob
  · cases hb

theorem rpop_ok {h : Hp} {c rb cap n : Nat} {a : Nat → E} {mv : Value} (hd : Hd h c rb cap a (n + 1) mv) (hn : n < 2 ^ 60) :
    CallK Try.prog 42 [.pointer (some ⟨c, 0, none⟩)] h fun v h' => Hd h' c rb cap a n mv ∧ Fr (fun b => b = c ∨ b = rb) h h' ∧ Still h h' := by
  obtain ⟨cs, hB, hc, hcell⟩ := hd.row.blk
  have hle := hd.row.le
  have hclk := hd.clk
  simp only [row] at hclk
  have hcn := hcell n (by omega)
  simp only [ptr] at hcn
  have hcr := hd.ne_rb
  have w1 : IntKind.i64.wrap (((n + 1 : Nat) : Int) - 1) = (n : Int) := by rw [wrap_i64 (by omega) (by omega)]; omega
  have i1 : (n : Int) < ((n + 1 : Nat) : Int) := by omega
  have i2 : (n : Int) ≤ (cap : Int) := by omega
  have i3 : ¬ cap = 0 := by omega
  have i4 : n + 1 ≤ cs.size := by omega
  refine CallK.of Try.func42 (by kernel_rfl) rfl Try.ntmps42 (rs := _) Try.results42 (by simp) ?_; simp only [envOf, Nat.zero_add, Nat.reduceAdd]
  (repeat refine HW.seqL ?_); refine HW.seqR rfl (fun K hK => ?_)
  simp -implicitDefEqProofs only [↓XA, XB, XC, TF, UF, exists_eq_left', exists_eq_left, exists_eq_right, implies_true, forall_const, ↓reduceIte, reduceCtorEq, Nat.reduceLeDiff, Nat.reduceLT, Nat.reduceAdd, Nat.reduceMul, Nat.reduceEqDiff, Nat.reduceBEq, Nat.reduceSub, Int.reduceToNat, Int.reduceEq, Int.reduceNe, Int.reduceLT, Int.reduceLE, Int.reduceGT, Int.reduceGE, Int.reduceBEq, Int.reduceBNe, Int.reduceAdd, Int.reduceSub, Int.reduceMul, Int.reduceNeg, evM, nilV, extrV, binV, binI, binS, unV, convV, mkIfV, loadV, rdN, storeV, fieldAddrV, idxAddrV, idxV, fieldV, partV, lenV, capV, sliceV, bndV, stO, wrL, unfr, oneC, Value.cells, ptrV, eqD, tasV, buildV, bslL, buildL, setL, zrepL, eqL, leafEq]
  ((refine hK _ _ ?_); clear hK K)
  (repeat refine HW.seqL ?_); refine HW.seqR rfl (fun K hK => ?_)
  simp -implicitDefEqProofs only [↓XA, XB, XC, TF, UF, exists_eq_left', exists_eq_left, exists_eq_right, implies_true, forall_const, ↓reduceIte, reduceCtorEq, Nat.reduceLeDiff, Nat.reduceLT, Nat.reduceAdd, Nat.reduceMul, Nat.reduceEqDiff, Nat.reduceBEq, Nat.reduceSub, Int.reduceToNat, Int.reduceEq, Int.reduceNe, Int.reduceLT, Int.reduceLE, Int.reduceGT, Int.reduceGE, Int.reduceBEq, Int.reduceBNe, Int.reduceAdd, Int.reduceSub, Int.reduceMul, Int.reduceNeg, evM, nilV, extrV, binV, binI, binS, unV, convV, mkIfV, loadV, rdN, storeV, fieldAddrV, idxAddrV, idxV, fieldV, partV, lenV, capV, sliceV, bndV, stO, wrL, unfr, oneC, Value.cells, ptrV, eqD, tasV, buildV, bslL, buildL, setL, zrepL, eqL, leafEq, hclk]
  ((refine hK _ _ ?_); clear hK K)
  (repeat refine HW.seqL ?_); refine HW.seqR rfl (fun K hK => ?_)
  simp -implicitDefEqProofs only [↓XA, XB, XC, TF, UF, exists_eq_left', exists_eq_left, exists_eq_right, implies_true, forall_const, ↓reduceIte, reduceCtorEq, Nat.reduceLeDiff, Nat.reduceLT, Nat.reduceAdd, Nat.reduceMul, Nat.reduceEqDiff, Nat.reduceBEq, Nat.reduceSub, Int.reduceToNat, Int.reduceEq, Int.reduceNe, Int.reduceLT, Int.reduceLE, Int.reduceGT, Int.reduceGE, Int.reduceBEq, Int.reduceBNe, Int.reduceAdd, Int.reduceSub, Int.reduceMul, Int.reduceNeg, evM, nilV, extrV, binV, binI, binS, unV, convV, mkIfV, loadV, rdN, storeV, fieldAddrV, idxAddrV, idxV, fieldV, partV, lenV, capV, sliceV, bndV, stO, wrL, unfr, oneC, Value.cells, ptrV, eqD, tasV, buildV, bslL, buildL, setL, zrepL, eqL, leafEq, hB, hcn, w1, i1]
  ((refine hK _ _ ?_); clear hK K)
  (repeat refine HW.seqL ?_); refine HW.seqR rfl (fun K hK => ?_)
  simp -implicitDefEqProofs only [↓XA, XB, XC, TF, UF, exists_eq_left', exists_eq_left, exists_eq_right, implies_true, forall_const, ↓reduceIte, reduceCtorEq, Nat.reduceLeDiff, Nat.reduceLT, Nat.reduceAdd, Nat.reduceMul, Nat.reduceEqDiff, Nat.reduceBEq, Nat.reduceSub, Int.reduceToNat, Int.reduceEq, Int.reduceNe, Int.reduceLT, Int.reduceLE, Int.reduceGT, Int.reduceGE, Int.reduceBEq, Int.reduceBNe, Int.reduceAdd, Int.reduceSub, Int.reduceMul, Int.reduceNeg, evM, nilV, extrV, binV, binI, binS, unV, convV, mkIfV, loadV, rdN, storeV, fieldAddrV, idxAddrV, idxV, fieldV, partV, lenV, capV, sliceV, bndV, stO, wrL, unfr, oneC, Value.cells, ptrV, eqD, tasV, buildV, bslL, buildL, setL, zrepL, eqL, leafEq, hB, hcn, w1, i1, i4]
  ((refine hK _ _ ?_); clear hK K)
  (repeat refine HW.seqL ?_); refine HW.seqR rfl (fun K hK => ?_)
  simp -implicitDefEqProofs only [↓XA, XB, XC, TF, UF, exists_eq_left', exists_eq_left, exists_eq_right, implies_true, forall_const, ↓reduceIte, reduceCtorEq, Nat.reduceLeDiff, Nat.reduceLT, Nat.reduceAdd, Nat.reduceMul, Nat.reduceEqDiff, Nat.reduceBEq, Nat.reduceSub, Int.reduceToNat, Int.reduceEq, Int.reduceNe, Int.reduceLT, Int.reduceLE, Int.reduceGT, Int.reduceGE, Int.reduceBEq, Int.reduceBNe, Int.reduceAdd, Int.reduceSub, Int.reduceMul, Int.reduceNeg, evM, nilV, extrV, binV, binI, binS, unV, convV, mkIfV, loadV, rdN, storeV, fieldAddrV, idxAddrV, idxV, fieldV, partV, lenV, capV, sliceV, bndV, stO, wrL, unfr, oneC, Value.cells, ptrV, eqD, tasV, buildV, bslL, buildL, setL, zrepL, eqL, leafEq, hclk, hcr, hcr.symm, w1, i1, i2, i3, add_addr, Nat.zero_mul]
  ((refine hK _ _ ?_); clear hK K)
  (repeat refine HW.seqL ?_); refine HW.seqR rfl (fun K hK => ?_)
  simp -implicitDefEqProofs only [↓XA, XB, XC, TF, UF, exists_eq_left', exists_eq_left, exists_eq_right, implies_true, forall_const, ↓reduceIte, reduceCtorEq, Nat.reduceLeDiff, Nat.reduceLT, Nat.reduceAdd, Nat.reduceMul, Nat.reduceEqDiff, Nat.reduceBEq, Nat.reduceSub, Int.reduceToNat, Int.reduceEq, Int.reduceNe, Int.reduceLT, Int.reduceLE, Int.reduceGT, Int.reduceGE, Int.reduceBEq, Int.reduceBNe, Int.reduceAdd, Int.reduceSub, Int.reduceMul, Int.reduceNeg, evM, nilV, extrV, binV, binI, binS, unV, convV, mkIfV, loadV, rdN, storeV, fieldAddrV, idxAddrV, idxV, fieldV, partV, lenV, capV, sliceV, bndV, stO, wrL, unfr, oneC, Value.cells, ptrV, eqD, tasV, buildV, bslL, buildL, setL, zrepL, eqL, leafEq]
  ((refine hK _ _ ?_); clear hK K)
  ((refine HW.ret ?_); (repeat (first | (with_reducible refine Seq.ret ?_) | (with_reducible refine Blk.ret ?_))); (refine RetK.one rfl ?_))
  have hne : ∀ i, i < n → (a i).b ≠ c ∧ (a i).b ≠ rb := fun i hi => ⟨(hd.ne_ent (by omega)).symm, hd.row.ne (by omega)⟩
  refine ⟨⟨upd_same _ _ _, by omega, ⟨cs.setIfInBounds n (.pointer none), ?_, by simpa using hc, ?_⟩, ?_, ?_⟩, ?_, ?_⟩
  · rw [upd_ne _ _ _ hcr.symm, upd_same]
  · intro i hi
    rw [Array.getElem?_setIfInBounds, if_neg (by omega)]
    exact hcell i (by omega)
  · intro i hi
    rw [upd_ne _ _ _ (hne i hi).1, upd_ne _ _ _ (hne i hi).2]
    exact hd.row.ent i (by omega)
  · exact fun i j hi hj e => hd.row.inj i j (by omega) (by omega) e
  · exact ((Fr.refl _ h).upd (.inl (.inr rfl))).upd (.inl (.inl rfl))
  · intro b hb
    rw [upd_ne _ _ _ (by intro e; subst e; rw [hclk] at hb; cases hb), upd_ne _ _ _ (by intro e; subst e; rw [hB] at hb; cases hb)]
    exact hb

theorem fix_ok {h : Hp} {c rb cap n : Nat} {a : Nat → E} {mv : Value} (hd : Hd h c rb cap a n mv) (hn : n < 2 ^ 60) (i : Nat) (hi : i < n) (hu : DnInv a n i i) :
    CallK Try.prog 18 [itf c, .int .i64 i] h fun v h' => ∃ a', Did h h' c rb cap a a' n n mv ∧ HeapOrd a' n := by
  refine CallK.of Try.func18 (by kernel_rfl) rfl Try.ntmps18 (rs := _) Try.results18 (by simp) ?_; simp only [envOf, Nat.zero_add, Nat.reduceAdd]
  (repeat refine HW.seqL ?_); refine HW.seqR rfl (fun K hK => ?_)
  simp -implicitDefEqProofs only [↓XA, XB, XC, TF, UF, exists_eq_left', exists_eq_left, exists_eq_right, implies_true, forall_const, ↓reduceIte, reduceCtorEq, Nat.reduceLeDiff, Nat.reduceLT, Nat.reduceAdd, Nat.reduceMul, Nat.reduceEqDiff, Nat.reduceBEq, Nat.reduceSub, Int.reduceToNat, Int.reduceEq, Int.reduceNe, Int.reduceLT, Int.reduceLE, Int.reduceGT, Int.reduceGE, Int.reduceBEq, Int.reduceBNe, Int.reduceAdd, Int.reduceSub, Int.reduceMul, Int.reduceNeg, evM, nilV, extrV, binV, binI, binS, unV, convV, mkIfV, loadV, rdN, storeV, fieldAddrV, idxAddrV, idxV, fieldV, partV, lenV, capV, sliceV, bndV, stO, wrL, unfr, oneC, Value.cells, ptrV, eqD, tasV, buildV, bslL, buildL, setL, zrepL, eqL, leafEq]
  refine hd.len ?_
  (try simp -implicitDefEqProofs only [↓XA, XB, XC, TF, UF, exists_eq_left', exists_eq_left, exists_eq_right, implies_true, forall_const, ↓reduceIte, reduceCtorEq, Nat.reduceLeDiff, Nat.reduceLT, Nat.reduceAdd, Nat.reduceMul, Nat.reduceEqDiff, Nat.reduceBEq, Nat.reduceSub, Int.reduceToNat, Int.reduceEq, Int.reduceNe, Int.reduceLT, Int.reduceLE, Int.reduceGT, Int.reduceGE, Int.reduceBEq, Int.reduceBNe, Int.reduceAdd, Int.reduceSub, Int.reduceMul, Int.reduceNeg, evM, nilV, extrV, binV, binI, binS, unV, convV, mkIfV, loadV, rdN, storeV, fieldAddrV, idxAddrV, idxV, fieldV, partV, lenV, capV, sliceV, bndV, stO, wrL, unfr, oneC, Value.cells, ptrV, eqD, tasV, buildV, bslL, buildL, setL, zrepL, eqL, leafEq])
  refine (down_ok hd hn (Nat.le_refl n) i hi hu).mono ?_
  rintro v h1 ⟨a1, b, rfl, hd1, hA, hB⟩
  (try simp -implicitDefEqProofs only [↓XA, XB, XC, TF, UF, exists_eq_left', exists_eq_left, exists_eq_right, implies_true, forall_const, ↓reduceIte, reduceCtorEq, Nat.reduceLeDiff, Nat.reduceLT, Nat.reduceAdd, Nat.reduceMul, Nat.reduceEqDiff, Nat.reduceBEq, Nat.reduceSub, Int.reduceToNat, Int.reduceEq, Int.reduceNe, Int.reduceLT, Int.reduceLE, Int.reduceGT, Int.reduceGE, Int.reduceBEq, Int.reduceBNe, Int.reduceAdd, Int.reduceSub, Int.reduceMul, Int.reduceNeg, evM, nilV, extrV, binV, binI, binS, unV, convV, mkIfV, loadV, rdN, storeV, fieldAddrV, idxAddrV, idxV, fieldV, partV, lenV, capV, sliceV, bndV, stO, wrL, unfr, oneC, Value.cells, ptrV, eqD, tasV, buildV, bslL, buildL, setL, zrepL, eqL, leafEq])
  ((refine hK _ _ ?_); clear hK K)
  (repeat refine HW.seqL ?_); first | refine HW.ite rfl (fun hb => ?_) (fun hb => ?_) | refine HW.iteS rfl (fun hb => ?_) (fun hb => ?_)
  · refine HW.rgnK rfl (fun K hK => ?_)
    simp -implicitDefEqProofs only [↓XA, XB, XC, TF, UF, exists_eq_left', exists_eq_left, exists_eq_right, implies_true, forall_const, ↓reduceIte, reduceCtorEq, Nat.reduceLeDiff, Nat.reduceLT, Nat.reduceAdd, Nat.reduceMul, Nat.reduceEqDiff, Nat.reduceBEq, Nat.reduceSub, Int.reduceToNat, Int.reduceEq, Int.reduceNe, Int.reduceLT, Int.reduceLE, Int.reduceGT, Int.reduceGE, Int.reduceBEq, Int.reduceBNe, Int.reduceAdd, Int.reduceSub, Int.reduceMul, Int.reduceNeg, evM, nilV, extrV, binV, binI, binS, unV, convV, mkIfV, loadV, rdN, storeV, fieldAddrV, idxAddrV, idxV, fieldV, partV, lenV, capV, sliceV, bndV, stO, wrL, unfr, oneC, Value.cells, ptrV, eqD, tasV, buildV, bslL, buildL, setL, zrepL, eqL, leafEq]
    refine (up_ok hd1.hd hn (Nat.le_refl n) i hi (hB (by simpa using hb))).mono ?_
    rintro v h2 ⟨a2, hd2, hO⟩
    (try simp -implicitDefEqProofs only [↓XA, XB, XC, TF, UF, exists_eq_left', exists_eq_left, exists_eq_right, implies_true, forall_const, ↓reduceIte, reduceCtorEq, Nat.reduceLeDiff, Nat.reduceLT, Nat.reduceAdd, Nat.reduceMul, Nat.reduceEqDiff, Nat.reduceBEq, Nat.reduceSub, Int.reduceToNat, Int.reduceEq, Int.reduceNe, Int.reduceLT, Int.reduceLE, Int.reduceGT, Int.reduceGE, Int.reduceBEq, Int.reduceBNe, Int.reduceAdd, Int.reduceSub, Int.reduceMul, Int.reduceNeg, evM, nilV, extrV, binV, binI, binS, unV, convV, mkIfV, loadV, rdN, storeV, fieldAddrV, idxAddrV, idxV, fieldV, partV, lenV, capV, sliceV, bndV, stO, wrL, unfr, oneC, Value.cells, ptrV, eqD, tasV, buildV, bslL, buildL, setL, zrepL, eqL, leafEq])
    ((refine hK _ _ ?_); clear hK K)
    exact RetK.nilN ⟨a2, hd1.trans hd2, hO⟩
  · refine HW.skip ?_
    exact RetK.nilN ⟨a1, hd1, hA (by simpa using hb)⟩
theorem mPush : methK Try.prog 59 "Push" = some (43, none) := by kernel_rfl
theorem mPop : methK Try.prog 59 "Pop" = some (42, none) := by kernel_rfl
theorem hpush_ok {h : Hp} {c n : Nat} {rv : Value} {ob : Option Nat} {a : Nat → E} {mv : Value} {e : E} {k0 : Int} (hg : Hg h c rv ob a n mv) (hn : n < 2 ^ 40) (he : h e.b = some (entO e k0)) (hne : ∀ i, i < n → (a i).b ≠ e.b) (hO : HeapOrd a n) :
    CallK Try.prog 19 [itf c, .iface 55 (ptr e.b)] h fun v h' => ∃ rb cap a', Hd h' c rb cap a' (n + 1) mv ∧ HeapOrd a' (n + 1) ∧ SameSet (ext a n e) a' (n + 1) ∧ (ob = some rb ∨ h rb = none) ∧ Fr (fun b => CB c ob a n b ∨ b = e.b) h h' := by
  refine CallK.of Try.func19 (by kernel_rfl) rfl Try.ntmps19 (rs := _) Try.results19 (by simp) ?_; simp only [envOf, Nat.zero_add, Nat.reduceAdd]
  (repeat refine HW.seqL ?_); refine HW.seqR rfl (fun K hK => ?_)
  simp -implicitDefEqProofs only [↓XA, XB, XC, TF, UF, exists_eq_left', exists_eq_left, exists_eq_right, implies_true, forall_const, ↓reduceIte, reduceCtorEq, Nat.reduceLeDiff, Nat.reduceLT, Nat.reduceAdd, Nat.reduceMul, Nat.reduceEqDiff, Nat.reduceBEq, Nat.reduceSub, Int.reduceToNat, Int.reduceEq, Int.reduceNe, Int.reduceLT, Int.reduceLE, Int.reduceGT, Int.reduceGE, Int.reduceBEq, Int.reduceBNe, Int.reduceAdd, Int.reduceSub, Int.reduceMul, Int.reduceNeg, evM, nilV, extrV, binV, binI, binS, unV, convV, mkIfV, loadV, rdN, storeV, fieldAddrV, idxAddrV, idxV, fieldV, partV, lenV, capV, sliceV, bndV, stO, wrL, unfr, oneC, Value.cells, ptrV, eqD, tasV, buildV, bslL, buildL, setL, zrepL, eqL, leafEq]
  refine InvK.val mPush ?_
  refine (rpush_ok hg hn he hne).mono ?_
  rintro v h1 ⟨rb, cap, hd1, hrb, hf1⟩
  (try simp -implicitDefEqProofs only [↓XA, XB, XC, TF, UF, exists_eq_left', exists_eq_left, exists_eq_right, implies_true, forall_const, ↓reduceIte, reduceCtorEq, Nat.reduceLeDiff, Nat.reduceLT, Nat.reduceAdd, Nat.reduceMul, Nat.reduceEqDiff, Nat.reduceBEq, Nat.reduceSub, Int.reduceToNat, Int.reduceEq, Int.reduceNe, Int.reduceLT, Int.reduceLE, Int.reduceGT, Int.reduceGE, Int.reduceBEq, Int.reduceBNe, Int.reduceAdd, Int.reduceSub, Int.reduceMul, Int.reduceNeg, evM, nilV, extrV, binV, binI, binS, unV, convV, mkIfV, loadV, rdN, storeV, fieldAddrV, idxAddrV, idxV, fieldV, partV, lenV, capV, sliceV, bndV, stO, wrL, unfr, oneC, Value.cells, ptrV, eqD, tasV, buildV, bslL, buildL, setL, zrepL, eqL, leafEq])
  ((refine hK _ _ ?_); clear hK K)
  have w1 : IntKind.i64.wrap (((n + 1 : Nat) : Int) - 1) = (n : Int) := by rw [wrap_i64 (by omega) (by omega)]; omega
  refine HW.rgnK rfl (fun K hK => ?_)
  simp -implicitDefEqProofs only [↓XA, XB, XC, TF, UF, exists_eq_left', exists_eq_left, exists_eq_right, implies_true, forall_const, ↓reduceIte, reduceCtorEq, Nat.reduceLeDiff, Nat.reduceLT, Nat.reduceAdd, Nat.reduceMul, Nat.reduceEqDiff, Nat.reduceBEq, Nat.reduceSub, Int.reduceToNat, Int.reduceEq, Int.reduceNe, Int.reduceLT, Int.reduceLE, Int.reduceGT, Int.reduceGE, Int.reduceBEq, Int.reduceBNe, Int.reduceAdd, Int.reduceSub, Int.reduceMul, Int.reduceNeg, evM, nilV, extrV, binV, binI, binS, unV, convV, mkIfV, loadV, rdN, storeV, fieldAddrV, idxAddrV, idxV, fieldV, partV, lenV, capV, sliceV, bndV, stO, wrL, unfr, oneC, Value.cells, ptrV, eqD, tasV, buildV, bslL, buildL, setL, zrepL, eqL, leafEq]
  refine hd1.len ?_
  (try simp -implicitDefEqProofs only [↓XA, XB, XC, TF, UF, exists_eq_left', exists_eq_left, exists_eq_right, implies_true, forall_const, ↓reduceIte, reduceCtorEq, Nat.reduceLeDiff, Nat.reduceLT, Nat.reduceAdd, Nat.reduceMul, Nat.reduceEqDiff, Nat.reduceBEq, Nat.reduceSub, Int.reduceToNat, Int.reduceEq, Int.reduceNe, Int.reduceLT, Int.reduceLE, Int.reduceGT, Int.reduceGE, Int.reduceBEq, Int.reduceBNe, Int.reduceAdd, Int.reduceSub, Int.reduceMul, Int.reduceNeg, evM, nilV, extrV, binV, binI, binS, unV, convV, mkIfV, loadV, rdN, storeV, fieldAddrV, idxAddrV, idxV, fieldV, partV, lenV, capV, sliceV, bndV, stO, wrL, unfr, oneC, Value.cells, ptrV, eqD, tasV, buildV, bslL, buildL, setL, zrepL, eqL, leafEq, w1])
  have hU : UpInv (ext a n e) (n + 1) n := by
    constructor
    · intro k k0 kn kj
      rw [ext_o a n e kj, ext_o a n e (by omega)]
      exact hO k k0 (by omega)
    · intro k k0 kn kp _
      omega
  refine (up_ok hd1 (by omega) (Nat.le_refl _) n (by omega) hU).mono ?_
  rintro v h2 ⟨a2, hd2, hO2⟩
  (try simp -implicitDefEqProofs only [↓XA, XB, XC, TF, UF, exists_eq_left', exists_eq_left, exists_eq_right, implies_true, forall_const, ↓reduceIte, reduceCtorEq, Nat.reduceLeDiff, Nat.reduceLT, Nat.reduceAdd, Nat.reduceMul, Nat.reduceEqDiff, Nat.reduceBEq, Nat.reduceSub, Int.reduceToNat, Int.reduceEq, Int.reduceNe, Int.reduceLT, Int.reduceLE, Int.reduceGT, Int.reduceGE, Int.reduceBEq, Int.reduceBNe, Int.reduceAdd, Int.reduceSub, Int.reduceMul, Int.reduceNeg, evM, nilV, extrV, binV, binI, binS, unV, convV, mkIfV, loadV, rdN, storeV, fieldAddrV, idxAddrV, idxV, fieldV, partV, lenV, capV, sliceV, bndV, stO, wrL, unfr, oneC, Value.cells, ptrV, eqD, tasV, buildV, bslL, buildL, setL, zrepL, eqL, leafEq])
  ((refine hK _ _ ?_); clear hK K)
  refine RetK.nilN ⟨rb, cap, a2, hd2.hd, hO2, hd2.mv.1, hrb, ?_⟩
  intro b o hb hnb
  refine hd2.fr b o (hf1 b o hb hnb) ?_
  rintro (hrb' | ⟨k, hk, hk'⟩)
  · rcases hrb with hrb | hrb
    · exact hnb (.inl (.inr (.inl (by rw [hrb, hrb']))))
    · rw [hrb', hrb] at hb; cases hb
  · by_cases hkn : k = n
    · subst hkn; rw [ext_n] at hk'; exact hnb (.inr hk')
    · rw [ext_o a n e hkn] at hk'; exact hnb (.inl (.inr (.inr ⟨k, by omega, hk'⟩)))
theorem remove_ok {h : Hp} {c rb cap n : Nat} {a : Nat → E} {mv : Value} (hd : Hd h c rb cap a (n + 1) mv) (hn : n < 2 ^ 40) (hO : HeapOrd a (n + 1)) (i : Nat) (hi : i < n + 1) :
    CallK Try.prog 20 [itf c, .int .i64 i] h fun v h' => ∃ a', Hd h' c rb cap a' n mv ∧ HeapOrd a' n ∧ (∀ e, (∃ k, k < n ∧ a' k = e) ↔ ∃ k, k < n + 1 ∧ k ≠ i ∧ a k = e) ∧ Fr (CB c (some rb) a (n + 1)) h h' := by
  have w1 : IntKind.i64.wrap (((n + 1 : Nat) : Int) - 1) = (n : Int) := by rw [wrap_i64 (by omega) (by omega)]; omega
  refine CallK.of Try.func20 (by kernel_rfl) rfl Try.ntmps20 (rs := _) Try.results20 (by simp) ?_; simp only [envOf, Nat.zero_add, Nat.reduceAdd]
  (repeat refine HW.seqL ?_); refine HW.seqR rfl (fun K hK => ?_)
  simp -implicitDefEqProofs only [↓XA, XB, XC, TF, UF, exists_eq_left', exists_eq_left, exists_eq_right, implies_true, forall_const, ↓reduceIte, reduceCtorEq, Nat.reduceLeDiff, Nat.reduceLT, Nat.reduceAdd, Nat.reduceMul, Nat.reduceEqDiff, Nat.reduceBEq, Nat.reduceSub, Int.reduceToNat, Int.reduceEq, Int.reduceNe, Int.reduceLT, Int.reduceLE, Int.reduceGT, Int.reduceGE, Int.reduceBEq, Int.reduceBNe, Int.reduceAdd, Int.reduceSub, Int.reduceMul, Int.reduceNeg, evM, nilV, extrV, binV, binI, binS, unV, convV, mkIfV, loadV, rdN, storeV, fieldAddrV, idxAddrV, idxV, fieldV, partV, lenV, capV, sliceV, bndV, stO, wrL, unfr, oneC, Value.cells, ptrV, eqD, tasV, buildV, bslL, buildL, setL, zrepL, eqL, leafEq]
  ((refine hK _ _ ?_); clear hK K)
  (repeat refine HW.seqL ?_); refine HW.seqR rfl (fun K hK => ?_)
  simp -implicitDefEqProofs only [↓XA, XB, XC, TF, UF, exists_eq_left', exists_eq_left, exists_eq_right, implies_true, forall_const, ↓reduceIte, reduceCtorEq, Nat.reduceLeDiff, Nat.reduceLT, Nat.reduceAdd, Nat.reduceMul, Nat.reduceEqDiff, Nat.reduceBEq, Nat.reduceSub, Int.reduceToNat, Int.reduceEq, Int.reduceNe, Int.reduceLT, Int.reduceLE, Int.reduceGT, Int.reduceGE, Int.reduceBEq, Int.reduceBNe, Int.reduceAdd, Int.reduceSub, Int.reduceMul, Int.reduceNeg, evM, nilV, extrV, binV, binI, binS, unV, convV, mkIfV, loadV, rdN, storeV, fieldAddrV, idxAddrV, idxV, fieldV, partV, lenV, capV, sliceV, bndV, stO, wrL, unfr, oneC, Value.cells, ptrV, eqD, tasV, buildV, bslL, buildL, setL, zrepL, eqL, leafEq]
  refine hd.len ?_
  (try simp -implicitDefEqProofs only [↓XA, XB, XC, TF, UF, exists_eq_left', exists_eq_left, exists_eq_right, implies_true, forall_const, ↓reduceIte, reduceCtorEq, Nat.reduceLeDiff, Nat.reduceLT, Nat.reduceAdd, Nat.reduceMul, Nat.reduceEqDiff, Nat.reduceBEq, Nat.reduceSub, Int.reduceToNat, Int.reduceEq, Int.reduceNe, Int.reduceLT, Int.reduceLE, Int.reduceGT, Int.reduceGE, Int.reduceBEq, Int.reduceBNe, Int.reduceAdd, Int.reduceSub, Int.reduceMul, Int.reduceNeg, evM, nilV, extrV, binV, binI, binS, unV, convV, mkIfV, loadV, rdN, storeV, fieldAddrV, idxAddrV, idxV, fieldV, partV, lenV, capV, sliceV, bndV, stO, wrL, unfr, oneC, Value.cells, ptrV, eqD, tasV, buildV, bslL, buildL, setL, zrepL, eqL, leafEq, w1])
  ((refine hK _ _ ?_); clear hK K)
  refine HW.join (α := Nat → E) [0] (fun a' => [itf c]) (fun a' h' => Hd h' c rb cap a' (n + 1) mv ∧ HeapOrd a' n ∧ (∀ e, (∃ k, k < n ∧ a' k = e) ↔ ∃ k, k < n + 1 ∧ k ≠ i ∧ a k = e) ∧ Fr (RB a (n + 1) rb) h h' ∧ Still h h') ?_ ?_
  · by_cases hin : i = n
    · subst hin
      (repeat refine HW.seqL ?_); refine HW.seqR rfl (fun K hK => ?_)
      simp -implicitDefEqProofs only [↓XA, XB, XC, TF, UF, exists_eq_left', exists_eq_left, exists_eq_right, implies_true, forall_const, ↓reduceIte, reduceCtorEq, Nat.reduceLeDiff, Nat.reduceLT, Nat.reduceAdd, Nat.reduceMul, Nat.reduceEqDiff, Nat.reduceBEq, Nat.reduceSub, Int.reduceToNat, Int.reduceEq, Int.reduceNe, Int.reduceLT, Int.reduceLE, Int.reduceGT, Int.reduceGE, Int.reduceBEq, Int.reduceBNe, Int.reduceAdd, Int.reduceSub, Int.reduceMul, Int.reduceNeg, evM, nilV, extrV, binV, binI, binS, unV, convV, mkIfV, loadV, rdN, storeV, fieldAddrV, idxAddrV, idxV, fieldV, partV, lenV, capV, sliceV, bndV, stO, wrL, unfr, oneC, Value.cells, ptrV, eqD, tasV, buildV, bslL, buildL, setL, zrepL, eqL, leafEq, bne_self_eq_false]
      ((refine hK _ _ ?_); clear hK K)
      (repeat refine HW.seqL ?_); first | refine HW.ite rfl (fun hb => ?_) (fun hb => ?_) | refine HW.iteS rfl (fun hb => ?_) (fun hb => ?_)
      · cases hb
      · refine HW.skip ?_
        (repeat (first | (with_reducible refine Seq.ret ?_) | (with_reducible refine Blk.ret ?_) | (with_reducible refine Blk.here ?_) | (with_reducible refine Seq.exit ?_) | (with_reducible refine Blk.out (by decide) ?_) | (with_reducible refine Blk.normal ?_) | (with_reducible refine Seq.normal ?_)))
        refine ⟨a, ⟨hd, fun k k0 kn => hO k k0 (by omega), ?_, Fr.refl _ _, fun _ e => e⟩, rfl, trivial⟩
        intro e
        exact ⟨fun ⟨k, hk, he⟩ => ⟨k, by omega, by omega, he⟩, fun ⟨k, hk, hki, he⟩ => ⟨k, by omega, he⟩⟩
    · have hnn : ((n : Int) != (i : Int)) = true := by simp; omega
      (repeat refine HW.seqL ?_); refine HW.seqR rfl (fun K hK => ?_)
      simp -implicitDefEqProofs only [↓XA, XB, XC, TF, UF, exists_eq_left', exists_eq_left, exists_eq_right, implies_true, forall_const, ↓reduceIte, reduceCtorEq, Nat.reduceLeDiff, Nat.reduceLT, Nat.reduceAdd, Nat.reduceMul, Nat.reduceEqDiff, Nat.reduceBEq, Nat.reduceSub, Int.reduceToNat, Int.reduceEq, Int.reduceNe, Int.reduceLT, Int.reduceLE, Int.reduceGT, Int.reduceGE, Int.reduceBEq, Int.reduceBNe, Int.reduceAdd, Int.reduceSub, Int.reduceMul, Int.reduceNeg, evM, nilV, extrV, binV, binI, binS, unV, convV, mkIfV, loadV, rdN, storeV, fieldAddrV, idxAddrV, idxV, fieldV, partV, lenV, capV, sliceV, bndV, stO, wrL, unfr, oneC, Value.cells, ptrV, eqD, tasV, buildV, bslL, buildL, setL, zrepL, eqL, leafEq, hnn]
      ((refine hK _ _ ?_); clear hK K)
      (repeat refine HW.seqL ?_); first | refine HW.ite rfl (fun hb => ?_) (fun hb => ?_) | refine HW.iteS rfl (fun hb => ?_) (fun hb => ?_)
      · (repeat refine HW.seqL ?_); refine HW.seqR rfl (fun K hK => ?_)
        simp -implicitDefEqProofs only [↓XA, XB, XC, TF, UF, exists_eq_left', exists_eq_left, exists_eq_right, implies_true, forall_const, ↓reduceIte, reduceCtorEq, Nat.reduceLeDiff, Nat.reduceLT, Nat.reduceAdd, Nat.reduceMul, Nat.reduceEqDiff, Nat.reduceBEq, Nat.reduceSub, Int.reduceToNat, Int.reduceEq, Int.reduceNe, Int.reduceLT, Int.reduceLE, Int.reduceGT, Int.reduceGE, Int.reduceBEq, Int.reduceBNe, Int.reduceAdd, Int.reduceSub, Int.reduceMul, Int.reduceNeg, evM, nilV, extrV, binV, binI, binS, unV, convV, mkIfV, loadV, rdN, storeV, fieldAddrV, idxAddrV, idxV, fieldV, partV, lenV, capV, sliceV, bndV, stO, wrL, unfr, oneC, Value.cells, ptrV, eqD, tasV, buildV, bslL, buildL, setL, zrepL, eqL, leafEq]
        refine hd.swap (by omega) (by omega) hin (fun v h1 hd1 hf1 hs1 => ?_)
        (try simp -implicitDefEqProofs only [↓XA, XB, XC, TF, UF, exists_eq_left', exists_eq_left, exists_eq_right, implies_true, forall_const, ↓reduceIte, reduceCtorEq, Nat.reduceLeDiff, Nat.reduceLT, Nat.reduceAdd, Nat.reduceMul, Nat.reduceEqDiff, Nat.reduceBEq, Nat.reduceSub, Int.reduceToNat, Int.reduceEq, Int.reduceNe, Int.reduceLT, Int.reduceLE, Int.reduceGT, Int.reduceGE, Int.reduceBEq, Int.reduceBNe, Int.reduceAdd, Int.reduceSub, Int.reduceMul, Int.reduceNeg, evM, nilV, extrV, binV, binI, binS, unV, convV, mkIfV, loadV, rdN, storeV, fieldAddrV, idxAddrV, idxV, fieldV, partV, lenV, capV, sliceV, bndV, stO, wrL, unfr, oneC, Value.cells, ptrV, eqD, tasV, buildV, bslL, buildL, setL, zrepL, eqL, leafEq])
        ((refine hK _ _ ?_); clear hK K)
        have hset : ∀ e, (∃ k, k < n ∧ swp a i n k = e) ↔ ∃ k, k < n + 1 ∧ k ≠ i ∧ a k = e := by
          intro e
          constructor
          · rintro ⟨k, hk, rfl⟩
            by_cases e1 : k = i
            · subst e1; exact ⟨n, by omega, by omega, (swp_l a k n).symm⟩
            · exact ⟨k, by omega, e1, (swp_o a i n k e1 (by omega)).symm⟩
          · rintro ⟨k, hk, hki, rfl⟩
            by_cases e1 : k = n
            · subst e1; exact ⟨i, by omega, swp_l a i k⟩
            · exact ⟨k, by omega, swp_o a i n k hki e1⟩
        have hD : DnInv (swp a i n) n i i := dn_start (a := a) (fun k k0 kn => hO k k0 (by omega)) (fun k hk kn => swp_o a i n k hk (by omega)) (by omega)
        (repeat refine HW.seqL ?_); refine HW.seqR rfl (fun K hK => ?_)
        simp -implicitDefEqProofs only [↓XA, XB, XC, TF, UF, exists_eq_left', exists_eq_left, exists_eq_right, implies_true, forall_const, ↓reduceIte, reduceCtorEq, Nat.reduceLeDiff, Nat.reduceLT, Nat.reduceAdd, Nat.reduceMul, Nat.reduceEqDiff, Nat.reduceBEq, Nat.reduceSub, Int.reduceToNat, Int.reduceEq, Int.reduceNe, Int.reduceLT, Int.reduceLE, Int.reduceGT, Int.reduceGE, Int.reduceBEq, Int.reduceBNe, Int.reduceAdd, Int.reduceSub, Int.reduceMul, Int.reduceNeg, evM, nilV, extrV, binV, binI, binS, unV, convV, mkIfV, loadV, rdN, storeV, fieldAddrV, idxAddrV, idxV, fieldV, partV, lenV, capV, sliceV, bndV, stO, wrL, unfr, oneC, Value.cells, ptrV, eqD, tasV, buildV, bslL, buildL, setL, zrepL, eqL, leafEq]
        refine (down_ok hd1 (by omega) (by omega) i (by omega) hD).mono ?_
        rintro v2 h2 ⟨a2, b2, rfl, hd2, hA2, hB2⟩
        (try simp -implicitDefEqProofs only [↓XA, XB, XC, TF, UF, exists_eq_left', exists_eq_left, exists_eq_right, implies_true, forall_const, ↓reduceIte, reduceCtorEq, Nat.reduceLeDiff, Nat.reduceLT, Nat.reduceAdd, Nat.reduceMul, Nat.reduceEqDiff, Nat.reduceBEq, Nat.reduceSub, Int.reduceToNat, Int.reduceEq, Int.reduceNe, Int.reduceLT, Int.reduceLE, Int.reduceGT, Int.reduceGE, Int.reduceBEq, Int.reduceBNe, Int.reduceAdd, Int.reduceSub, Int.reduceMul, Int.reduceNeg, evM, nilV, extrV, binV, binI, binS, unV, convV, mkIfV, loadV, rdN, storeV, fieldAddrV, idxAddrV, idxV, fieldV, partV, lenV, capV, sliceV, bndV, stO, wrL, unfr, oneC, Value.cells, ptrV, eqD, tasV, buildV, bslL, buildL, setL, zrepL, eqL, leafEq])
        ((refine hK _ _ ?_); clear hK K)
        have fin : ∀ h3 a3, Did h1 h3 c rb cap (swp a i n) a3 (n + 1) n mv → HeapOrd a3 n → (∃ s, (Hd h3 c rb cap s (n + 1) mv ∧ HeapOrd s n ∧ (∀ e, (∃ k, k < n ∧ s k = e) ↔ ∃ k, k < n + 1 ∧ k ≠ i ∧ a k = e) ∧ Fr (RB a (n + 1) rb) h h3 ∧ Still h h3)) := by
          intro h3 a3 hd3 hO3
          refine ⟨a3, hd3.hd, hO3, fun e => (hd3.mv.1 e).trans (hset e), hf1.trans (hd3.fr.mono fun b hb => hb.same (SameSet.swp (by omega) (by omega))), fun b hb => hd3.still b (hs1 b hb)⟩
        (repeat refine HW.seqL ?_); first | refine HW.ite rfl (fun hb => ?_) (fun hb => ?_) | refine HW.iteS rfl (fun hb => ?_) (fun hb => ?_)
        · refine HW.rgnK rfl (fun K hK => ?_)
          simp -implicitDefEqProofs only [↓XA, XB, XC, TF, UF, exists_eq_left', exists_eq_left, exists_eq_right, implies_true, forall_const, ↓reduceIte, reduceCtorEq, Nat.reduceLeDiff, Nat.reduceLT, Nat.reduceAdd, Nat.reduceMul, Nat.reduceEqDiff, Nat.reduceBEq, Nat.reduceSub, Int.reduceToNat, Int.reduceEq, Int.reduceNe, Int.reduceLT, Int.reduceLE, Int.reduceGT, Int.reduceGE, Int.reduceBEq, Int.reduceBNe, Int.reduceAdd, Int.reduceSub, Int.reduceMul, Int.reduceNeg, evM, nilV, extrV, binV, binI, binS, unV, convV, mkIfV, loadV, rdN, storeV, fieldAddrV, idxAddrV, idxV, fieldV, partV, lenV, capV, sliceV, bndV, stO, wrL, unfr, oneC, Value.cells, ptrV, eqD, tasV, buildV, bslL, buildL, setL, zrepL, eqL, leafEq]
          refine (up_ok hd2.hd (by omega) (by omega) i (by omega) (hB2 (by simpa using hb))).mono ?_
          rintro v3 h3 ⟨a3, hd3, hO3⟩
          (try simp -implicitDefEqProofs only [↓XA, XB, XC, TF, UF, exists_eq_left', exists_eq_left, exists_eq_right, implies_true, forall_const, ↓reduceIte, reduceCtorEq, Nat.reduceLeDiff, Nat.reduceLT, Nat.reduceAdd, Nat.reduceMul, Nat.reduceEqDiff, Nat.reduceBEq, Nat.reduceSub, Int.reduceToNat, Int.reduceEq, Int.reduceNe, Int.reduceLT, Int.reduceLE, Int.reduceGT, Int.reduceGE, Int.reduceBEq, Int.reduceBNe, Int.reduceAdd, Int.reduceSub, Int.reduceMul, Int.reduceNeg, evM, nilV, extrV, binV, binI, binS, unV, convV, mkIfV, loadV, rdN, storeV, fieldAddrV, idxAddrV, idxV, fieldV, partV, lenV, capV, sliceV, bndV, stO, wrL, unfr, oneC, Value.cells, ptrV, eqD, tasV, buildV, bslL, buildL, setL, zrepL, eqL, leafEq])
          ((refine hK _ _ ?_); clear hK K)
          (repeat (first | (with_reducible refine Seq.ret ?_) | (with_reducible refine Blk.ret ?_) | (with_reducible refine Blk.here ?_) | (with_reducible refine Seq.exit ?_) | (with_reducible refine Blk.out (by decide) ?_) | (with_reducible refine Blk.normal ?_) | (with_reducible refine Seq.normal ?_)))
          obtain ⟨s, hs⟩ := fin h3 a3 (hd2.trans hd3) hO3
          exact ⟨s, hs, rfl, trivial⟩
        · refine HW.skip ?_
          (repeat (first | (with_reducible refine Seq.ret ?_) | (with_reducible refine Blk.ret ?_) | (with_reducible refine Blk.here ?_) | (with_reducible refine Seq.exit ?_) | (with_reducible refine Blk.out (by decide) ?_) | (with_reducible refine Blk.normal ?_) | (with_reducible refine Seq.normal ?_)))
          obtain ⟨s, hs⟩ := fin h2 a2 hd2 (hA2 (by simpa using hb))
          exact ⟨s, hs, rfl, trivial⟩
      · cases hb
  · rintro a1 h1 ⟨hd1, hO1, hset, hf1, hs1⟩
    simp only [List.zip_cons_cons, List.zip_nil_left]
    (repeat refine HW.seqL ?_); refine HW.seqR rfl (fun K hK => ?_)
    simp -implicitDefEqProofs only [↓XA, XB, XC, TF, UF, exists_eq_left', exists_eq_left, exists_eq_right, implies_true, forall_const, ↓reduceIte, reduceCtorEq, Nat.reduceLeDiff, Nat.reduceLT, Nat.reduceAdd, Nat.reduceMul, Nat.reduceEqDiff, Nat.reduceBEq, Nat.reduceSub, Int.reduceToNat, Int.reduceEq, Int.reduceNe, Int.reduceLT, Int.reduceLE, Int.reduceGT, Int.reduceGE, Int.reduceBEq, Int.reduceBNe, Int.reduceAdd, Int.reduceSub, Int.reduceMul, Int.reduceNeg, evM, nilV, extrV, binV, binI, binS, unV, convV, mkIfV, loadV, rdN, storeV, fieldAddrV, idxAddrV, idxV, fieldV, partV, lenV, capV, sliceV, bndV, stO, wrL, unfr, oneC, Value.cells, ptrV, eqD, tasV, buildV, bslL, buildL, setL, zrepL, eqL, leafEq]
    refine InvK.val mPop ?_
    refine (rpop_ok hd1 (by omega)).mono ?_
    rintro v h2 ⟨hd2, hf2, hs2⟩
    (try simp -implicitDefEqProofs only [↓XA, XB, XC, TF, UF, exists_eq_left', exists_eq_left, exists_eq_right, implies_true, forall_const, ↓reduceIte, reduceCtorEq, Nat.reduceLeDiff, Nat.reduceLT, Nat.reduceAdd, Nat.reduceMul, Nat.reduceEqDiff, Nat.reduceBEq, Nat.reduceSub, Int.reduceToNat, Int.reduceEq, Int.reduceNe, Int.reduceLT, Int.reduceLE, Int.reduceGT, Int.reduceGE, Int.reduceBEq, Int.reduceBNe, Int.reduceAdd, Int.reduceSub, Int.reduceMul, Int.reduceNeg, evM, nilV, extrV, binV, binI, binS, unV, convV, mkIfV, loadV, rdN, storeV, fieldAddrV, idxAddrV, idxV, fieldV, partV, lenV, capV, sliceV, bndV, stO, wrL, unfr, oneC, Value.cells, ptrV, eqD, tasV, buildV, bslL, buildL, setL, zrepL, eqL, leafEq])
    ((refine hK _ _ ?_); clear hK K)
    ((refine HW.ret ?_); (repeat (first | (with_reducible refine Seq.ret ?_) | (with_reducible refine Blk.ret ?_))); (refine RetK.one rfl ?_))
    refine ⟨a1, hd2, hO1, hset, ?_⟩
    intro b o hb hnb
    refine hf2 b o (hf1 b o hb ?_) ?_
    · rintro (e | e)
      · exact hnb (.inr (.inl (by rw [e])))
      · exact hnb (.inr (.inr e))
    · rintro (e | e)
      · exact hnb (.inl e)
      · exact hnb (.inr (.inl (by rw [e])))
end Go.Proofs.Ytiiglipmekeikaa
