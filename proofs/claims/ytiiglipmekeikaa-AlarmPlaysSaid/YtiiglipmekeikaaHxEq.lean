/- Structs of plain cells, compared. -/
import Derived.Test.YtiiglipmekeikaaHxOps
set_option linter.unusedVariables false
set_option linter.unusedSimpArgs false
namespace Go.Hx
inductive LK where
  | b
  | i (k : IntKind)
  | s
def leafEq : LK → Value → Value → Option Bool
  | .b, .bool x, .bool y => some (x == y)
  | .i _, .int k x, .int k' y => if k = k' then some (x == y) else none
  | .s, .string x, .string y => some (decide (x = y))
  | _, _, _ => none
theorem leafEq_b {x y : Value} {c : Bool} (h : leafEq .b x y = some c) : ∃ a b, x = .bool a ∧ y = .bool b ∧ c = (a == b) := by
  cases x <;> cases y <;> simp only [leafEq, reduceCtorEq, Option.some.injEq] at h
  exact ⟨_, _, rfl, rfl, h.symm⟩
theorem leafEq_i {k0 : IntKind} {x y : Value} {c : Bool} (h : leafEq (.i k0) x y = some c) : ∃ k a b, x = .int k a ∧ y = .int k b ∧ c = (a == b) := by
  cases x <;> cases y <;> simp only [leafEq, reduceCtorEq] at h
  split at h
  · rename_i e; subst e; simp only [Option.some.injEq] at h; exact ⟨_, _, _, rfl, rfl, h.symm⟩
  · cases h
theorem leafEq_s {x y : Value} {c : Bool} (h : leafEq .s x y = some c) : ∃ a b, x = .string a ∧ y = .string b ∧ c = decide (a = b) := by
  cases x <;> cases y <;> simp only [leafEq, reduceCtorEq, Option.some.injEq] at h
  exact ⟨_, _, rfl, rfl, h.symm⟩
theorem beqBytes (x y : ByteArray) : (x == y) = decide (x = y) := by
  have e1 : (x == y) = true ↔ x = y := by
    obtain ⟨a⟩ := x
    obtain ⟨b⟩ := y
    show (a == b) = true ↔ _
    rw [beq_iff_eq, ByteArray.mk.injEq]
  by_cases e : x = y
  · rw [decide_eq_true e, e1]; exact e
  · rw [decide_eq_false e, ← Bool.not_eq_true, e1]; exact e
def eqL : List LK → List Value → List Value → Option Bool
  | [], [], [] => some true
  | k :: ks, x :: xs, y :: ys => match leafEq k x y with
    | some b => match eqL ks xs ys with
      | some c => some (b && c)
      | none => none
    | none => none
  | _, _, _ => none
theorem eqL_append : ∀ (k1 : List LK) (x1 y1 : List Value) {k2 : List LK} {x2 y2 : List Value} {b : Bool}, x1.length = k1.length → y1.length = k1.length → eqL (k1 ++ k2) (x1 ++ x2) (y1 ++ y2) = some b →
    ∃ b1 b2, eqL k1 x1 y1 = some b1 ∧ eqL k2 x2 y2 = some b2 ∧ b = (b1 && b2) := by
  intro k1
  induction k1 with
  | nil =>
    intro x1 y1 k2 x2 y2 b hx hy h
    have : x1 = [] := List.eq_nil_of_length_eq_zero hx
    have : y1 = [] := List.eq_nil_of_length_eq_zero hy
    subst x1; subst y1
    exact ⟨true, b, rfl, h, by simp⟩
  | cons k k1 ih =>
    intro x1 y1 k2 x2 y2 b hx hy h
    cases x1 with
    | nil => simp at hx
    | cons x x1 =>
      cases y1 with
      | nil => simp at hy
      | cons y y1 =>
        simp only [List.cons_append, eqL] at h
        split at h
        · rename_i c hc
          split at h
          · rename_i e he
            obtain ⟨b1, b2, h1, h2, h3⟩ := ih x1 y1 (by simpa using hx) (by simpa using hy) he
            simp only [Option.some.injEq] at h
            refine ⟨c && b1, b2, by simp only [eqL, hc, h1], h2, by rw [← h, h3, Bool.and_assoc]⟩
          · cases h
        · cases h
theorem eqL_len : ∀ {ks : List LK} {xs ys : List Value} {b : Bool}, eqL ks xs ys = some b → xs.length = ks.length ∧ ys.length = ks.length := by
  intro ks
  induction ks with
  | nil => intro xs ys b h; cases xs <;> cases ys <;> simp_all [eqL]
  | cons k ks ih =>
    intro xs ys b h
    cases xs with
    | nil => cases ys <;> simp [eqL] at h
    | cons x xs =>
      cases ys with
      | nil => simp [eqL] at h
      | cons y ys =>
        simp only [eqL] at h
        split at h
        · split at h
          · rename_i e he
            have := ih he
            simp [this.1, this.2]
          · cases h
        · cases h
mutual
/-- A type of plain cells alone: their kinds. -/
def plainK (P : Program) : Nat → TypeId → Option (List LK)
  | 0, _ => none
  | d + 1, t => match P.underlying t, tyK P t with
    | some .bool, some (false, _) => some [.b]
    | some (.int k), some (false, _) => some [.i k]
    | some .string, some (false, _) => some [.s]
    | some (.struct fs), some (true, n) => if P.stoodInHeld t then none else match plainF P d fs.toList 0 with
      | some ks => if ks.length = n then some ks else none
      | none => none
    | _, _ => none
def plainF (P : Program) : Nat → List Field → Nat → Option (List LK)
  | _, [], _ => some []
  | 0, _ :: _, _ => none
  | d + 1, f :: fs, n => if f.name = "_" ∨ f.offset ≠ n then none else match plainK P d f.type with
    | some ks => match plainF P d fs (n + ks.length) with
      | some l => some (ks ++ l)
      | none => none
    | none => none
end
/-- A value, as its cells. -/
def ofC (ag : Bool) (cs : List Value) (v : Value) : Prop := if ag then v = .agg cs.toArray else cs = [v]
theorem plain_ok {P : Program} : ∀ (d : Nat),
    (∀ t ks, plainK P d t = some ks → ∃ ag, tyK P t = some (ag, if ag then ks.length else (tyK P t).elim 0 (·.2)) ∧ (ag = false → ks.length = 1) ∧ ∀ D, d ≤ D → ∀ x y cx cy b, ofC ag cx x → ofC ag cy y → eqL ks cx cy = some b → ∀ (Q : Bool → Hp → Prop) h, Q b h → hwp P (Op.equalIn D t x y) Q h) ∧
    (∀ fs n ks, plainF P d fs n = some ks → ∀ D, d ≤ D → ∀ (xs ys : Array Value) b, n + ks.length ≤ xs.size → n + ks.length ≤ ys.size → eqL ks ((xs.toList.drop n).take ks.length) ((ys.toList.drop n).take ks.length) = some b → ∀ (Q : Option Bool × Unit → Hp → Prop) h, Q (if b then (none, ()) else (some false, ())) h →
      hwp P (forIn fs ((none, ()) : Option Bool × Unit) fun f __s =>
                if f.name ≠ "_" then do
                  let __do_lift ← part f.type xs f.offset
                  let __do_lift_1 ← part f.type ys f.offset
                  let __do_lift ← Op.equalIn D f.type __do_lift __do_lift_1
                  if (!__do_lift) = true then pure (ForInStep.done (some false, ()))
                    else pure (ForInStep.yield (none, ()))
                else pure (ForInStep.yield (none, ()))) Q h) := by
  intro d
  induction d with
  | zero =>
    refine ⟨fun t ks h => by simp [plainK] at h, ?_⟩
    intro fs n ks h D hD xs ys b hx hy he Q hh hq
    cases fs with
    | nil =>
      simp only [plainF, Option.some.injEq] at h
      subst h
      simp [eqL] at he
      subst he
      simpa [hwp_pure] using hq
    | cons f fs => simp [plainF] at h
  | succ d ih =>
    obtain ⟨ih1, ih2⟩ := ih
    constructor
    · intro t ks h
      have hD1 : ∀ D, d + 1 ≤ D → ∃ D', D = D' + 1 := fun D hD => ⟨D - 1, by omega⟩
      unfold plainK at h
      split at h
      · rename_i n hu hk
        simp only [Option.some.injEq] at h
        subst h
        refine ⟨false, by simp [hk], fun _ => rfl, ?_⟩
        intro D hD x y cx cy b hx hy he Q hh hq
        obtain ⟨D, rfl⟩ := hD1 D hD
        simp only [ofC, Bool.false_eq_true, if_false] at hx hy
        subst hx; subst hy
        simp only [eqL] at he
        split at he
        · rename_i c hc
          simp only [Bool.and_true, Option.some.injEq] at he
          subst he
          obtain ⟨a, b, rfl, rfl, rfl⟩ := leafEq_b hc
          unfold Op.equalIn
          rw [hwp_bind, hwp_underlying P hu]
          exact hq
        · cases he
      · rename_i k n hu hk
        simp only [Option.some.injEq] at h
        subst h
        refine ⟨false, by simp [hk], fun _ => rfl, ?_⟩
        intro D hD x y cx cy b hx hy he Q hh hq
        obtain ⟨D, rfl⟩ := hD1 D hD
        simp only [ofC, Bool.false_eq_true, if_false] at hx hy
        subst hx; subst hy
        simp only [eqL] at he
        split at he
        · rename_i c hc
          simp only [Bool.and_true, Option.some.injEq] at he
          subst he
          obtain ⟨k, a, b, rfl, rfl, rfl⟩ := leafEq_i hc
          unfold Op.equalIn
          rw [hwp_bind, hwp_underlying P hu]
          simp only [if_true]; exact hq
        · cases he
      · rename_i n hu hk
        simp only [Option.some.injEq] at h
        subst h
        refine ⟨false, by simp [hk], fun _ => rfl, ?_⟩
        intro D hD x y cx cy b hx hy he Q hh hq
        obtain ⟨D, rfl⟩ := hD1 D hD
        simp only [ofC, Bool.false_eq_true, if_false] at hx hy
        subst hx; subst hy
        simp only [eqL] at he
        split at he
        · rename_i c hc
          simp only [Bool.and_true, Option.some.injEq] at he
          subst he
          obtain ⟨a, b, rfl, rfl, rfl⟩ := leafEq_s hc
          unfold Op.equalIn
          rw [hwp_bind, hwp_underlying P hu]
          rw [← beqBytes] at hq; exact hq
        · cases he
      · rename_i fs n hu hk
        split at h
        · cases h
        · rename_i hst
          split at h
          · rename_i ks' hks
            split at h
            · rename_i hn
              simp only [Option.some.injEq] at h
              subst h
              refine ⟨true, by simp [hk, hn], (fun e => by cases e), ?_⟩
              intro D hD x y cx cy b hx hy he Q hh hq
              obtain ⟨D, rfl⟩ := hD1 D hD
              simp only [ofC, if_true] at hx hy
              subst hx; subst hy
              obtain ⟨l1, l2⟩ := eqL_len he
              unfold Op.equalIn
              rw [hwp_bind, hwp_underlying P hu]
              simp only [hwp_bind, program, hwp, hst, Bool.false_eq_true, if_false]
              rw [← Array.forIn_toList]
              refine ih2 _ _ _ hks D (by omega) cx.toArray cy.toArray b (by simp; omega) (by simp; omega) (by simp [← l1, List.take_of_length_le]; rw [List.take_of_length_le (by omega)]; exact he) _ hh ?_
              cases b with
              | true => exact hq
              | false => exact hq
            · cases h
          · cases h
      · cases h
    · intro fs n ks h D hD xs ys b hx hy he Q hh hq
      cases fs with
      | nil =>
        simp only [plainF, Option.some.injEq] at h
        subst h
        simp [eqL] at he
        subst he
        simpa [hwp_pure] using hq
      | cons f fs =>
        simp only [plainF] at h
        split at h
        · cases h
        · rename_i hno
          have hno1 : f.name ≠ "_" := fun e => hno (.inl e)
          have hno2 : f.offset = n := Classical.byContradiction fun e => hno (.inr e)
          split at h
          · rename_i k1 hk1
            split at h
            · rename_i k2 hk2
              simp only [Option.some.injEq] at h
              subst h
              obtain ⟨ag, hty, hl1, heq⟩ := ih1 _ _ hk1
              rw [List.length_append] at hx hy he
              have sp : ∀ zs : Array Value, (zs.toList.drop n).take (k1.length + k2.length) = (zs.toList.drop n).take k1.length ++ (zs.toList.drop (n + k1.length)).take k2.length := by
                intro zs
                rw [List.take_add, List.drop_drop]
              rw [sp, sp] at he
              obtain ⟨b1, b2, e1, e2, rfl⟩ := eqL_append _ _ _ (by simp; omega) (by simp; omega) he
              rw [List.forIn_cons]
              simp only [ne_eq, hno1, not_false_eq_true, if_true, hno2, hwp_bind]
              have hpart : ∀ zs : Array Value, n + k1.length ≤ zs.size → ∃ v, partV (ag, if ag then k1.length else (tyK P f.type).elim 0 (·.2)) zs n = some v ∧ ofC ag ((zs.toList.drop n).take k1.length) v := by
                intro zs hz
                cases ag with
                | true =>
                  refine ⟨_, rfl, ?_⟩
                  simp only [ofC, if_true]
                  congr 1
                  apply Array.ext'
                  simp [Array.toList_extract, List.extract_eq_take_drop]
                | false =>
                  have := hl1 rfl
                  refine ⟨zs[n]'(by omega), by simp [partV], ?_⟩
                  simp only [ofC, Bool.false_eq_true, if_false, this]
                  rw [List.drop_eq_getElem_cons (by simp; omega)]
                  simp
              obtain ⟨vx, px, ox⟩ := hpart xs (by omega)
              obtain ⟨vy, py, oy⟩ := hpart ys (by omega)
              rw [hwp_part P hty px, hwp_part P hty py]
              refine heq D (by omega) vx vy _ _ b1 ox oy e1 _ _ ?_
              cases b1 with
              | false =>
                simp only [Bool.not_false, if_true, hwp_pure]
                simpa using hq
              | true =>
                simp only [Bool.not_true, Bool.false_eq_true, if_false, hwp_pure]
                exact ih2 _ _ _ hk2 D (by omega) xs ys b2 (by omega) (by omega) e2 _ _ (by simpa using hq)
            · cases h
          · cases h
/-- Two structs of plain cells. -/
def aggK (P : Program) (t : TypeId) : Option (List LK) := if P.eqGuardType P.depth t then none else match tyK P t with
  | some (true, _) => plainK P 40 t
  | _ => none
theorem aggK_ok {P : Program} {t : TypeId} {ks : List LK} (hk : aggK P t = some ks) {xs ys : Array Value} {b : Bool} (he : eqL ks xs.toList ys.toList = some b) : P.eqGuardType P.depth t = false ∧ ∀ (Q : Bool → Hp → Prop) h, Q b h → hwp P (Op.equal t (.agg xs) (.agg ys)) Q h := by
  unfold aggK at hk
  split at hk
  · cases hk
  · rename_i hg
    refine ⟨by simpa using hg, ?_⟩
    split at hk
    · rename_i n hty
      obtain ⟨ag, h1, _, h3⟩ := (plain_ok 40).1 t ks hk
      rw [hty] at h1
      simp only [Option.some.injEq, Prod.mk.injEq] at h1
      obtain ⟨rfl, _⟩ := h1
      intro Q h hq
      exact h3 10000 (by omega) _ _ _ _ b rfl rfl he Q h hq
    · cases hk
end Go.Hx
