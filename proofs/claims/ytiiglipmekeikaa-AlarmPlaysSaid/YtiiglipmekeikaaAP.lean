/- The alarms' heap, in plain terms: an order on entries; what going up and going down keep. -/
set_option linter.unusedVariables false
set_option linter.unusedSimpArgs false
namespace Go.Proofs.Ytiiglipmekeikaa
/-- An entry: its block, its tick, its number. -/
structure E where
  b : Nat
  at_ : Int
  id : Int
def ltE (x y : E) : Bool := if (x.at_ != y.at_) = true then decide (x.at_ < y.at_) else decide (x.id < y.id)
theorem ltE_iff (x y : E) : ltE x y = true ↔ x.at_ < y.at_ ∨ (x.at_ = y.at_ ∧ x.id < y.id) := by
  unfold ltE
  by_cases h : x.at_ = y.at_
  · simp [h]
  · simp [h]
theorem ltE_no (x y : E) : ltE x y = false ↔ ¬ (x.at_ < y.at_ ∨ (x.at_ = y.at_ ∧ x.id < y.id)) := by
  rw [← ltE_iff]; simp
/-- Two entries exchange their places. -/
def swp (a : Nat → E) (i j : Nat) : Nat → E := fun k => if k = i then a j else if k = j then a i else a k
theorem swp_l (a : Nat → E) (i j : Nat) : swp a i j i = a j := by simp [swp]
theorem swp_r (a : Nat → E) (i j : Nat) : swp a i j j = a i := by
  unfold swp
  split
  · rename_i h; rw [h]
  · rw [if_pos rfl]
theorem swp_o (a : Nat → E) (i j k : Nat) (h1 : k ≠ i) (h2 : k ≠ j) : swp a i j k = a k := by simp [swp, h1, h2]
/-- The same entries among the first n. -/
def SameSet (a a' : Nat → E) (n : Nat) : Prop := ∀ e, (∃ i, i < n ∧ a' i = e) ↔ ∃ i, i < n ∧ a i = e
theorem SameSet.refl (a : Nat → E) (n : Nat) : SameSet a a n := fun _ => Iff.rfl
theorem SameSet.trans {a b c : Nat → E} {n : Nat} (h1 : SameSet a b n) (h2 : SameSet b c n) : SameSet a c n := fun e => (h2 e).trans (h1 e)
theorem SameSet.swp {a : Nat → E} {n i j : Nat} (hi : i < n) (hj : j < n) : SameSet a (swp a i j) n := by
  intro e
  constructor
  · rintro ⟨k, hk, rfl⟩
    by_cases e1 : k = i
    · subst e1; exact ⟨j, hj, (swp_l a k j).symm⟩
    · by_cases e2 : k = j
      · subst e2; exact ⟨i, hi, (swp_r a i k).symm⟩
      · exact ⟨k, hk, (swp_o a i j k e1 e2).symm⟩
  · rintro ⟨k, hk, rfl⟩
    by_cases e1 : k = i
    · subst e1; exact ⟨j, hj, swp_r a k j⟩
    · by_cases e2 : k = j
      · subst e2; exact ⟨i, hi, swp_l a i k⟩
      · exact ⟨k, hk, swp_o a i j k e1 e2⟩
/-- The same entries among the first n, and those behind them stay where they are. -/
def Moved (a a' : Nat → E) (n : Nat) : Prop := SameSet a a' n ∧ ∀ k, n ≤ k → a' k = a k
theorem Moved.refl (a : Nat → E) (n : Nat) : Moved a a n := ⟨SameSet.refl a n, fun _ _ => rfl⟩
theorem Moved.trans {a b c : Nat → E} {n : Nat} (h1 : Moved a b n) (h2 : Moved b c n) : Moved a c n := ⟨h1.1.trans h2.1, fun k hk => (h2.2 k hk).trans (h1.2 k hk)⟩
theorem Moved.swp {a : Nat → E} {n i j : Nat} (hi : i < n) (hj : j < n) : Moved a (swp a i j) n := ⟨SameSet.swp hi hj, fun k hk => swp_o a i j k (by omega) (by omega)⟩
theorem Moved.set {a a' : Nat → E} {n m : Nat} (h : Moved a a' n) (hm : n ≤ m) : SameSet a a' m := by
  intro e
  constructor
  · rintro ⟨i, hi, rfl⟩
    by_cases hin : i < n
    · obtain ⟨j, hj, e⟩ := (h.1 (a' i)).1 ⟨i, hin, rfl⟩
      exact ⟨j, by omega, e⟩
    · exact ⟨i, hi, (h.2 i (by omega)).symm⟩
  · rintro ⟨i, hi, rfl⟩
    by_cases hin : i < n
    · obtain ⟨j, hj, e⟩ := (h.1 (a i)).2 ⟨i, hin, rfl⟩
      exact ⟨j, by omega, e⟩
    · exact ⟨i, hi, h.2 i (by omega)⟩
def HeapOrd (a : Nat → E) (n : Nat) : Prop := ∀ k, 0 < k → k < n → ltE (a k) (a ((k - 1) / 2)) = false
def UpInv (a : Nat → E) (n j : Nat) : Prop :=
  (∀ k, 0 < k → k < n → k ≠ j → ltE (a k) (a ((k - 1) / 2)) = false) ∧ (∀ k, 0 < k → k < n → (k - 1) / 2 = j → 0 < j → ltE (a k) (a ((j - 1) / 2)) = false)
theorem up_stop {a : Nat → E} {n j : Nat} (h : UpInv a n j) (hs : j = 0 ∨ ltE (a j) (a ((j - 1) / 2)) = false) : HeapOrd a n := by
  intro k h0 hk
  by_cases e : k = j
  · subst e
    rcases hs with hs | hs
    · omega
    · exact hs
  · exact h.1 k h0 hk e
theorem up_step {a : Nat → E} {n j : Nat} (h : UpInv a n j) (hj : j < n) (h0 : 0 < j) (hl : ltE (a j) (a ((j - 1) / 2)) = true) : UpInv (swp a ((j - 1) / 2) j) n ((j - 1) / 2) := by
  generalize hi : (j - 1) / 2 = i at *
  have hij : i ≠ j := by omega
  have hil : i < j := by omega
  rw [ltE_iff] at hl
  constructor
  · intro k k0 kn ki
    by_cases kj : k = j
    · subst kj
      rw [hi, swp_r, swp_l, ltE_no]; omega
    · rw [swp_o a i j k ki kj]
      by_cases pj : (k - 1) / 2 = j
      · rw [pj, swp_r]
        have := h.2 k k0 kn pj h0
        rw [hi] at this
        exact this
      · by_cases pi : (k - 1) / 2 = i
        · rw [pi, swp_l]
          have := h.1 k k0 kn kj
          rw [pi, ltE_no] at this
          rw [ltE_no]; omega
        · rw [swp_o a i j _ pi pj]
          exact h.1 k k0 kn kj
  · intro k k0 kn kp i0
    have hpi : (i - 1) / 2 ≠ i := by omega
    have hpj : (i - 1) / 2 ≠ j := by omega
    rw [swp_o a i j _ hpi hpj]
    have hpp := h.1 i i0 (by omega) hij
    by_cases kj : k = j
    · subst kj
      rw [swp_r]; exact hpp
    · rw [swp_o a i j k (by omega) kj]
      have := h.1 k k0 kn kj
      rw [kp, ltE_no] at this
      rw [ltE_no] at hpp ⊢
      omega
/-- Going down from i0, now at i. -/
def DnInv (a : Nat → E) (n i0 i : Nat) : Prop :=
  (∀ k, 0 < k → k < n → (k - 1) / 2 ≠ i → ¬ (k = i0 ∧ i = i0) → ltE (a k) (a ((k - 1) / 2)) = false) ∧ (∀ k, 0 < k → k < n → (k - 1) / 2 = i → 0 < i → ltE (a k) (a ((i - 1) / 2)) = false)
theorem dn_stop {a : Nat → E} {n i0 i : Nat} (h : DnInv a n i0 i) (hc : ∀ k, 0 < k → k < n → (k - 1) / 2 = i → ltE (a k) (a i) = false) : (i ≠ i0 → HeapOrd a n) ∧ (i = i0 → UpInv a n i0) := by
  constructor
  · intro hne k k0 kn
    by_cases e : (k - 1) / 2 = i
    · rw [e]; exact hc k k0 kn e
    · exact h.1 k k0 kn e (fun c => hne c.2)
  · intro he
    subst he
    refine ⟨?_, fun k k0 kn kp i0 => h.2 k k0 kn kp i0⟩
    intro k k0 kn ki
    by_cases e : (k - 1) / 2 = i
    · rw [e]; exact hc k k0 kn e
    · exact h.1 k k0 kn e (fun c => ki c.1)
theorem dn_step {a : Nat → E} {n i0 i j : Nat} (h : DnInv a n i0 i) (hj : j < n) (hp : (j - 1) / 2 = i) (h0 : 0 < j) (hl : ltE (a j) (a i) = true) (hs : ∀ k, 0 < k → k < n → (k - 1) / 2 = i → ltE (a k) (a j) = false) (hi0 : i0 ≤ i) : DnInv (swp a i j) n i0 j := by
  have hij : i < j := by omega
  rw [ltE_iff] at hl
  constructor
  · intro k k0 kn kp hk
    by_cases kj : k = j
    · subst kj
      rw [hp, swp_r, swp_l, ltE_no]; omega
    · by_cases ki : k = i
      · subst ki
        rw [swp_l, swp_o a k j _ (by omega) (by omega)]
        exact h.2 j h0 hj hp k0
      · rw [swp_o a i j k ki kj]
        by_cases pi : (k - 1) / 2 = i
        · rw [pi, swp_l]; exact hs k k0 kn pi
        · rw [swp_o a i j _ pi kp]
          exact h.1 k k0 kn pi (fun c => ki (by omega))
  · intro k k0 kn kp _
    rw [hp, swp_l, swp_o a i j k (by omega) (by omega)]
    have := h.1 k k0 kn (by omega) (fun c => by omega)
    rw [kp] at this
    exact this
theorem heap_min {a : Nat → E} {n : Nat} (h : HeapOrd a n) : ∀ k, k < n → ltE (a k) (a 0) = false := by
  intro k
  induction k using Nat.strongRecOn with
  | _ k ih =>
    intro hk
    by_cases e : k = 0
    · subst e; rw [ltE_no]; omega
    · have h1 := ih ((k - 1) / 2) (by omega) (by omega)
      have h2 := h k (by omega) hk
      rw [ltE_no] at h1 h2 ⊢
      omega
theorem dn_start {a a' : Nat → E} {n i : Nat} (h : HeapOrd a n) (hd : ∀ k, k ≠ i → k < n → a' k = a k) (hi : i < n) : DnInv a' n i i := by
  constructor
  · intro k k0 kn kp hk
    have hki : k ≠ i := fun e => hk ⟨e, rfl⟩
    rw [hd k hki kn, hd _ kp (by omega)]
    exact h k k0 kn
  · intro k k0 kn kp i0
    rw [hd k (by omega) kn, hd _ (by omega) (by omega)]
    have h1 := h k k0 kn
    have h2 := h i i0 hi
    rw [kp, ltE_no] at h1
    rw [ltE_no] at h2 ⊢
    omega
end Go.Proofs.Ytiiglipmekeikaa
