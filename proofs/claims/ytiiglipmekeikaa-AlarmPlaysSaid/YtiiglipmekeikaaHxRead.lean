/- What a given row's data tells of memory: plain structs, slices of whatever can be read. -/
import Derived.Test.YtiiglipmekeikaaHxRow
import Derived.Deep.Slices
set_option linter.unusedVariables false
set_option linter.unusedSimpArgs false
namespace Go.Hx
open Go.ChangeShapes Go.WideShapes Go.Deep

def LeafOk : LK → Value → Prop
  | .b, v => ∃ b, v = .bool b
  | .i k, v => ∃ n, v = .int k n ∧ (Lit.int k n).wf = true
  | .s, v => ∃ s : ByteArray, v = .string s ∧ s.size ≤ maxLen
def LeavesOk : List LK → List Value → Prop
  | [], cs => cs = []
  | k :: ks, cs => ∃ v r, cs = v :: r ∧ LeafOk k v ∧ LeavesOk ks r
theorem LeavesOk.append : ∀ {k1 k2 : List LK} {c1 c2 : List Value}, LeavesOk k1 c1 → LeavesOk k2 c2 → LeavesOk (k1 ++ k2) (c1 ++ c2) := by
  intro k1
  induction k1 with
  | nil => intro k2 c1 c2 h1 h2; simp only [LeavesOk] at h1; subst h1; exact h2
  | cons k k1 ih =>
    intro k2 c1 c2 h1 h2
    obtain ⟨v, r, rfl, hv, hr⟩ := h1
    exact ⟨v, r ++ c2, rfl, hv, ih hr h2⟩
section
variable {H : Type} {enc : TypeId × Value → H} {P : Program} {w : World} {base : Nat} {spare : Nat → Bool} {held : Bool}
theorem cellsOf_tyK {t : TypeId} {b : Bool} {n : Nat} (h : tyK P t = some (b, n)) : P.cellsOf t = n := by
  have := szK_of P h
  unfold szK at this
  unfold Program.cellsOf
  rw [this]; rfl
theorem plain_read : ∀ (d : Nat),
    (∀ t ks, plainK P d t = some ks → ks.length = P.cellsOf t ∨ ks.length = 1 ∧ True) ∧
    (∀ t ks fuel cs x, plainK P d t = some ks → DataW.trod enc P w base spare held fuel t cs = some x → LeavesOk ks cs) ∧
    (∀ (fs : List Field) (n : Nat) (ks : List LK) (fuel : Nat) (cs : List Value), plainF P d fs n = some ks → cs.length = n + ks.length → (∀ f ∈ fs, ∃ x, DataW.trod enc P w base spare held fuel f.type ((cs.drop f.offset).take (P.cellsOf f.type)) = some x) → LeavesOk ks (cs.drop n)) := by
  intro d
  induction d with
  | zero =>
    refine ⟨fun t ks h => by simp [plainK] at h, fun t ks fuel cs x h => by simp [plainK] at h, ?_⟩
    intro fs n ks fuel cs h hl hf
    cases fs with
    | nil =>
      simp only [plainF, Option.some.injEq] at h
      subst h
      simp only [LeavesOk, List.drop_eq_nil_iff]
      simp at hl; omega
    | cons f fs => simp [plainF] at h
  | succ d ih =>
    obtain ⟨ih0, ih1, ih2⟩ := ih
    refine ⟨?_, ?_, ?_⟩
    · intro t ks h
      unfold plainK at h
      split at h
      · simp only [Option.some.injEq] at h; subst h; exact .inr ⟨rfl, trivial⟩
      · simp only [Option.some.injEq] at h; subst h; exact .inr ⟨rfl, trivial⟩
      · simp only [Option.some.injEq] at h; subst h; exact .inr ⟨rfl, trivial⟩
      · rename_i fs n hu hk
        split at h
        · cases h
        · split at h
          · split at h
            · rename_i hn
              simp only [Option.some.injEq] at h; subst h
              exact .inl (by rw [cellsOf_tyK hk, hn])
            · cases h
          · cases h
      · cases h
    · intro t ks fuel cs x h hx
      unfold plainK at h
      split at h
      · rename_i n hu hk
        simp only [Option.some.injEq] at h
        subst h
        obtain ⟨b, rfl, _⟩ := DataW.trod_bool hu hx
        exact ⟨_, [], rfl, ⟨b, rfl⟩, rfl⟩
      · rename_i k n hu hk
        simp only [Option.some.injEq] at h
        subst h
        obtain ⟨b, rfl, _, hw⟩ := DataW.trod_int hu hx
        exact ⟨_, [], rfl, ⟨b, rfl, hw⟩, rfl⟩
      · rename_i n hu hk
        simp only [Option.some.injEq] at h
        subst h
        obtain ⟨b, rfl, _, hw⟩ := DataW.trod_string hu hx
        exact ⟨_, [], rfl, ⟨b, rfl, hw⟩, rfl⟩
      · rename_i fs n hu hk
        split at h
        · cases h
        · split at h
          · rename_i ks' hks
            split at h
            · rename_i hn
              simp only [Option.some.injEq] at h
              subst h
              obtain ⟨xs, n', rfl, _, hl, hxl, hf⟩ := DataW.trod_struct hu hx
              rw [cellsOf_tyK hk] at hl
              have := ih2 fs.toList 0 ks' n' cs hks (by omega) ?_
              · simpa using this
              · intro f hfm
                obtain ⟨i, hi, e⟩ := List.getElem_of_mem hfm
                have hget : fs[i]? = some f := by rw [← Array.getElem?_toList, List.getElem?_eq_getElem hi, e]
                have := hf i f hget
                have hlt : i < xs.length := by rw [hxl]; simpa using hi
                exact ⟨_, this.trans (List.getElem?_eq_getElem hlt)⟩
            · cases h
          · cases h
      · cases h
    · intro fs n ks fuel cs h hl hf
      cases fs with
      | nil =>
        simp only [plainF, Option.some.injEq] at h
        subst h
        simp only [LeavesOk, List.drop_eq_nil_iff]
        simp at hl; omega
      | cons f fs =>
        simp only [plainF] at h
        split at h
        · cases h
        · rename_i hno
          have hno2 : f.offset = n := Classical.byContradiction fun e => hno (.inr e)
          split at h
          · rename_i k1 hk1
            split at h
            · rename_i k2 hk2
              simp only [Option.some.injEq] at h
              subst h
              obtain ⟨ag, hty, hl1, _⟩ := (plain_ok d).1 _ _ hk1
              rw [List.length_append] at hl
              obtain ⟨x, hx⟩ := hf f (by simp)
              have r1 := ih1 _ _ _ _ _ hk1 hx
              have r2 := ih2 fs (n + k1.length) k2 fuel cs hk2 (by omega) (fun g hg => hf g (by simp [hg]))
              have hlen : ∀ {ks : List LK} {cs : List Value}, LeavesOk ks cs → cs.length = ks.length := by
                intro ks
                induction ks with
                | nil => intro cs h; simp only [LeavesOk] at h; subst h; rfl
                | cons k ks ih =>
                  intro cs h
                  obtain ⟨v, r, rfl, _, hr⟩ := h
                  simp [ih hr]
              have e1 := hlen r1
              rw [hno2] at r1 e1
              have hsz : (cs.drop n).take (P.cellsOf f.type) = (cs.drop n).take k1.length := by
                simp only [List.length_take, List.length_drop] at e1
                by_cases hle : P.cellsOf f.type ≤ cs.length - n
                · rw [show P.cellsOf f.type = k1.length by omega]
                · rw [List.take_of_length_le (by simp; omega), List.take_of_length_le (by simp; omega)]
              rw [hsz] at r1
              have := r1.append r2
              rw [← List.drop_drop, List.take_append_drop] at this
              exact this
            · cases h
          · cases h

theorem cells_rd {a : Addr} {k n : Nat} {cs : List Value} (hs : a.spot = none) (h : w.cells? base (a.add k) n = some cs) : cs.length = n ∧ ∀ j v, cs[j]? = some v → rd (hpOf w a.block) (a.off + k + j) = some v := by
  obtain ⟨_, hl, hi⟩ := World.cells?_some h
  refine ⟨hl, ?_⟩
  intro j v hv
  have hj : j < n := by rw [← hl]; exact (List.getElem?_eq_some_iff.1 hv).1
  have hj' := hi j hj
  rw [add_add, hv] at hj'
  have := cell_rd hj' hs
  rw [Nat.add_assoc]
  exact this
theorem cells_spot {a : Addr} {n : Nat} {cs : List Value} (hn : 0 < n) (h : w.cells? base (a.add 0) n = some cs) : a.spot = none := by
  obtain ⟨_, hl, hi⟩ := World.cells?_some h
  have h0 := hi 0 hn
  rw [add_add, List.getElem?_eq_getElem (show 0 < cs.length by omega)] at h0
  exact cell_spot h0
theorem flat_get {α : Type} {f : α → List Value} {sz : Nat} : ∀ {L : List α}, (∀ a ∈ L, (f a).length = sz) → ∀ {k : Nat} {v : Value}, (L.flatMap f)[k]? = some v → 0 < sz ∧ ∃ (i : Nat) (hi : i < L.length) (j : Nat), j < sz ∧ k = i * sz + j ∧ (f L[i])[j]? = some v := by
  intro L
  induction L with
  | nil => intro _ k v h; simp at h
  | cons a L ih =>
    intro hl k v h
    have ha := hl a (by simp)
    rw [List.flatMap_cons] at h
    by_cases hk : k < sz
    · rw [List.getElem?_append_left (by omega)] at h
      exact ⟨by omega, 0, by simp, k, hk, by simp, h⟩
    · rw [List.getElem?_append_right (by omega), ha] at h
      obtain ⟨h0, i, hi, j, hj, e, hv⟩ := ih (fun b hb => hl b (by simp [hb])) h
      refine ⟨h0, i + 1, by simp; omega, j, hj, ?_, by simpa using hv⟩
      rw [Nat.add_mul]; omega
/-- A slice, element by element: 'f a' are an element's cells. -/
theorem open_rows {t e : TypeId} {fuel sz : Nat} {cs : List Value} {x : DataW H × List MemPlace} {α : Type} [Inhabited α] (f : α → List Value) (Pr : α → Prop) (ht : P.underlying t = some (.slice e)) (hsz : P.cellsOf e = sz) (hpos : 0 < sz)
    (hread : ∀ n cs' y, DataW.trod enc P w base spare held n e cs' = some y → ∃ a, cs' = f a ∧ Pr a) (h : DataW.trod enc P w base spare held fuel t cs = some x) :
    ∃ (b : Option Addr) (len cap : Nat) (L : List α), cs = [.slice b len cap] ∧ len ≤ cap ∧ cap ≤ maxLen ∧ L.length = len ∧ ArV (hpOf w) b (L.flatMap f) ∧ (∀ a ∈ L, (f a).length = sz) ∧ ∀ a ∈ L, Pr a := by
  rcases open_slice ht h with ⟨rfl, _⟩ | ⟨a, len, cap, m, n, D, Pl, rfl, hb, hl, hm, hmm, rfl, hx⟩
  · exact ⟨none, 0, 0, [], rfl, by omega, by omega, rfl, fun i v hv => by simp at hv, by simp, by simp⟩
  · have hlm : len ≤ m := by rw [hmm]; split <;> omega
    rw [hsz] at hx
    obtain ⟨F, hF⟩ := choose_lt (α := α) (n := m) (p := fun i y => w.cells? base (a.add (i * sz)) sz = some (f y) ∧ Pr y) (fun i hi => by
      obtain ⟨cs', h1, h2⟩ := hx i hi
      obtain ⟨y, rfl, hp⟩ := hread _ _ _ h2
      exact ⟨y, h1, hp⟩)
    have hlen : ∀ y ∈ (List.range len).map F, (f y).length = sz := by
      intro y hy
      obtain ⟨i, hi, rfl⟩ := List.mem_map.1 hy
      obtain ⟨h1, _⟩ := hF i (by have := List.mem_range.1 hi; omega)
      exact (World.cells?_some h1).2.1
    refine ⟨some a, len, cap, (List.range len).map F, rfl, hl, hm, by simp, ?_, hlen, ?_⟩
    · intro k v hk
      obtain ⟨_, i, hi, j, hj, rfl, hv⟩ := flat_get hlen hk
      simp only [List.length_map, List.length_range] at hi
      have hs : a.spot = none := by
        have := (hF 0 (by omega)).1
        rw [Nat.zero_mul] at this
        exact cells_spot hpos this
      simp only [List.getElem_map, List.getElem_range] at hv
      obtain ⟨_, hr⟩ := cells_rd hs (hF i (by omega)).1
      refine ⟨a.block, a.off, by cases a; simp only at hs; subst hs; rfl, ?_⟩
      rw [← Nat.add_assoc]
      exact hr j v hv
    · intro y hy
      obtain ⟨i, hi, rfl⟩ := List.mem_map.1 hy
      exact (hF i (by have := List.mem_range.1 hi; omega)).2
end
end Go.Hx
