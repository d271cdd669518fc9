/- AlarmPlays: any calls do what they should. -/
import Derived.Test.YtiiglipmekeikaaA10
set_option linter.unusedVariables false
set_option linter.unusedSimpArgs false
namespace Go.Proofs.Ytiiglipmekeikaa
open Go.Hx

def cellsA (acts : List (Int × Int × Int)) : List Value := acts.flatMap fun p => [.int .i64 p.1, .int .i64 p.2.1, .int .i64 p.2.2]
theorem cellsA_get (L : List (Int × Int × Int)) : ∀ (i : Nat) (hi : i < L.length), (cellsA L)[i * 3]? = some (.int .i64 L[i].1) ∧ (cellsA L)[i * 3 + 1]? = some (.int .i64 L[i].2.1) ∧ (cellsA L)[i * 3 + 2]? = some (.int .i64 L[i].2.2) := by
  induction L with
  | nil => intro i hi; simp at hi
  | cons p L ih =>
    intro i hi
    cases i with
    | zero => exact ⟨rfl, rfl, rfl⟩
    | succ i =>
      have := ih i (by simpa using hi)
      have e : cellsA (p :: L) = .int .i64 p.1 :: .int .i64 p.2.1 :: .int .i64 p.2.2 :: cellsA L := rfl
      rw [e, show (i + 1) * 3 = i * 3 + 1 + 1 + 1 by omega]
      simpa using this
theorem arv_act {h : Hp} {base : Option Addr} {L : List (Int × Int × Int)} (ha : ArV h base (cellsA L)) {i : Nat} (hi : i < L.length) :
    ∃ b o, base = some ⟨b, o, none⟩ ∧ rd (h b) (o + i * 3) = some (.int .i64 L[i].1) ∧ rd (h b) (o + i * 3 + 1) = some (.int .i64 L[i].2.1) ∧ rd (h b) (o + i * 3 + 1 + 1) = some (.int .i64 L[i].2.2) := by
  obtain ⟨h1, h2, h3⟩ := cellsA_get L i hi
  obtain ⟨b, o, e, r1⟩ := ha _ _ h1
  obtain ⟨b', o', e', r2⟩ := ha _ _ h2
  obtain ⟨b'', o'', e'', r3⟩ := ha _ _ h3
  rw [e] at e' e''
  cases e'
  cases e''
  exact ⟨b, o, e, r1, by rw [Nat.add_assoc]; exact r2, by rw [show o + i * 3 + 1 + 1 = o + (i * 3 + 2) by omega]; exact r3⟩
/-- The clock, and the reference's list beside it. -/
structure PJ (h0 h : Hp) (c : Nat) (F : Nat → Prop) (b4 : Option Addr) (L : List (Int × Int)) (S : Al) : Prop where
  clk : Clk h c F S L.length
  ar : ArV h b4 (cellsL L)
  rep : Rep L S
  keep : Keep h0 h
  f0 : ∀ b, F b → h0 b = none
  dis : ∀ bb o, b4 = some ⟨bb, o, none⟩ → L ≠ [] → ¬ F bb
theorem PJ.ne {h0 h : Hp} {c : Nat} {F : Nat → Prop} {b4 : Option Addr} {L : List (Int × Int)} {S : Al} (j : PJ h0 h c F b4 L S) {bb o : Nat} (e : b4 = some ⟨bb, o, none⟩) (hL : L ≠ []) : h bb ≠ none := by
  obtain ⟨b', o', e', r1, r2⟩ := arv_al j.ar (List.length_pos_iff.2 hL)
  rw [e] at e'
  cases e'
  intro e
  rw [e] at r1; cases r1
/-- Only new memory: all stays. -/
theorem PJ.grow {h0 h h' : Hp} {c : Nat} {F : Nat → Prop} {b4 : Option Addr} {L : List (Int × Int)} {S : Al} (j : PJ h0 h c F b4 L S) (k : Keep h h') : PJ h0 h' c F b4 L S := by
  refine ⟨j.clk.frame fun b hb => ?_, j.ar.keep k, j.rep, j.keep.trans k, j.f0, j.dis⟩
  cases hx : h b with
  | none => exact absurd hx (j.clk.alloc hb)
  | some o => exact k b o hx
/-- The clock turned: the list's cells stay. -/
theorem PJ.cells {h0 h h' : Hp} {c : Nat} {F F' : Nat → Prop} {b4 : Option Addr} {L : List (Int × Int)} {S : Al} (j : PJ h0 h c F b4 L S) (s : Step F F' h h') : ArV h' b4 (cellsL L) ∧ ∀ bb o, b4 = some ⟨bb, o, none⟩ → L ≠ [] → ¬ F' bb := by
  refine ⟨?_, ?_⟩
  · by_cases hL : L = []
    · subst hL; intro i v hv; simp [cellsL] at hv
    · refine j.ar.frame fun b o e => ?_
      cases hx : h b with
      | none => exact absurd hx (j.ne e hL)
      | some x => exact s.1 b x hx (j.dis b o e hL)
  · intro bb o e hL f
    rcases s.2 bb f with f | f
    · exact j.dis bb o e hL f
    · exact j.ne e hL f
end Go.Proofs.Ytiiglipmekeikaa
