/- From a call at a heap to what a given row asks. -/
import Derived.Test.YtiiglipmekeikaaHxArgs
import Derived.WalkKit
import Derived.ProofKit
import Derived.OpenShut
import Derived.ShutString
import Derived.ChangeOld
import Derived.Below
import Derived.SizedLaws
set_option linter.unusedVariables false
set_option linter.unusedSimpArgs false
namespace Go.Hx
open Go.Instr Go.RowKit

theorem Keep.below {W W' : World} (s : Sm W W') (k : Keep (hpOf W) (hpOf W')) : Below W.heap.size W W' := by
  have hb : ∀ i, i < W.heap.size → W'.heap[i]? = W.heap[i]? := by
    intro i hi
    have e : hpOf W i = some W.heap[i] := by
      show W.heap[i]? = _
      rw [Array.getElem?_eq_getElem hi]
    have := k i _ e
    show hpOf W' i = hpOf W i
    rw [this, e]
  refine ⟨s.os, s.tape, s.output, ?_, hb⟩
  by_cases h0 : W.heap.size = 0
  · omega
  · have h1 := hb (W.heap.size - 1) (by omega)
    rw [show W.heap[W.heap.size - 1]? = some (W.heap[W.heap.size - 1]'(by omega)) from Array.getElem?_eq_getElem (by omega)] at h1
    have := (Array.getElem?_eq_some_iff.1 h1).1
    omega
theorem CallK.row {P : Program} {f : FuncId} {args : List Value} {W : World} (hc : CallK P f args (hpOf W) fun v h' => v = .bool true ∧ Keep (hpOf W) h') :
    Calls P f args.toArray W fun e W' => e = .returned (.bool true) ∧ Below W.heap.size W W' :=
  (hc.2 W rfl).mono fun e W' ⟨v, h1, s, h2, k⟩ => ⟨by rw [h1, h2], Keep.below s k⟩
def IsRow (k : IntKind) (w : World) (a : Option Addr) (len cap : Nat) (zs : List Int) : Prop :=
  (a = none ∧ len = 0 ∧ cap = 0 ∧ zs = []) ∨
  ∃ x, a = some x ∧ len ≤ cap ∧ cap ≤ maxLen ∧ zs.length = cap ∧ (∀ i, i < zs.length → w.cell? (x.add i) = some (.int k (zs.getD i 0))) ∧ ∀ n ∈ zs, (Lit.int k n).wf = true
def valsOf (k : IntKind) (xs : List Int) : List Value := xs.map fun x => .int k x
theorem cell_rd {w : World} {x : Addr} {i : Nat} {v : Value} (h : w.cell? (x.add i) = some v) (hs : x.spot = none) : rd (hpOf w x.block) (x.off + i) = some v := by
  unfold World.cell? at h
  unfold Addr.add at h
  by_cases h0 : i = 0
  · subst h0
    simp only [if_true, Nat.add_zero] at h ⊢
    show rd (w.heap[x.block]?) x.off = some v
    split at h
    · rename_i c _ _ hc
      rw [hc]
      rw [hs] at h
      simpa [rd] using h
    · cases h
  · rw [if_neg h0] at h
    simp only at h
    show rd (w.heap[x.block]?) (x.off + i) = some v
    split at h
    · rename_i c _ _ hc
      rw [hc]
      simpa [rd] using h
    · cases h
theorem cell_spot {w : World} {x : Addr} {v : Value} (h : w.cell? (x.add 0) = some v) : x.spot = none := by
  unfold World.cell? at h
  unfold Addr.add at h
  simp only [if_true] at h
  split at h
  · split at h
    · cases h
    · rename_i hn
      simpa using hn
  · cases h
/-- A row of whole numbers, as what lies in memory. -/
theorem IsRow.ar {k : IntKind} {w : World} {a : Option Addr} {len cap : Nat} {zs : List Int} (h : IsRow k w a len cap zs) : ArV (hpOf w) a (valsOf k (zs.take len)) ∧ (zs.take len).length = len ∧ ∀ n ∈ zs.take len, (Lit.int k n).wf = true := by
  rcases h with ⟨rfl, rfl, rfl, rfl⟩ | ⟨x, rfl, h1, h2, h3, h4, h5⟩
  · exact ⟨fun i v hv => by simp [valsOf] at hv, rfl, fun n hn => by simp at hn⟩
  · refine ⟨fun i v hv => ?_, by simp; omega, fun n hn => h5 n (List.mem_of_mem_take hn)⟩
    simp only [valsOf, List.getElem?_map, Option.map_eq_some_iff] at hv
    obtain ⟨z, hz, rfl⟩ := hv
    have hil := (List.getElem?_eq_some_iff.1 hz).1
    simp only [List.length_take] at hil
    have hi : i < zs.length := by omega
    have hzz : zs.getD i 0 = z := by
      rw [List.getElem?_take_of_lt (by omega)] at hz
      rw [List.getD_eq_getElem?_getD, hz]; rfl
    have hs := cell_spot (h4 0 (by omega))
    have hr := cell_rd (h4 i hi) hs
    rw [hzz] at hr
    exact ⟨x.block, x.off, by cases x; simp only at hs; subst hs; rfl, hr⟩
end Go.Hx
