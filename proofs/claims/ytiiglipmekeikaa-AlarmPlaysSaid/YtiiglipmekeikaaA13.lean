/- AlarmPlays' parameter, read. -/
import Derived.Test.YtiiglipmekeikaaA12
import Derived.Test.YtiiglipmekeikaaHxRead
set_option linter.unusedVariables false
set_option linter.unusedSimpArgs false
namespace Go.Proofs.Ytiiglipmekeikaa
open Go.Hx Go.ChangeShapes Go.WideShapes

def encA (a : Int × Int × Int) : List Value := [.int .i64 a.1, .int .i64 a.2.1, .int .i64 a.2.2]
theorem rd_acts {H : Type} {enc : TypeId × Value → H} {W : World} {base : Nat} {v : Value} {d : DataW H} {p : List MemPlace} (hv : Value.okWide Try.prog W .any base 37 v) (h : DataW.Trod enc Try.prog W 0 (fun _ => true) true 37 v d p) :
    ∃ x : Option Addr × Nat × List (Int × Int × Int), v = .slice x.1 x.2.2.length x.2.1 ∧ ArV (hpOf W) x.1 (cellsA x.2.2) ∧ x.2.2.length < 2 ^ 63 := by
  obtain ⟨a, len, cap, rfl⟩ := okWide_slice Try.underlying37 hv
  obtain ⟨fuel, hf⟩ := h
  obtain ⟨b, len', cap', L, hcs, hl, hm, hL, har, _, _⟩ := open_rows encA (fun _ => True) Try.underlying37 (cellsOf_tyK tyK_40) (by omega) (fun n cs' y hy => by
    obtain ⟨_, _, rfl, ⟨x, rfl, _⟩, _, _, rfl, ⟨y, rfl, _⟩, _, _, rfl, ⟨z, rfl, _⟩, rfl⟩ := (plain_read 40).2.1 40 _ _ _ _ (show plainK Try.prog 40 40 = some [.i .i64, .i .i64, .i .i64] by kernel_rfl) hy
    exact ⟨(x, y, z), rfl, trivial⟩) hf
  simp only [Value.cells, List.cons.injEq, Value.slice.injEq, and_true] at hcs
  obtain ⟨rfl, rfl, rfl⟩ := hcs
  refine ⟨(a, cap, L), by simp only [hL], har, ?_⟩
  have : maxLen = 2 ^ 63 - 1 := rfl
  simp only
  omega
theorem plays_walk (h : Hp) (x : Option Addr × Nat × List (Int × Int × Int)) (hx : ArV h x.1 (cellsA x.2.2) ∧ x.2.2.length < 2 ^ 63) : CallK Try.prog 5 [.slice x.1 x.2.2.length x.2.1] h fun v h' => v = .bool true ∧ Keep h h' := plays_ok hx.1 hx.2
end Go.Proofs.Ytiiglipmekeikaa
