/- Slices that are only read; what a whole law keeps; a few words on bits. -/
import Derived.Test.YtiiglipmekeikaaHxMaps
set_option linter.unusedVariables false
set_option linter.unusedSimpArgs false
namespace Go.Hx
open Go.Instr

/-- What lay in memory lies there still. -/
def Keep (h h' : Hp) : Prop := ∀ b o, h b = some o → h' b = some o
theorem Keep.refl (h : Hp) : Keep h h := fun _ _ e => e
theorem Keep.trans {h h' h'' : Hp} (k1 : Keep h h') (k2 : Keep h' h'') : Keep h h'' := fun b o e => k2 b o (k1 b o e)
theorem Keep.none {h h' : Hp} (k : Keep h h') {b : Nat} (e : h' b = .none) : h b = .none := by
  cases hb : h b with
  | none => rfl
  | some o => rw [k b o hb] at e; cases e
theorem Keep.upd {h h' : Hp} (k : Keep h h') {b : Nat} (hb : h b = .none) (o : Obj) : Keep h (upd h' b o) := by
  intro c oc e
  rw [upd_ne _ _ _ (by rintro rfl; rw [hb] at e; cases e)]
  exact k c oc e
/-- Cells that lie in memory, one behind the other. -/
def ArV (h : Hp) (base : Option Addr) (vs : List Value) : Prop := ∀ i v, vs[i]? = some v → ∃ b o, base = some ⟨b, o, none⟩ ∧ rd (h b) (o + i) = some v
theorem ArV.keep {h h' : Hp} {base : Option Addr} {vs : List Value} (ha : ArV h base vs) (k : Keep h h') : ArV h' base vs := by
  intro i v hv
  obtain ⟨b, o, e, hr⟩ := ha i v hv
  refine ⟨b, o, e, ?_⟩
  cases hb : h b with
  | none => rw [hb] at hr; cases hr
  | some x => rw [k b x hb, ← hb]; exact hr
/-- The blocks that the cells lie in. -/
theorem ArV.frame {h h' : Hp} {base : Option Addr} {vs : List Value} (ha : ArV h base vs) (k : ∀ b o, base = some ⟨b, o, none⟩ → h' b = h b) : ArV h' base vs := by
  intro i v hv
  obtain ⟨b, o, e, hr⟩ := ha i v hv
  exact ⟨b, o, e, by rw [k b o e]; exact hr⟩
theorem Own.ar {h : Hp} {e sz n m : Nat} {base : Option Addr} {cap : Nat} {xs : List Value} {ob : Option Nat} (ho : Own h e sz (.slice base m cap) n xs ob) : ArV h base xs ∧ m = n ∧ ∀ b o, base = some ⟨b, o, none⟩ → ob = some b := by
  cases ob with
  | none =>
    obtain ⟨e1, e2, e3⟩ := ho
    cases e1
    subst e2; subst e3
    exact ⟨fun i v hv => by simp at hv, rfl, fun b o e => by cases e⟩
  | some b =>
    obtain ⟨cap', cs, e1, h1, h2, h3, h4, h5⟩ := ho
    cases e1
    refine ⟨fun i v hv => ⟨b, 0, rfl, ?_⟩, rfl, fun b' o e => by cases e; rfl⟩
    rw [h1, Nat.zero_add]
    show cs[i]? = some v
    have hi := (List.getElem?_eq_some_iff.1 hv).1
    rw [← h5, List.getElem?_take_of_lt (by omega), Array.getElem?_toList] at hv
    exact hv
def ints (xs : List Int) : List Value := xs.map fun x => .int .i64 x
theorem ArV.int {h : Hp} {base : Option Addr} {xs : List Int} (ha : ArV h base (ints xs)) {i : Nat} (hi : i < xs.length) : ∃ b o, base = some ⟨b, o, none⟩ ∧ rd (h b) (o + i) = some (.int .i64 xs[i]) := ha i _ (by simp [ints, hi])
theorem SemK.min2i {P : Program} {ts : Array TypeId} {t : TypeId} {k k' : IntKind} {x y : Int} {h : Hp} {K : Value → Hp → Prop} (hk : K (.int k (if y < x then y else x)) h) : SemK P (Builtin.min_ ts t #[.int k x, .int k' y]) h K := by
  show hwp P (Builtin.min2 (.int k x) (.int k' y) >>= fun s => pure s) K h
  rw [hwp_bind]
  exact hk
theorem SemK.max2i {P : Program} {ts : Array TypeId} {t : TypeId} {k k' : IntKind} {x y : Int} {h : Hp} {K : Value → Hp → Prop} (hk : K (.int k (if y > x then y else x)) h) : SemK P (Builtin.max_ ts t #[.int k x, .int k' y]) h K := by
  show hwp P (Builtin.max2 (.int k x) (.int k' y) >>= fun s => pure s) K h
  rw [hwp_bind]
  exact hk
theorem and_i64 (x : Int) (y : Nat) (hy : y < 2 ^ 62) : ∃ r : Nat, r ≤ y ∧ andI .i64 x (y : Int) = (r : Int) := by
  have h1 : (BitVec.ofInt 64 x &&& BitVec.ofInt 64 (y : Int)).toNat ≤ y := by
    rw [BitVec.toNat_and]
    have : (BitVec.ofInt 64 (y : Int)).toNat = y := by
      rw [BitVec.toNat_ofInt]
      omega
    rw [this]
    exact Nat.and_le_right
  refine ⟨_, h1, ?_⟩
  unfold andI
  exact wrap_i64 (by omega) (by show ((BitVec.ofInt 64 x &&& BitVec.ofInt 64 (y : Int)).toNat : Int) ≤ _; omega)
end Go.Hx
