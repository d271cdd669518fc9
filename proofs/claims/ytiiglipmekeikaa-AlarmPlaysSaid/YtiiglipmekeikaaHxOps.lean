/- The model's operations over the heap alone: what each hands back, as a function of values. -/
import Derived.Test.YtiiglipmekeikaaHxCore
set_option linter.unusedVariables false
set_option linter.unusedSimpArgs false
namespace Go.Hx

/-! ### 1. What a program knows of its types -/
def aggD : TypeDesc → Bool
  | .struct _ | .array _ _ => true
  | _ => false
/-- Is it an aggregate; how many cells. -/
def tyK (P : Program) (t : TypeId) : Option (Bool × Nat) :=
  match P.info? t, P.underlying t with
  | some i, some d => some (aggD d, i.size)
  | _, _ => none
def zeroK (P : Program) (t : TypeId) : Option Value := (P.info? t).bind (·.zero)
def szK (P : Program) (t : TypeId) : Option Nat := (P.info? t).map (·.size)
def byK (P : Program) (t : TypeId) : Option Nat := (P.info? t).map (·.bytes)
/-- A field: its offset, is it an aggregate, its cells. -/
def fldK (P : Program) (s : TypeId) (f : Nat) : Option (Nat × Bool × Nat) :=
  match P.underlying s with
  | some (.struct fs) => match fs[f]? with
    | some fl => (tyK P fl.type).map fun k => (fl.offset, k)
    | none => none
  | _ => none
/-- A slice type's, or an array type's, element: its type, is it an aggregate, its cells; an array's length. -/
def elK (P : Program) (t : TypeId) : Option (Option Nat × TypeId × Bool × Nat) :=
  match P.underlying t with
  | some (.slice e) => (tyK P e).map fun k => (none, e, k)
  | some (.array n e) => (tyK P e).map fun k => (some n, e, k)
  | _ => none

section
variable (P : Program)
theorem hwp_underlying {t : TypeId} {d : TypeDesc} (hd : P.underlying t = some d) (Q : TypeDesc → Hp → Prop) (h : Hp) : hwp P (underlying t) Q h = Q d h := by
  unfold underlying
  rw [hwp_bind]
  simp only [program, hwp, hd]
  rfl
theorem hwp_typeInfo {t : TypeId} {i : TypeInfo} (hi : P.info? t = some i) (Q : TypeInfo → Hp → Prop) (h : Hp) : hwp P (typeInfo t) Q h = Q i h := by
  unfold typeInfo
  rw [hwp_bind]
  simp only [program, hwp, hi]
  rfl
theorem hwp_sizeOf {t : TypeId} {n : Nat} (hi : szK P t = some n) (Q : Nat → Hp → Prop) (h : Hp) : hwp P (Go.sizeOf t) Q h = Q n h := by
  unfold szK at hi
  cases he : P.info? t with
  | none => rw [he] at hi; cases hi
  | some i =>
    rw [he] at hi
    simp only [Option.map_some, Option.some.injEq] at hi
    unfold Go.sizeOf
    rw [hwp_bind, hwp_typeInfo P he, hi]
    rfl
theorem hwp_zeroValue {t : TypeId} {z : Value} (hz : zeroK P t = some z) (Q : Value → Hp → Prop) (h : Hp) : hwp P (zeroValue t) Q h = Q z h := by
  unfold zeroK at hz
  cases he : P.info? t with
  | none => rw [he] at hz; cases hz
  | some i =>
    rw [he] at hz
    simp only [Option.bind_some] at hz
    unfold zeroValue
    rw [hwp_bind, hwp_typeInfo P he, hz]
    rfl
theorem szK_of {t : TypeId} {b : Bool} {n : Nat} (hk : tyK P t = some (b, n)) : szK P t = some n := by
  unfold tyK at hk
  unfold szK
  cases hi : P.info? t with
  | none => rw [hi] at hk; simp at hk
  | some i =>
    cases hu : P.underlying t with
    | none => rw [hi, hu] at hk; simp at hk
    | some d => rw [hi, hu] at hk; simp at hk ⊢; exact hk.2
theorem hwp_isAgg {t : TypeId} {b : Bool} {n : Nat} (hk : tyK P t = some (b, n)) (Q : Bool → Hp → Prop) (h : Hp) : hwp P (isAgg t) Q h = Q b h := by
  unfold tyK at hk
  cases hi : P.info? t with
  | none => rw [hi] at hk; simp at hk
  | some i =>
    cases hu : P.underlying t with
    | none => rw [hi, hu] at hk; simp at hk
    | some d =>
      rw [hi, hu] at hk
      simp only [Option.some.injEq, Prod.mk.injEq] at hk
      unfold isAgg
      rw [hwp_bind, hwp_underlying P hu, ← hk.1]
      cases d <;> rfl
end

/-! ### 2. Values -/
def partV (k : Bool × Nat) (cs : Array Value) (off : Nat) : Option Value := if k.1 then some (.agg (cs.extract off (off + k.2))) else cs[off]?
theorem hwp_part (P : Program) {t : TypeId} {k : Bool × Nat} (hk : tyK P t = some k) {cs : Array Value} {off : Nat} {v : Value} (hv : partV k cs off = some v) (Q : Value → Hp → Prop) (h : Hp) :
    hwp P (part t cs off) Q h = Q v h := by
  obtain ⟨b, n⟩ := k
  unfold part
  rw [hwp_bind, hwp_isAgg P hk]
  unfold partV at hv
  cases b with
  | true =>
    simp only [if_true, Option.some.injEq] at hv
    simp only [if_true]
    rw [hwp_bind, hwp_sizeOf P (szK_of P hk)]
    subst hv
    rfl
  | false =>
    simp only [Bool.false_eq_true, if_false] at hv ⊢
    rw [hv]
    rfl
def fieldV (P : Program) (t : TypeId) (v : Value) (f : Nat) : Option Value :=
  match v with
  | .agg cs => match fldK P t f with
    | some (off, k) => partV k cs off
    | none => none
  | _ => none
theorem fldK_parts {P : Program} {s : TypeId} {f off : Nat} {k : Bool × Nat} (h : fldK P s f = some (off, k)) : ∃ fs fl, P.underlying s = some (.struct fs) ∧ fs[f]? = some fl ∧ fl.offset = off ∧ tyK P fl.type = some k := by
  unfold fldK at h
  split at h
  · rename_i fs hu
    split at h
    · rename_i fl hfl
      cases hk : tyK P fl.type with
      | none => rw [hk] at h; simp at h
      | some k' =>
        rw [hk] at h
        simp only [Option.map_some, Option.some.injEq, Prod.mk.injEq] at h
        exact ⟨fs, fl, hu, hfl, h.1, by rw [hk, h.2]⟩
    · cases h
  · cases h
theorem field_ok {P : Program} {t : TypeId} {v r : Value} {f : Nat} (hv : fieldV P t v f = some r) (Q : Value → Hp → Prop) (h : Hp) (hq : Q r h) : hwp P (Instr.field t v f) Q h := by
  unfold fieldV at hv
  split at hv
  · rename_i cs
    split at hv
    · rename_i off k hk
      obtain ⟨fs, fl, hu, hfl, ho, hty⟩ := fldK_parts hk
      unfold Instr.field
      rw [hwp_bind, hwp_underlying P hu]
      simp only [hfl, asAgg]
      rw [hwp_bind, hwp_pure, hwp_part P hty (by rw [ho]; exact hv)]
      exact hq
    · cases hv
  · cases hv
theorem add_addr (b o n : Nat) : (⟨b, o, none⟩ : Addr).add n = ⟨b, o + n, none⟩ := by
  unfold Addr.add
  split
  · rename_i h; subst h; rfl
  · rfl
def fieldAddrV (P : Program) (s : TypeId) (v : Value) (f : Nat) : Option Value :=
  match v with
  | .pointer (some ⟨b, o, none⟩) => match fldK P s f with
    | some (off, _, n) => if n = 0 then none else some (.pointer (some ⟨b, o + off, none⟩))
    | none => none
  | _ => none
theorem fieldAddr_ok {P : Program} {t : TypeId} {v r : Value} {f : Nat} (hv : fieldAddrV P t v f = some r) (Q : Value → Hp → Prop) (h : Hp) (hq : Q r h) : hwp P (Instr.fieldAt t v f) Q h := by
  unfold fieldAddrV at hv
  split at hv
  · rename_i b o
    split at hv
    · rename_i off ag n hk
      obtain ⟨fs, fl, hu, hfl, ho, hty⟩ := fldK_parts hk
      split at hv
      · cases hv
      · rename_i hn
        unfold Instr.fieldAt
        rw [hwp_bind, hwp_underlying P hu]
        simp only [hfl, Instr.sureAddr]
        rw [hwp_bind, hwp_pure, hwp_bind]
        unfold fieldPlace
        rw [hwp_bind, hwp_sizeOf P (szK_of P hty), if_neg hn, hwp_pure, hwp_pure, add_addr, ho]
        simp only [Option.some.injEq] at hv
        rw [hv]
        exact hq
    · cases hv
  · cases hv
def idxAddrV (P : Program) (t : TypeId) (x i : Value) : Option Value :=
  match elK P t, x, i with
  | some (none, _, _, sz), .slice (some ⟨b, o, none⟩) len _, .int _ j => if 0 ≤ j ∧ j < (len : Int) then some (.pointer (some ⟨b, o + j.toNat * sz, none⟩)) else none
  | some (some n, _, _, sz), .pointer (some ⟨b, o, none⟩), .int _ j => if 0 ≤ j ∧ j < (n : Int) then some (.pointer (some ⟨b, o + j.toNat * sz, none⟩)) else none
  | _, _, _ => none
theorem elK_slice {P : Program} {t e : TypeId} {k : Bool × Nat} (h : elK P t = some (none, e, k)) : P.underlying t = some (.slice e) ∧ tyK P e = some k := by
  unfold elK at h
  split at h
  · rename_i e' hu
    cases hk : tyK P e' with
    | none => rw [hk] at h; simp at h
    | some k' => rw [hk] at h; simp at h; obtain ⟨rfl, rfl⟩ := h; exact ⟨hu, hk⟩
  · rename_i n e' hu
    cases hk : tyK P e' with
    | none => rw [hk] at h; simp at h
    | some k' => rw [hk] at h; simp at h
  · cases h
theorem elK_array {P : Program} {t e : TypeId} {n : Nat} {k : Bool × Nat} (h : elK P t = some (some n, e, k)) : P.underlying t = some (.array n e) ∧ tyK P e = some k := by
  unfold elK at h
  split at h
  · rename_i e' hu
    cases hk : tyK P e' with
    | none => rw [hk] at h; simp at h
    | some k' => rw [hk] at h; simp at h
  · rename_i n' e' hu
    cases hk : tyK P e' with
    | none => rw [hk] at h; simp at h
    | some k' => rw [hk] at h; simp at h; obtain ⟨rfl, rfl, rfl⟩ := h; exact ⟨hu, hk⟩
  · cases h
theorem idxAddr_ok {P : Program} {t : TypeId} {x i r : Value} (hv : idxAddrV P t x i = some r) (Q : Value → Hp → Prop) (h : Hp) (hq : Q r h) : hwp P (Instr.indexAt t x i) Q h := by
  unfold idxAddrV at hv
  split at hv
  · rename_i e ag sz b o len cap k j hk
    obtain ⟨hu, hty⟩ := elK_slice hk
    split at hv
    · rename_i hj
      simp only [Option.some.injEq] at hv
      unfold Instr.indexAt
      simp only [asIntOf, hwp_bind, hwp_pure, hwp_underlying P hu, hj, and_self, if_true, hwp_sizeOf P (szK_of P hty), add_addr]
      rw [hv]
      exact hq
    · cases hv
  · rename_i n e ag sz b o k j hk
    obtain ⟨hu, hty⟩ := elK_array hk
    split at hv
    · rename_i hj
      simp only [Option.some.injEq] at hv
      unfold Instr.indexAt
      simp only [asIntOf, hwp_bind, hwp_pure, hwp_underlying P hu, Instr.sureAddr, hj, and_self, if_true, hwp_sizeOf P (szK_of P hty), add_addr]
      rw [hv]
      exact hq
    · cases hv
  · cases hv
def idxV (P : Program) (t : TypeId) (x i : Value) : Option Value :=
  match P.underlying t, x, i with
  | some .string, .string s, .int _ j => if 0 ≤ j then (s[j.toNat]?).map fun b => .int .u8 b.toNat else none
  | some (.array n e), .agg cs, .int _ j => match tyK P e with
    | some k => if 0 ≤ j ∧ j < (n : Int) then partV k cs (j.toNat * k.2) else none
    | none => none
  | _, _, _ => none
theorem idx_ok {P : Program} {t : TypeId} {x i r : Value} (hv : idxV P t x i = some r) (Q : Value → Hp → Prop) (h : Hp) (hq : Q r h) : hwp P (Instr.index t x i) Q h := by
  unfold idxV at hv
  split at hv
  · rename_i s k j hu
    split at hv
    · rename_i hj
      unfold Instr.index
      rw [hwp_bind]
      simp only [asIntOf]
      rw [hwp_pure, hwp_bind, hwp_underlying P hu]
      simp only [hj, if_true]
      cases hs : s[j.toNat]? with
      | none => rw [hs] at hv; cases hv
      | some b => rw [hs] at hv; simp only [Option.map_some, Option.some.injEq] at hv; subst hv; exact hq
    · cases hv
  · rename_i n e cs k j hu
    split at hv
    · rename_i kk hk
      split at hv
      · rename_i hj
        unfold Instr.index
        rw [hwp_bind]
        simp only [asIntOf]
        rw [hwp_pure, hwp_bind, hwp_underlying P hu]
        simp only [hj, and_self, if_true]
        rw [hwp_bind, hwp_sizeOf P (szK_of P (n := kk.2) hk), hwp_part P hk hv]
        exact hq
      · cases hv
    · cases hv
  · cases hv

/-! ### 3. Loads and stores -/
def rdN (o : Option Obj) (off : Nat) : Nat → Option (List Value)
  | 0 => some []
  | n + 1 => match rd o off with
    | some v => match rdN o (off + 1) n with
      | some l => some (v :: l)
      | none => none
    | none => none
def loadV (P : Program) (t : TypeId) (v : Value) (h : Hp) : Option Value :=
  match v with
  | .pointer (some ⟨b, o, none⟩) => match tyK P t with
    | some (false, _) => rd (h b) o
    | some (true, n) => match rdN (h b) o n with
      | some l => some (.agg l.toArray)
      | none => none
    | none => none
  | _ => none
theorem cellH_plain (h : Hp) (b o : Nat) : cellH h ⟨b, o, none⟩ = rd (h b) o := rfl
theorem loadCells_ok (P : Program) (b o : Nat) (h : Hp) (Q : Array Value → Hp → Prop) : ∀ (n i : Nat) (acc : Array Value) (l : List Value), rdN (h b) (o + i) n = some l → Q (acc ++ l.toArray) h → hwp P (loadCellsFrom ⟨b, o, none⟩ i n acc) Q h := by
  intro n
  induction n with
  | zero =>
    intro i acc l hl hq
    simp only [rdN, Option.some.injEq] at hl
    subst hl
    simpa [loadCellsFrom, hwp_pure] using hq
  | succ n ih =>
    intro i acc l hl hq
    simp only [rdN] at hl
    split at hl
    · rename_i v hv
      split at hl
      · rename_i l' hl'
        simp only [Option.some.injEq] at hl
        subst hl
        unfold loadCellsFrom
        rw [hwp_bind]
        refine ⟨v, ?_, ?_⟩
        · rw [add_addr, cellH_plain]; exact hv
        · refine ih (i + 1) (acc.push v) l' ?_ ?_
          · rw [← hl', Nat.add_assoc]
          · simpa using hq
      · cases hl
    · cases hl
theorem load_ok {P : Program} {t : TypeId} {v r : Value} {h : Hp} (hv : loadV P t v h = some r) (Q : Value → Hp → Prop) (hq : Q r h) : hwp P (Instr.loadAt t v) Q h := by
  unfold loadV at hv
  split at hv
  · rename_i b o
    unfold Instr.loadAt
    rw [hwp_bind]
    simp only [Instr.sureAddr]
    rw [hwp_pure]
    unfold loadVar
    split at hv
    · rename_i n hk
      rw [hwp_bind, hwp_isAgg P hk]
      exact ⟨r, hv, hq⟩
    · rename_i n hk
      rw [hwp_bind, hwp_isAgg P hk]
      simp only [if_true]
      rw [hwp_bind, hwp_sizeOf P (szK_of P hk), hwp_bind]
      split at hv
      · rename_i l hl
        simp only [Option.some.injEq] at hv
        refine loadCells_ok P b o h _ n 0 #[] l hl ?_
        rw [hwp_pure, Array.empty_append, hv]
        exact hq
      · cases hv
    · cases hv
  · cases hv
def unfr (fr : Nat × Nat) (off n : Nat) : Bool := fr.2 ≤ fr.1 || fr.2 ≤ off || off + n ≤ fr.1
def wrL (c : Array Value) (off : Nat) : List Value → Array Value
  | [] => c
  | v :: vs => wrL (c.setIfInBounds off v) (off + 1) vs
def stO : Option Obj → Nat → List Value → Option Obj
  | some (.cells c e fr), off, vs => if vs.all oneC && unfr fr off vs.length && decide (off + vs.length ≤ c.size) then some (.cells (wrL c off vs) e fr) else none
  | _, _, _ => none
def storeV (P : Program) (t : TypeId) (v x : Value) (h : Hp) : Option Hp :=
  match v with
  | .pointer (some ⟨b, o, none⟩) => if szK P t = some x.cells.size then match stO (h b) o x.cells.toList with
      | some ob => some (upd h b ob)
      | none => none
    else none
  | _ => none
theorem setH_upd {h : Hp} {b o : Nat} {v : Value} {c : Array Value} {e : TypeId} {fr : Nat × Nat} (hb : h b = some (.cells c e fr)) : setH h ⟨b, o, none⟩ v = upd h b (.cells (c.setIfInBounds o v) e fr) := by
  funext i
  unfold setH upd
  split
  · rename_i hi; subst hi; rw [hb]; rfl
  · rfl
theorem storeCells_ok (P : Program) (b o : Nat) (e : TypeId) (fr : Nat × Nat) (Q : Unit → Hp → Prop) : ∀ (vs : List Value) (i : Nat) (h : Hp) (c : Array Value), h b = some (.cells c e fr) → vs.all oneC = true → unfr fr (o + i) vs.length = true → o + i + vs.length ≤ c.size →
    Q () (upd h b (.cells (wrL c (o + i) vs) e fr)) → hwp P (storeCells ⟨b, o, none⟩ vs i) Q h := by
  intro vs
  induction vs with
  | nil =>
    intro i h c hb _ _ _ hq
    have : upd h b (.cells (wrL c (o + i) []) e fr) = h := by
      funext j; unfold upd wrL; split
      · rename_i hj; subst hj; exact hb.symm
      · rfl
    rw [this] at hq
    unfold storeCells
    exact hq
  | cons v vs ih =>
    intro i h c hb h1 h2 h3 hq
    simp only [List.all_cons, Bool.and_eq_true] at h1
    simp only [List.length_cons] at h2 h3
    unfold storeCells
    rw [hwp_bind]
    have hfr : frz (h b) (o + i) = false := by
      rw [hb]
      simp only [frz]
      simp only [unfr, Bool.or_eq_true, decide_eq_true_eq] at h2
      simp only [Bool.and_eq_false_iff, decide_eq_false_iff_not]
      omega
    refine ⟨h1.1, ⟨c[o + i]'(by omega), ?_⟩, ?_, ?_⟩
    · rw [add_addr, cellH_plain, hb]; simp only [rd]; rw [Array.getElem?_eq_getElem]
    · rw [add_addr]; exact hfr
    · rw [add_addr, setH_upd hb]
      show hwp P (storeCells ⟨b, o, none⟩ vs (i + 1)) Q _
      refine ih (i + 1) _ (c.setIfInBounds (o + i) v) (upd_same ..) h1.2 ?_ ?_ ?_
      · simp only [unfr, Bool.or_eq_true, decide_eq_true_eq] at h2 ⊢; omega
      · simp; omega
      · rw [upd_upd]; exact hq
theorem store_ok {P : Program} {t : TypeId} {v x : Value} {h h' : Hp} (hv : storeV P t v x h = some h') (Q : Unit → Hp → Prop) (hq : Q () h') : hwp P (Instr.storeAt t v x) Q h := by
  unfold storeV at hv
  split at hv
  · rename_i b o
    split at hv
    · rename_i hs
      split at hv
      · rename_i ob hob
        simp only [Option.some.injEq] at hv
        subst hv
        unfold Instr.storeAt
        rw [hwp_bind]
        simp only [Instr.sureAddr]
        rw [hwp_pure]
        unfold storeVar
        rw [hwp_bind, hwp_sizeOf P hs]
        simp only [ne_eq, not_true_eq_false, if_false]
        cases hb : h b with
        | none => rw [hb] at hob; simp [stO] at hob
        | some q =>
          rw [hb] at hob
          cases q <;> simp only [stO] at hob <;> first | (cases hob; done) | skip
          rename_i c e fr
          split at hob
          · rename_i hc
            simp only [Option.some.injEq] at hob
            subst hob
            simp only [Bool.and_eq_true, decide_eq_true_eq] at hc
            exact storeCells_ok P b o e fr Q _ 0 h c hb hc.1.1 hc.1.2 hc.2 hq
          · cases hob
      · cases hv
    · cases hv
  · cases hv
end Go.Hx
