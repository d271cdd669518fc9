/- The model's operations over the heap alone: maps, lengths, cuts, what makes memory, calls. -/
import Derived.Test.YtiiglipmekeikaaHxOps2
set_option linter.unusedVariables false
set_option linter.unusedSimpArgs false
namespace Go.Hx
open Go.Instr

/-! ### 1. Maps -/
theorem bytes_beq (a b : ByteArray) : (a == b) = true ↔ a = b := by
  obtain ⟨a⟩ := a
  obtain ⟨b⟩ := b
  show (a == b) = true ↔ _
  rw [beq_iff_eq, ByteArray.mk.injEq]
theorem getObj_ok {P : Program} {r : Nat} {o : Obj} {h : Hp} (hr : h r = some o) (hn : isRow o = false) {Q : Obj → Hp → Prop} (hq : Q o h) : hwp P (getObj r) Q h := ⟨o, hr, hn, hq⟩
def plainKey : TypeDesc → Bool
  | .int _ | .string | .bool => true
  | _ => false
/-- A map type: what kind its keys are of; its elements' type. -/
def mapK (P : Program) (t : TypeId) : Option (TypeDesc × TypeId) :=
  match P.underlying t with
  | some (.map kt et) => match P.underlying kt with
    | some kd => if plainKey kd then some (kd, et) else none
    | none => none
  | _ => none
theorem mapK_parts {P : Program} {t : TypeId} {kd : TypeDesc} {et : TypeId} (hk : mapK P t = some (kd, et)) : ∃ kt, P.underlying t = some (.map kt et) ∧ P.underlying kt = some kd ∧ plainKey kd = true := by
  unfold mapK at hk
  split at hk
  · rename_i kt et' hu
    split at hk
    · rename_i kd' hu'
      split at hk
      · rename_i hp
        simp only [Option.some.injEq, Prod.mk.injEq] at hk
        obtain ⟨rfl, rfl⟩ := hk
        exact ⟨kt, hu, hu', hp⟩
      · cases hk
    · cases hk
  · cases hk
theorem checkKey_ok {P : Program} {kt : TypeId} {kd : TypeDesc} (hu : P.underlying kt = some kd) (hp : plainKey kd = true) {b : Bool} {v : Value} {Q : Unit → Hp → Prop} {h : Hp} (hq : Q () h) : hwp P (checkKey b 10000 kt v) Q h := by
  show hwp P (checkKey b (9999 + 1) kt v) Q h
  unfold checkKey
  simp only [hwp_bind, hwp_underlying P hu]
  cases kd <;> first | (simp [plainKey] at hp; done) | exact hq
theorem findKey_ok {P : Program} {kt : TypeId} {kd : TypeDesc} (hu : P.underlying kt = some kd) {k : Value} {es : List MapEntry} {r : Option (Nat × Value)} (hr : findNow kd k es 0 = some r) {Q : Option (Nat × Value) → Hp → Prop} {h : Hp} (hq : Q r h) :
    hwp P (findKey kt k es) Q h := by
  unfold findKey
  rw [hwp_bind, hwp_underlying P hu, hr]
  exact hq
/-- A map's entries. -/
def entsO : Option Obj → Option (List MapEntry)
  | some (.map es _) => some es.toList
  | _ => none
def entsV (m : Value) (h : Hp) : Option (List MapEntry) :=
  match m with
  | .map none => some []
  | .map (some r) => entsO (h r)
  | _ => none
def hitV (z : Value) (ok : Bool) : Option (Nat × Value) → Value
  | some (_, v) => if ok then .tuple #[v, .bool true] else v
  | none => if ok then .tuple #[z, .bool false] else z
def lookupV (P : Program) (t : TypeId) (m k : Value) (ok : Bool) (h : Hp) : Option Value :=
  match mapK P t, entsV m h with
  | some (kd, et), some es => match findNow kd k es 0, zeroK P et with
    | some r, some z => some (hitV z ok r)
    | _, _ => none
  | _, _ => none
theorem lookup_ok {P : Program} {t : TypeId} {m k r : Value} {ok : Bool} {h : Hp} (hv : lookupV P t m k ok h = some r) (Q : Value → Hp → Prop) (hq : Q r h) : hwp P (Instr.lookup t m k ok) Q h := by
  unfold lookupV at hv
  split at hv
  · rename_i kd et es hk he
    obtain ⟨kt, hu, hu', hp⟩ := mapK_parts hk
    split at hv
    · rename_i x z hf hz
      simp only [Option.some.injEq] at hv
      subst hv
      unfold Instr.lookup
      simp only [hwp_bind, hwp_underlying P hu]
      have rest : ∀ es' : Array MapEntry, es'.toList = es → hwp P (checkKey es'.isEmpty 10000 kt k) (fun a h' => hwp P (findKey kt k es'.toList) (fun a h' => hwp P (match a with
            | some (_, v) => do
              let __x ← pure (v, true)
              pure (if ok = true then Value.tuple #[__x.1, .bool __x.2] else __x.1)
            | none => do
              let __x ← zeroValue et
              let __x ← pure (__x, false)
              pure (if ok = true then Value.tuple #[__x.1, .bool __x.2] else __x.1)) Q h') h') h := by
        intro es' he'
        refine checkKey_ok hu' hp (findKey_ok hu' (by rw [he']; exact hf) ?_)
        cases x with
        | none => simp only [hwp_bind, hwp_zeroValue P hz, hwp_pure]; exact hq
        | some p => exact hq
      unfold entsV at he
      split at he
      · simp only [Option.some.injEq] at he
        have := rest #[] he
        simp only [hwp_bind, hwp_pure] at this ⊢
        exact this
      · rename_i r'
        unfold entsO at he
        split at he
        · rename_i es' ck hr
          simp only [Option.some.injEq] at he
          have := rest es' he
          simp only [hwp_bind, hwp_pure] at this ⊢
          refine getObj_ok hr rfl ?_
          simp only [hwp_bind, hwp_pure]
          exact this
        · cases he
      · cases he
    · cases hv
  · cases hv
def updE (es : Array MapEntry) (k v : Value) (ck : Nat) : Option (Nat × Value) → Obj
  | some (i, _) => .map (es.modify i fun e => { e with key := k, val := v }) ck
  | none => .map (es.push { key := k, val := v, born := ck }) (ck + 1)
def mapSetV (P : Program) (t : TypeId) (m k v : Value) (h : Hp) : Option Hp :=
  match mapK P t, m with
  | some (kd, _), .map (some r) => match h r with
    | some (.map es ck) => match findNow kd k es.toList 0 with
      | some x => some (upd h r (updE es k v ck x))
      | none => none
    | _ => none
  | _, _ => none
theorem sameBits_refl_of_sameNow {kd : TypeDesc} {k k' : Value} (hp : plainKey kd = true) (hs : sameNow kd k k' = some true) : sameBits 10000 k' k = true := by
  unfold sameNow at hs
  split at hs
  · split at hs
    · rename_i h1 h2 h3 h4 h5
      subst h5
      simp only [Option.some.injEq, beq_iff_eq] at hs
      subst hs
      simp [sameBits]
    · cases hs
  · simp only [Option.some.injEq, bytes_beq] at hs
    subst hs
    simp [sameBits, bytes_beq]
  · simp only [Option.some.injEq, beq_iff_eq] at hs
    subst hs
    simp [sameBits]
  · cases hs
theorem findNow_some {kd : TypeDesc} {k : Value} : ∀ (es : List MapEntry) (i j : Nat) (v : Value), findNow kd k es i = some (some (j, v)) → ∃ e, es[j - i]? = some e ∧ i ≤ j ∧ e.val = v ∧ sameNow kd k e.key = some true := by
  intro es
  induction es with
  | nil => intro i j v h; simp [findNow] at h
  | cons e es ih =>
    intro i j v h
    simp only [findNow] at h
    split at h
    · rename_i hs
      simp only [Option.some.injEq, Prod.mk.injEq] at h
      obtain ⟨rfl, rfl⟩ := h
      exact ⟨e, by simp, Nat.le_refl _, rfl, hs⟩
    · obtain ⟨e', h1, h2, h3, h4⟩ := ih _ _ _ h
      refine ⟨e', ?_, by omega, h3, h4⟩
      rw [show j - i = (j - (i + 1)) + 1 by omega, List.getElem?_cons_succ]
      exact h1
    · cases h
theorem sameNow_symm {kd : TypeDesc} {k k' : Value} (hs : sameNow kd k k' = some true) : k = k' := by
  unfold sameNow at hs
  split at hs
  · split at hs
    · rename_i h5
      simp only [Option.some.injEq, beq_iff_eq] at hs
      rw [hs, h5]
    · cases hs
  · simp only [Option.some.injEq, bytes_beq] at hs
    rw [hs]
  · simp only [Option.some.injEq, beq_iff_eq] at hs
    rw [hs]
  · cases hs
theorem mapSet_ok {P : Program} {t : TypeId} {m k v : Value} {h h' : Hp} (hv : mapSetV P t m k v h = some h') (Q : Unit → Hp → Prop) (hq : Q () h') : hwp P (Instr.mapUpdate t m k v) Q h := by
  unfold mapSetV at hv
  split at hv
  · rename_i kd et r hk
    obtain ⟨kt, hu, hu', hp⟩ := mapK_parts hk
    split at hv
    · rename_i es ck hr
      split at hv
      · rename_i x hf
        simp only [Option.some.injEq] at hv
        subst hv
        unfold Instr.mapUpdate
        simp only [hwp_bind, hwp_underlying P hu]
        refine getObj_ok hr rfl ?_
        simp only [hwp_bind]
        refine checkKey_ok hu' hp ?_
        refine findKey_ok hu' hf ?_
        cases x with
        | none => exact ⟨⟨_, hr, rfl⟩, hq⟩
        | some p =>
          obtain ⟨i, v0⟩ := p
          obtain ⟨e, h1, _, _, h4⟩ := findNow_some _ _ _ _ hf
          simp only [hwp_bind]
          have he : es[i]? = some e := by simpa using h1
          have hk' := sameNow_symm h4
          unfold keyThatStays
          simp only [he, Option.map_some, Option.getD_some]
          refine hwp_ite ?_ ?_
          · exact ⟨⟨_, hr, rfl⟩, hq⟩
          · rw [hwp_bind]
            intro n hn
            have : (if n = 0 then k else e.key) = k := by split <;> simp [hk']
            show hwp P (setObj r (Obj.map (es.modify i fun e' => { key := (if n = 0 then k else e.key), val := v, born := e'.born }) ck)) Q h
            rw [this]
            exact ⟨⟨_, hr, rfl⟩, hq⟩
      · cases hv
    · cases hv
  · cases hv
def delE (es : Array MapEntry) (ck : Nat) : Option (Nat × Value) → Obj
  | some (i, _) => .map (es.eraseIdxIfInBounds i) ck
  | none => .map es ck
def mapDelV (P : Program) (t : TypeId) (m k : Value) (h : Hp) : Option Hp :=
  match mapK P t, m with
  | some _, .map none => some h
  | some (kd, _), .map (some r) => match h r with
    | some (.map es ck) => match findNow kd k es.toList 0 with
      | some x => some (upd h r (delE es ck x))
      | none => none
    | _ => none
  | _, _ => none
theorem mapDel_ok {P : Program} {t ty : TypeId} {ts : Array TypeId} {m k : Value} {args : Array Value} {h h' : Hp} (ht : ts[0]? = some t) (hm : args[0]? = some m) (ha : args[1]? = some k) (hv : mapDelV P t m k h = some h') (Q : Value → Hp → Prop) (hq : Q (.tuple #[]) h') :
    hwp P (Builtin.delete_ ts ty args) Q h := by
  unfold mapDelV at hv
  unfold Builtin.delete_
  simp only [ht, hm, ha]
  split at hv
  · rename_i k0 hk
    obtain ⟨kd, et⟩ := k0
    obtain ⟨kt, hu, hu', hp⟩ := mapK_parts hk
    simp only [Option.some.injEq] at hv
    subst hv
    simp only [hwp_bind, hwp_underlying P hu]
    exact checkKey_ok hu' hp hq
  · rename_i kd et r hk
    obtain ⟨kt, hu, hu', hp⟩ := mapK_parts hk
    split at hv
    · rename_i es ck hr
      split at hv
      · rename_i x hf
        simp only [Option.some.injEq] at hv
        subst hv
        simp only [hwp_bind, hwp_underlying P hu]
        refine getObj_ok hr rfl ?_
        simp only [hwp_bind]
        refine checkKey_ok hu' hp ?_
        refine findKey_ok hu' hf ?_
        cases x with
        | none => exact ⟨⟨_, hr, rfl⟩, hq⟩
        | some p => exact ⟨⟨_, hr, rfl⟩, hq⟩
      · cases hv
    · cases hv
  · cases hv

/-! ### 2. Lengths, cuts -/
def lenV (P : Program) (t : TypeId) (x : Value) (h : Hp) : Option Value :=
  match P.underlying t, x with
  | some .string, .string s => some (.int .i64 s.size)
  | some (.array n _), _ => some (.int .i64 n)
  | some (.slice _), .slice _ n _ => some (.int .i64 n)
  | some (.map _ _), .map none => some (.int .i64 0)
  | some (.map _ _), .map (some r) => match entsO (h r) with
    | some es => some (.int .i64 es.length)
    | none => none
  | _, _ => none
theorem len_ok {P : Program} {t ty : TypeId} {ts : Array TypeId} {x r : Value} {args : Array Value} {h : Hp} (ht : ts[0]? = some t) (hx : args[0]? = some x) (hv : lenV P t x h = some r) (Q : Value → Hp → Prop) (hq : Q r h) :
    hwp P (Builtin.len_ ts ty args) Q h := by
  unfold lenV at hv
  unfold Builtin.len_
  simp only [ht, hx]
  split at hv
  · rename_i s hu
    simp only [Option.some.injEq] at hv; subst hv
    simp only [hwp_bind, hwp_underlying P hu]; exact hq
  · rename_i n e hu
    simp only [Option.some.injEq] at hv; subst hv
    simp only [hwp_bind, hwp_underlying P hu]; exact hq
  · rename_i e a n c hu
    simp only [Option.some.injEq] at hv; subst hv
    simp only [hwp_bind, hwp_underlying P hu]; exact hq
  · rename_i a b hu
    simp only [Option.some.injEq] at hv; subst hv
    simp only [hwp_bind, hwp_underlying P hu]; exact hq
  · rename_i a b r' hu
    split at hv
    · rename_i es he
      simp only [Option.some.injEq] at hv; subst hv
      unfold entsO at he
      split at he
      · rename_i es' ck hr
        simp only [Option.some.injEq] at he; subst he
        simp only [hwp_bind, hwp_underlying P hu]
        refine getObj_ok hr rfl ?_
        simpa [goInt, hwp_pure] using hq
      · cases he
    · cases hv
  · cases hv
def capV (P : Program) (t : TypeId) (x : Value) : Option Value :=
  match P.underlying t, x with
  | some (.slice _), .slice _ _ n => some (.int .i64 n)
  | _, _ => none
theorem cap_ok {P : Program} {t ty : TypeId} {ts : Array TypeId} {x r : Value} {args : Array Value} {h : Hp} (ht : ts[0]? = some t) (hx : args[0]? = some x) (hv : capV P t x = some r) (Q : Value → Hp → Prop) (hq : Q r h) :
    hwp P (Builtin.cap_ ts ty args) Q h := by
  unfold capV at hv
  unfold Builtin.cap_
  simp only [ht, hx]
  split at hv
  · rename_i e a n c hu
    simp only [Option.some.injEq] at hv; subst hv
    simp only [hwp_bind, hwp_underlying P hu]; exact hq
  · cases hv
def bndV (x : Option Value) (dflt y : Nat) : Option Nat :=
  match x with
  | none => some dflt
  | some (.int _ i) => if 0 ≤ i ∧ i ≤ (y : Int) then some i.toNat else none
  | _ => none
theorem bnd_ok {P : Program} {k : IntKind} {i : Int} {y : Nat} (hi : 0 ≤ i ∧ i ≤ (y : Int)) (c : BoundsCode) (Q : Nat → Hp → Prop) (h : Hp) : hwp P (sliceBound (.int k i) y c) Q h = Q i.toNat h := by
  unfold sliceBound
  simp only [asIntOf, hwp_bind, hwp_pure, hi, and_self, if_true]
theorem bndV_some {v : Value} {dflt y n : Nat} (h : bndV (some v) dflt y = some n) : ∃ k i, v = .int k i ∧ (0 ≤ i ∧ i ≤ (y : Int)) ∧ n = i.toNat := by
  unfold bndV at h
  split at h
  · rename_i e; cases e
  · rename_i k i e
    split at h
    · rename_i hi
      simp only [Option.some.injEq] at h e
      exact ⟨k, i, e, hi, h.symm⟩
    · cases h
  · cases h
def sliceV (P : Program) (t : TypeId) (x : Value) (lo hi mx : Option Value) : Option Value :=
  match P.underlying t, x with
  | some .string, .string s => match mx with
    | none => match bndV hi s.size s.size with
      | some h => match bndV lo 0 h with
        | some l => some (.string (s.extract l h))
        | none => none
      | none => none
    | some _ => none
  | some (.slice e), .slice a len cap => match szK P e with
    | some sz => if mx.isSome && hi.isNone then none else match bndV mx cap cap with
      | some m => match bndV hi len m with
        | some h => match bndV lo 0 h with
          | some l => some (.slice (if m = l then a else a.map (·.add (l * sz))) (h - l) (m - l))
          | none => none
        | none => none
      | none => none
    | none => none
  | _, _ => none
theorem sliceBounds_ok {P : Program} {b : Bool} {len cap m h l : Nat} {lo hi mx : Option Value} (hm : bndV mx cap cap = some m) (hh : bndV hi len m = some h) (hl : bndV lo 0 h = some l) (hn : (mx.isSome && hi.isNone) = false)
    (Q : Nat × Nat × Nat → Hp → Prop) (H : Hp) (hq : Q (l, h, m) H) : hwp P (sliceBounds b len cap lo hi mx) Q H := by
  unfold sliceBounds
  cases mx with
  | none =>
    simp only [bndV, Option.some.injEq] at hm
    subst hm
    simp only [hwp_bind, hwp_pure]
    cases hi with
    | none =>
      simp only [bndV, Option.some.injEq] at hh
      subst hh
      simp only [hwp_pure]
      cases lo with
      | none => simp only [bndV, Option.some.injEq] at hl; subst hl; exact hq
      | some v => obtain ⟨k, i, rfl, hi, rfl⟩ := bndV_some hl; simp only [hwp_bind, hwp_pure, bnd_ok hi]; exact hq
    | some v =>
      obtain ⟨k, i, rfl, hi, rfl⟩ := bndV_some hh
      simp only [hwp_bind, hwp_pure, bnd_ok hi]
      cases lo with
      | none => simp only [bndV, Option.some.injEq] at hl; subst hl; exact hq
      | some v => obtain ⟨k, i, rfl, hi, rfl⟩ := bndV_some hl; simp only [hwp_bind, hwp_pure, bnd_ok hi]; exact hq
  | some w =>
    obtain ⟨k, i, rfl, hi', rfl⟩ := bndV_some hm
    simp only [hwp_bind, hwp_pure, bnd_ok hi']
    cases hi with
    | none => simp at hn
    | some v =>
      obtain ⟨k, i, rfl, hi, rfl⟩ := bndV_some hh
      simp only [hwp_bind, hwp_pure, bnd_ok hi]
      cases lo with
      | none => simp only [bndV, Option.some.injEq] at hl; subst hl; exact hq
      | some v => obtain ⟨k, i, rfl, hi, rfl⟩ := bndV_some hl; simp only [hwp_bind, hwp_pure, bnd_ok hi]; exact hq
theorem slice_ok {P : Program} {t : TypeId} {x r : Value} {lo hi mx : Option Value} (hv : sliceV P t x lo hi mx = some r) (Q : Value → Hp → Prop) (h : Hp) (hq : Q r h) : hwp P (Instr.sliceAt t x lo hi mx) Q h := by
  unfold sliceV at hv
  split at hv
  · rename_i s hu
    split at hv
    · split at hv
      · rename_i hh hhh
        split at hv
        · rename_i l hl
          simp only [Option.some.injEq] at hv
          subst hv
          unfold Instr.sliceAt
          simp only [hwp_bind, hwp_underlying P hu]
          unfold Instr.slice
          simp only [hwp_bind, hwp_underlying P hu, Option.isSome_none, Bool.false_eq_true, if_false]
          exact sliceBounds_ok (m := s.size) rfl hhh hl rfl _ _ hq
        · cases hv
      · cases hv
    · cases hv
  · rename_i e a len cap hu
    split at hv
    · rename_i sz hsz
      split at hv
      · cases hv
      · rename_i hn
        split at hv
        · rename_i m hm
          split at hv
          · rename_i hh hhh
            split at hv
            · rename_i l hl
              simp only [Option.some.injEq] at hv
              subst hv
              unfold Instr.sliceAt
              simp only [hwp_bind, hwp_underlying P hu]
              unfold Instr.slice
              simp only [hwp_bind, hwp_underlying P hu]
              refine sliceBounds_ok hm hhh hl (Bool.eq_false_iff.2 hn) _ _ ?_
              simp only [hwp_sizeOf P hsz]
              exact hq
            · cases hv
          · cases hv
        · cases hv
    · cases hv
  · cases hv

/-! ### 3. Structs and slices written out -/
def placesK (P : Program) (t : TypeId) : Option (List (Nat × Nat)) :=
  match P.underlying t with
  | some (.struct fs) => fs.toList.mapM fun f => (szK P f.type).map fun n => (f.offset, n)
  | _ => none
def setL (cells : List Value) (off : Nat) : List Value → List Value
  | [] => cells
  | v :: vs => setL (cells.set off v) (off + 1) vs
theorem setL_length (vs : List Value) : ∀ (cells : List Value) (off : Nat), (setL cells off vs).length = cells.length := by
  induction vs with
  | nil => intro c o; rfl
  | cons v vs ih => intro c o; simp [setL, ih]
def buildL (place : Nat → Option (Nat × Nat)) (cells : List Value) : List (Nat × Value) → Option (List Value)
  | [] => some cells
  | (i, v) :: rest => match place i with
    | some (off, size) => if v.cells.size = size ∧ off + size ≤ cells.length then buildL place (setL cells off v.cells.toList) rest else none
    | none => none
theorem fold_setL (vs : List Value) : ∀ (cells : Array Value) (off k : Nat), (vs.zipIdx k).foldl (fun cs (x : Value × Nat) => cs.setIfInBounds (off + x.2) x.1) cells = (setL cells.toList (off + k) vs).toArray := by
  induction vs with
  | nil => intro c o k; simp [setL]
  | cons v vs ih =>
    intro c o k
    simp only [List.zipIdx_cons, List.foldl_cons, ih, setL]
    congr 2
    simp
theorem fill_eq {place : Nat → Option (Nat × Nat)} : ∀ (parts : List (Nat × Value)) (cells : List Value) (r : List Value), buildL place cells parts = some r → fill place cells.toArray parts = some r.toArray := by
  intro parts
  induction parts with
  | nil => intro cells r h; simp only [buildL, Option.some.injEq] at h; subst h; rfl
  | cons p parts ih =>
    intro cells r h
    obtain ⟨i, v⟩ := p
    simp only [buildL] at h
    simp only [fill]
    split at h
    · rename_i off size hp
      rw [hp]
      split at h
      · rename_i hc
        obtain ⟨h1, h2⟩ := hc
        simp only []
        rw [if_neg (by simp [h1]; omega)]
        have := ih _ _ h
        rw [← this]
        congr 1
        have hf := fold_setL v.cells.toList cells.toArray off 0
        rw [← Array.foldl_toList, Array.toList_zipIdx]
        simpa using hf
      · cases h
    · cases h
theorem hwp_mapM_list {P : Program} {α β : Type} (f : α → Sem β) (g : α → Option β) (hfg : ∀ x y, g x = some y → ∀ Q h, hwp P (f x) Q h = Q y h) : ∀ (xs : List α) (ys : List β), xs.mapM g = some ys → ∀ (Q : List β → Hp → Prop) (h : Hp), hwp P (xs.mapM f) Q h = Q ys h := by
  intro xs
  induction xs with
  | nil => intro ys hy Q h; simp at hy; subst hy; simp [hwp_pure]
  | cons x xs ih =>
    intro ys hy Q h
    simp only [List.mapM_cons] at hy ⊢
    cases hx : g x with
    | none => rw [hx] at hy; simp at hy
    | some y =>
      rw [hx] at hy
      cases hxs : xs.mapM g with
      | none => rw [hxs] at hy; simp at hy
      | some ys' =>
        rw [hxs] at hy
        simp at hy
        subst hy
        rw [hwp_bind, hfg x y hx, hwp_bind, ih ys' hxs]
        rfl
theorem hwp_mapM {P : Program} {α β : Type} (f : α → Sem β) (g : α → Option β) (hfg : ∀ x y, g x = some y → ∀ Q h, hwp P (f x) Q h = Q y h) (xs : Array α) (ys : List β) (hy : xs.toList.mapM g = some ys) (Q : Array β → Hp → Prop) (h : Hp) : hwp P (xs.mapM f) Q h = Q ys.toArray h := by
  rw [Array.mapM_eq_mapM_toList, hwp_map, hwp_mapM_list f g hfg _ _ hy]
def buildV (P : Program) (t : TypeId) (parts : List (Nat × Value)) : Option Value :=
  match zeroK P t, placesK P t with
  | some z, some pl => (buildL (fun i => pl[i]?) z.cells.toList parts).map fun l => .agg l.toArray
  | _, _ => none
theorem build_ok {P : Program} {t : TypeId} {parts : Array (Nat × Value)} {r : Value} (hv : buildV P t parts.toList = some r) (Q : Value → Hp → Prop) (h : Hp) (hq : Q r h) : hwp P (Instr.build t parts) Q h := by
  unfold buildV at hv
  split at hv
  · rename_i z pl hz hp
    cases hb : buildL (fun i => pl[i]?) z.cells.toList parts.toList with
    | none => rw [hb] at hv; cases hv
    | some l =>
      rw [hb] at hv
      simp only [Option.map_some, Option.some.injEq] at hv
      subst hv
      unfold placesK at hp
      split at hp
      · rename_i fs hu
        unfold Instr.build
        simp only [hwp_bind, hwp_zeroValue P hz, hwp_underlying P hu]
        rw [hwp_mapM (fun f : Field => do pure (f.offset, ← Go.sizeOf f.type)) (fun f => (szK P f.type).map fun n => (f.offset, n)) ?_ fs pl hp]
        · have := fill_eq _ _ _ hb
          simp only [Array.toArray_toList] at this
          have hpl : (fun x : Nat => pl.toArray[x]?) = fun i : Nat => pl[i]? := by funext i; simp
          rw [hpl, this]
          exact hq
        · intro x y hxy Q' h'
          cases hs : szK P x.type with
          | none => rw [hs] at hxy; cases hxy
          | some n => rw [hs] at hxy; simp only [Option.map_some, Option.some.injEq] at hxy; subst hxy; simp only [hwp_bind, hwp_sizeOf P hs, hwp_pure]
      · cases hp
  · cases hv
/-- A zero value's cells, n times. -/
def zrepL (zs : List Value) : Nat → List Value
  | 0 => []
  | n + 1 => zs ++ zrepL zs n
theorem zrepL_length (zs : List Value) (n : Nat) : (zrepL zs n).length = n * zs.length := by
  induction n with
  | zero => simp [zrepL]
  | succ n ih => simp [zrepL, ih, Nat.succ_mul]; omega
theorem zrepL_get (zs : List Value) : ∀ (n i : Nat), i < n * zs.length → (zrepL zs n)[i]? = zs[i % zs.length]? := by
  intro n
  induction n with
  | zero => intro i h; simp at h
  | succ n ih =>
    intro i h
    simp only [zrepL]
    by_cases hi : i < zs.length
    · rw [List.getElem?_append_left hi, Nat.mod_eq_of_lt hi]
    · rw [List.getElem?_append_right (by omega), ih _ (by rw [Nat.succ_mul] at h; omega)]
      congr 1
      rw [Nat.mod_eq_sub_mod (by omega : zs.length ≤ i)]
theorem zrep_eq (zs : List Value) (n : Nat) : (Array.range (n * zs.length)).map (fun i => zs.toArray[i % zs.toArray.size]!) = (zrepL zs n).toArray := by
  apply Array.ext'
  apply List.ext_getElem?
  intro i
  simp only [Array.toList_map, Array.toList_range, List.getElem?_map]
  by_cases hi : i < n * zs.length
  · rw [zrepL_get zs n i hi]
    have hpos : 0 < zs.length := by rcases Nat.eq_zero_or_pos zs.length with e | e; · rw [e] at hi; omega
                                    · exact e
    have hm : i % zs.length < zs.length := Nat.mod_lt _ hpos
    rw [List.getElem?_range hi]
    simp [hm, List.getElem?_eq_getElem]
  · rw [List.getElem?_eq_none (by simpa using Nat.not_lt.1 hi), List.getElem?_eq_none (by rw [zrepL_length]; omega)]
    rfl
/-- A slice written out: its cells. -/
def bslL (P : Program) (t : TypeId) (len : Nat) (parts : List (Nat × Value)) : Option (TypeId × List Value) :=
  match elK P t with
  | some (none, e, _, sz) => match zeroK P e with
    | some z => if z.cells.size = sz ∧ 0 < sz ∧ len * sz ≤ 16777216 then (buildL (fun i => some (i * sz, sz)) (zrepL z.cells.toList len) parts).map fun l => (e, l) else none
    | none => none
  | _ => none
theorem bsl_ok {P : Program} {t e : TypeId} {len : Nat} {parts : Array (Nat × Value)} {l : List Value} (hv : bslL P t len parts.toList = some (e, l)) (Q : Value → Hp → Prop) (h : Hp)
    (hq : ∀ b, h b = none → Q (.slice (some ⟨b, 0, none⟩) len len) (upd h b (.cells l.toArray e (0, 0)))) : hwp P (Instr.buildSlice t len parts) Q h := by
  unfold bslL at hv
  split at hv
  · rename_i e' ag sz hk
    obtain ⟨hu, hty⟩ := elK_slice hk
    split at hv
    · rename_i z hz
      split at hv
      · rename_i hc
        obtain ⟨h1, h2, h3⟩ := hc
        cases hb : buildL (fun i => some (i * sz, sz)) (zrepL z.cells.toList len) parts.toList with
        | none => rw [hb] at hv; cases hv
        | some l' =>
          rw [hb] at hv
          simp only [Option.map_some, Option.some.injEq, Prod.mk.injEq] at hv
          obtain ⟨rfl, rfl⟩ := hv
          unfold Instr.buildSlice
          simp only [hwp_bind, hwp_underlying P hu, hwp_sizeOf P (szK_of P hty)]
          rw [if_neg (by omega)]
          have hf := fill_eq _ _ _ hb
          have hz' : ∀ (cs : Array Value), (len * sz = 0 → cs = #[]) → (len * sz ≠ 0 → cs = z.cells) → fill (fun i => some (i * sz, sz)) ((Array.range (len * sz)).map (cs[· % cs.size]!)) parts.toList = some l'.toArray := by
            intro cs e0 e1
            by_cases h0 : len * sz = 0
            · have : len = 0 := by rcases Nat.mul_eq_zero.1 h0 with e | e <;> omega
              subst this
              simp only [zrepL] at hf
              rw [Nat.zero_mul, show Array.range 0 = (#[] : Array Nat) from rfl]
              simpa using hf
            · rw [e1 h0]
              have := zrep_eq z.cells.toList len
              simp only [Array.length_toList, h1, Array.toArray_toList] at this
              rw [h1]
              rw [this]
              exact hf
          split
          · rename_i h0
            simp only [hwp_bind, hwp_pure, hz' #[] (fun _ => rfl) (fun hn => absurd h0 hn)]
            intro b hb'
            exact hq b hb'
          · rename_i h0
            simp only [hwp_bind, hwp_zeroValue P hz, hwp_pure, hz' z.cells (fun hn => absurd hn h0) (fun _ => rfl)]
            intro b hb'
            exact hq b hb'
      · cases hv
    · cases hv
  · cases hv

/-! ### 4. Methods behind an interface -/
/-- A method of a type whose row has no path: the function, and what it is handed. -/
def methV (P : Program) (t : TypeId) (v : Value) (name : String) (h : Hp) : Option (FuncId × Value) :=
  match P.info? t with
  | some i => match i.methods.find? (·.name == name) with
    | some m => if m.path.isEmpty then match m.func, P.underlying t with
        | some (f, true), some (.pointer _) => some (f, v)
        | some (f, false), some (.pointer e) => (loadV P e v h).map fun r => (f, r)
        | some (f, false), some _ => some (f, v)
        | _, _ => none
      else none
    | none => none
  | none => none
end Go.Hx
