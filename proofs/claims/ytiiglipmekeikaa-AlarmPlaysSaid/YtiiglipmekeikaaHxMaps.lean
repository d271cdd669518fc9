/- A map in memory as a list of keys and values. -/
import Derived.Test.YtiiglipmekeikaaHxApp
set_option linter.unusedVariables false
set_option linter.unusedSimpArgs false
set_option linter.unusedSectionVars false
namespace Go.Hx
open Go.Instr

section
variable {κ : Type} [DecidableEq κ]
/-- How keys stand as values: the model's look tells them apart. -/
def KeyLaw (kd : TypeDesc) (enc : κ → Value) : Prop := ∀ a b, sameNow kd (enc a) (enc b) = some (decide (a = b))
def fi (k : κ) : List (κ × Value) → Nat → Option (Nat × Value)
  | [], _ => none
  | (k', v) :: l, i => if k = k' then some (i, v) else fi k l (i + 1)
def lk (l : List (κ × Value)) (k : κ) : Option Value := (fi k l 0).map (·.2)
def setA (l : List (κ × Value)) (k : κ) (v : Value) : List (κ × Value) :=
  match fi k l 0 with
  | some (i, _) => l.set i (k, v)
  | none => l ++ [(k, v)]
def delA (l : List (κ × Value)) (k : κ) : List (κ × Value) := l.filter fun p => decide (p.1 ≠ k)
def KMap (enc : κ → Value) (o : Option Obj) (l : List (κ × Value)) : Prop :=
  ∃ es ck, o = some (.map es ck) ∧ es.toList.map (fun e => (e.key, e.val)) = l.map (fun p => (enc p.1, p.2)) ∧ (l.map (·.1)).Nodup

theorem fi_shift (k : κ) : ∀ (l : List (κ × Value)) (i : Nat), fi k l i = (fi k l 0).map fun p => (p.1 + i, p.2) := by
  intro l
  induction l with
  | nil => intro i; rfl
  | cons p l ih =>
    intro i
    obtain ⟨k', v⟩ := p
    simp only [fi]
    split
    · simp
    · rw [ih (i + 1), ih (0 + 1)]
      cases fi k l 0 with
      | none => rfl
      | some q => simp; omega
theorem lk_nil (k : κ) : lk ([] : List (κ × Value)) k = none := rfl
theorem lk_cons (k' : κ) (v : Value) (l : List (κ × Value)) (k : κ) : lk ((k', v) :: l) k = if k = k' then some v else lk l k := by
  simp only [lk, fi]
  split
  · rfl
  · rw [fi_shift]
    cases fi k l 0 <;> rfl
theorem lk_mem {l : List (κ × Value)} {k : κ} {v : Value} (h : lk l k = some v) : (k, v) ∈ l := by
  induction l with
  | nil => cases h
  | cons p l ih =>
    obtain ⟨k', v'⟩ := p
    rw [lk_cons] at h
    split at h
    · rename_i e; subst e; simp only [Option.some.injEq] at h; subst h; simp
    · exact List.mem_cons_of_mem _ (ih h)
theorem lk_of_mem {l : List (κ × Value)} (hn : (l.map (·.1)).Nodup) {k : κ} {v : Value} (h : (k, v) ∈ l) : lk l k = some v := by
  induction l with
  | nil => cases h
  | cons p l ih =>
    obtain ⟨k', v'⟩ := p
    simp only [List.map_cons, List.nodup_cons] at hn
    rw [lk_cons]
    rcases List.mem_cons.1 h with h1 | h1
    · cases h1; rw [if_pos rfl]
    · split
      · rename_i e
        subst e
        exact absurd (List.mem_map.2 ⟨(k, v), h1, rfl⟩ : k ∈ l.map (·.1)) hn.1
      · exact ih hn.2 h1
theorem lk_none {l : List (κ × Value)} {k : κ} : lk l k = none ↔ k ∉ l.map (·.1) := by
  induction l with
  | nil => simp [lk_nil]
  | cons p l ih =>
    obtain ⟨k', v'⟩ := p
    rw [lk_cons]
    split
    · rename_i e; simp [e]
    · rename_i e; rw [ih]; simp [e]
theorem fi_none {l : List (κ × Value)} {k : κ} : fi k l 0 = none ↔ lk l k = none := by simp [lk]
theorem fi_some {l : List (κ × Value)} {k : κ} : ∀ {i : Nat} {v : Value}, fi k l 0 = some (i, v) → l[i]? = some (k, v) := by
  induction l with
  | nil => intro i v h; cases h
  | cons p l ih =>
    intro i v h
    obtain ⟨k', v'⟩ := p
    simp only [fi] at h
    split at h
    · rename_i e; simp only [Option.some.injEq, Prod.mk.injEq] at h; obtain ⟨rfl, rfl⟩ := h; subst e; rfl
    · rw [fi_shift] at h
      cases hf : fi k l 0 with
      | none => rw [hf] at h; cases h
      | some q =>
        rw [hf] at h
        simp only [Option.map_some, Option.some.injEq, Prod.mk.injEq] at h
        obtain ⟨rfl, rfl⟩ := h
        obtain ⟨j, w⟩ := q
        simp only [Nat.zero_add, List.getElem?_cons_succ]
        exact ih hf
theorem findNow_eq {kd : TypeDesc} {enc : κ → Value} (hl : KeyLaw kd enc) (k : κ) : ∀ (es : List MapEntry) (l : List (κ × Value)) (i : Nat), es.map (fun e => (e.key, e.val)) = l.map (fun p => (enc p.1, p.2)) → findNow kd (enc k) es i = some (fi k l i) := by
  intro es
  induction es with
  | nil => intro l i h; cases l <;> simp at h; rfl
  | cons e es ih =>
    intro l i h
    cases l with
    | nil => simp at h
    | cons p l =>
      obtain ⟨k', v⟩ := p
      simp only [List.map_cons, List.cons.injEq, Prod.mk.injEq] at h
      obtain ⟨⟨h1, h2⟩, h3⟩ := h
      simp only [findNow, h1, hl k k', fi]
      by_cases e' : k = k'
      · simp [e', h2]
      · simp [e', ih l (i + 1) h3]
theorem setA_lk {l : List (κ × Value)} (hn : (l.map (·.1)).Nodup) (k : κ) (v : Value) (k' : κ) : lk (setA l k v) k' = if k' = k then some v else lk l k' := by
  unfold setA
  split
  · rename_i i w hf
    have hi := fi_some hf
    clear hf
    induction l generalizing i with
    | nil => simp at hi
    | cons p l ih =>
      obtain ⟨k2, v2⟩ := p
      simp only [List.map_cons, List.nodup_cons] at hn
      cases i with
      | zero =>
        simp only [List.getElem?_cons_zero, Option.some.injEq, Prod.mk.injEq] at hi
        obtain ⟨rfl, rfl⟩ := hi
        simp only [List.set_cons_zero, lk_cons]
        split <;> rfl
      | succ i =>
        simp only [List.getElem?_cons_succ] at hi
        simp only [List.set_cons_succ, lk_cons, ih hn.2 i hi]
        have hk : k2 ≠ k := by
          rintro rfl
          exact hn.1 (List.mem_map.2 ⟨_, List.mem_of_getElem? hi, rfl⟩)
        by_cases e1 : k' = k2
        · subst e1; rw [if_pos rfl, if_neg hk, if_pos rfl]
        · rw [if_neg e1, if_neg e1]
  · rename_i hf
    have hno := fi_none.1 hf
    clear hf
    induction l with
    | nil => simp [lk_cons, lk_nil]
    | cons p l ih =>
      obtain ⟨k2, v2⟩ := p
      simp only [List.map_cons, List.nodup_cons] at hn
      rw [lk_cons] at hno
      split at hno
      · cases hno
      · rename_i hk
        simp only [List.cons_append, lk_cons, ih hn.2 hno]
        by_cases e1 : k' = k2
        · subst e1; rw [if_pos rfl, if_neg (fun e => hk e.symm), if_pos rfl]
        · rw [if_neg e1, if_neg e1]
theorem setA_keys (l : List (κ × Value)) (k : κ) (v : Value) : (setA l k v).map (·.1) = if lk l k = none then l.map (·.1) ++ [k] else l.map (·.1) := by
  unfold setA
  split
  · rename_i i w hf
    rw [if_neg (by rw [← fi_none, hf]; simp)]
    have hi := fi_some hf
    rw [List.map_set]
    apply List.ext_getElem?
    intro j
    rw [List.getElem?_set]
    split
    · rename_i e
      subst e
      have hlt := (List.getElem?_eq_some_iff.1 hi).1
      have hg := (List.getElem?_eq_some_iff.1 hi).2
      simp [hlt, hg]
    · rfl
  · rename_i hf
    rw [if_pos (fi_none.1 hf)]
    simp
theorem setA_nodup {l : List (κ × Value)} (hn : (l.map (·.1)).Nodup) (k : κ) (v : Value) : ((setA l k v).map (·.1)).Nodup := by
  rw [setA_keys]
  split
  · rename_i h
    rw [lk_none] at h
    rw [List.nodup_append]
    refine ⟨hn, by simp, ?_⟩
    intro a ha b hb
    simp at hb
    subst hb
    rintro rfl
    exact h ha
  · exact hn
theorem setA_length (l : List (κ × Value)) (k : κ) (v : Value) : (setA l k v).length = if lk l k = none then l.length + 1 else l.length := by
  have := congrArg List.length (setA_keys l k v)
  rw [List.length_map] at this
  rw [this]
  split <;> simp
theorem delA_lk (l : List (κ × Value)) (k k' : κ) : lk (delA l k) k' = if k' = k then none else lk l k' := by
  unfold delA
  induction l with
  | nil => simp [lk_nil]
  | cons p l ih =>
    obtain ⟨k2, v2⟩ := p
    by_cases e : k2 = k
    · subst e
      rw [List.filter_cons_of_neg (by simp), ih, lk_cons]
      by_cases e1 : k' = k2
      · rw [if_pos e1, if_pos e1]
      · rw [if_neg e1, if_neg e1, if_neg e1]
    · rw [List.filter_cons_of_pos (by simpa using e), lk_cons, lk_cons, ih]
      by_cases e1 : k' = k2
      · subst e1; rw [if_pos rfl, if_neg e, if_pos rfl]
      · rw [if_neg e1, if_neg e1]
theorem delA_nodup {l : List (κ × Value)} (hn : (l.map (·.1)).Nodup) (k : κ) : ((delA l k).map (·.1)).Nodup := (List.filter_sublist.map _).nodup hn
theorem delA_none {l : List (κ × Value)} {k : κ} (h : lk l k = none) : delA l k = l := by
  unfold delA
  rw [List.filter_eq_self]
  intro p hp
  rw [lk_none] at h
  simp only [ne_eq, decide_not, Bool.not_eq_true', decide_eq_false_iff_not]
  rintro rfl
  exact h (List.mem_map.2 ⟨_, hp, rfl⟩)
theorem delA_erase {l : List (κ × Value)} (hn : (l.map (·.1)).Nodup) {k : κ} {i : Nat} {v : Value} (h : l[i]? = some (k, v)) : delA l k = l.eraseIdx i := by
  induction l generalizing i with
  | nil => simp at h
  | cons p l ih =>
    obtain ⟨k2, v2⟩ := p
    simp only [List.map_cons, List.nodup_cons] at hn
    cases i with
    | zero =>
      simp only [List.getElem?_cons_zero, Option.some.injEq, Prod.mk.injEq] at h
      obtain ⟨rfl, rfl⟩ := h
      have := delA_none (lk_none.2 hn.1)
      unfold delA at this ⊢
      rw [List.filter_cons_of_neg (by simp), this]; rfl
    | succ i =>
      simp only [List.getElem?_cons_succ] at h
      have hk : k2 ≠ k := by
        rintro rfl
        exact hn.1 (List.mem_map.2 ⟨_, List.mem_of_getElem? h, rfl⟩)
      have := ih hn.2 h
      unfold delA at this ⊢
      rw [List.filter_cons_of_pos (by simpa using hk), this]; rfl
theorem delA_length {l : List (κ × Value)} (hn : (l.map (·.1)).Nodup) (k : κ) : (delA l k).length = if lk l k = none then l.length else l.length - 1 := by
  split
  · rename_i h; rw [delA_none h]
  · rename_i h
    cases hf : fi k l 0 with
    | none => exact absurd (fi_none.1 hf) h
    | some q =>
      obtain ⟨i, v⟩ := q
      have hi := fi_some hf
      rw [delA_erase hn hi, List.length_eraseIdx, if_pos (List.getElem?_eq_some_iff.1 hi).1]

theorem map_erase {α β : Type} (f : α → β) : ∀ (l : List α) (i : Nat), (l.eraseIdx i).map f = (l.map f).eraseIdx i := by
  intro l
  induction l with
  | nil => intro i; rfl
  | cons a l ih =>
    intro i
    cases i with
    | zero => rfl
    | succ i => simp only [List.eraseIdx_cons_succ, List.map_cons, ih i]
def hitO (z : Value) (ok : Bool) : Option Value → Value
  | some v => if ok then .tuple #[v, .bool true] else v
  | none => if ok then .tuple #[z, .bool false] else z
variable {P : Program} {t et : TypeId} {kd : TypeDesc} {enc : κ → Value} {h : Hp} {m : Nat} {l : List (κ × Value)}
theorem KMap.lookup (hl : KeyLaw kd enc) (hk : mapK P t = some (kd, et)) {z : Value} (hz : zeroK P et = some z) (hm : KMap enc (h m) l) (k : κ) (ok : Bool) : lookupV P t (.map (some m)) (enc k) ok h = some (hitO z ok (lk l k)) := by
  obtain ⟨es, ck, h1, h2, h3⟩ := hm
  unfold lookupV
  simp only [hk, entsV, h1, entsO, findNow_eq hl k _ _ 0 h2, hz, lk]
  cases fi k l 0 <;> rfl
theorem KMap.set (hl : KeyLaw kd enc) (hk : mapK P t = some (kd, et)) (hm : KMap enc (h m) l) (k : κ) (v : Value) : ∃ o, mapSetV P t (.map (some m)) (enc k) v h = some (upd h m o) ∧ KMap enc (some o) (setA l k v) := by
  obtain ⟨es, ck, h1, h2, h3⟩ := hm
  refine ⟨updE es (enc k) v ck (fi k l 0), ?_, ?_⟩
  · unfold mapSetV
    simp only [hk, h1, findNow_eq hl k _ _ 0 h2]
  · unfold setA
    cases hf : fi k l 0 with
    | none =>
      refine ⟨_, _, rfl, ?_, ?_⟩
      · simp [h2]
      · have := setA_nodup h3 k v
        unfold setA at this
        rw [hf] at this
        exact this
    | some q =>
      obtain ⟨i, w⟩ := q
      have hi := fi_some hf
      refine ⟨_, _, rfl, ?_, ?_⟩
      · apply List.ext_getElem?
        intro j
        have h2j := congrArg (fun x => x[j]?) h2
        simp only [List.getElem?_map, Array.getElem?_toList] at h2j
        simp only [List.getElem?_map, Array.getElem?_toList, modify_get, List.getElem?_set]
        by_cases e : j = i
        · subst e
          have hlt := (List.getElem?_eq_some_iff.1 hi).1
          rw [if_pos rfl, if_pos rfl, if_pos hlt]
          rw [hi] at h2j
          cases he : es[j]? with
          | none => rw [he] at h2j; cases h2j
          | some e' => rfl
        · rw [if_neg e, if_neg (fun e' => e e'.symm)]
          exact h2j
      · have := setA_nodup h3 k v
        unfold setA at this
        rw [hf] at this
        exact this
theorem KMap.del (hl : KeyLaw kd enc) (hk : mapK P t = some (kd, et)) (hm : KMap enc (h m) l) (k : κ) : ∃ o, mapDelV P t (.map (some m)) (enc k) h = some (upd h m o) ∧ KMap enc (some o) (delA l k) := by
  obtain ⟨es, ck, h1, h2, h3⟩ := hm
  refine ⟨delE es ck (fi k l 0), ?_, ?_⟩
  · unfold mapDelV
    simp only [hk, h1, findNow_eq hl k _ _ 0 h2]
  · cases hf : fi k l 0 with
    | none =>
      rw [delA_none (fi_none.1 hf)]
      exact ⟨es, ck, rfl, h2, h3⟩
    | some q =>
      obtain ⟨i, w⟩ := q
      have hi := fi_some hf
      rw [delA_erase h3 hi]
      refine ⟨_, _, rfl, ?_, ?_⟩
      · have hlt := (List.getElem?_eq_some_iff.1 hi).1
        have hle : es.size = l.length := by simpa using congrArg List.length h2
        unfold Array.eraseIdxIfInBounds
        rw [dif_pos (by omega), Array.toList_eraseIdx, map_erase, h2, map_erase]
      · have := delA_nodup h3 k
        rw [delA_erase h3 hi] at this
        exact this
theorem KMap.ents (hm : KMap enc (h m) l) : ∃ es, entsO (h m) = some es ∧ es.length = l.length := by
  obtain ⟨es, ck, h1, h2, h3⟩ := hm
  exact ⟨es.toList, by rw [h1]; rfl, by simpa using congrArg List.length h2⟩
theorem KMap.new : KMap enc (some (.map #[] 0)) [] := ⟨#[], 0, rfl, rfl, by simp⟩
end
def encI (k : Int) : Value := .int .i64 k
def encS (k : ByteArray) : Value := .string k
theorem lawI : KeyLaw (.int .i64) encI := by
  intro a b
  simp only [encI, sameNow, if_true]
  by_cases h : a = b <;> simp [h]
theorem lawS : KeyLaw .string encS := by
  intro a b
  simp only [encS, sameNow]
  by_cases h : a = b
  · simp [h, bytes_beq]
  · have : (a == b) = false := by
      rw [← Bool.not_eq_true, bytes_beq]; exact h
    simp [h, this]
end Go.Hx
