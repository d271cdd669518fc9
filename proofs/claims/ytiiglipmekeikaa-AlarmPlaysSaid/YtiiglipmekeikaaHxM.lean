/- Rules for use: methods behind an interface, loops over named slots. -/
import Derived.Test.YtiiglipmekeikaaHxS
set_option linter.unusedVariables false
set_option linter.unusedSimpArgs false
namespace Go.Hx

/-- A type's method whose row has no path: the function; is the receiver loaded through a pointer, and as what. -/
def methK (P : Program) (t : TypeId) (name : String) : Option (FuncId × Option TypeId) :=
  match P.info? t with
  | some i => match i.methods.find? (·.name == name) with
    | some m => if m.path.isEmpty then match m.func, P.underlying t with
        | some (f, true), some (.pointer _) => some (f, none)
        | some (f, false), some (.pointer e) => some (f, some e)
        | some (f, false), some _ => some (f, none)
        | _, _ => none
      else none
    | none => none
  | none => none
theorem methV_of {P : Program} {t : TypeId} {name : String} {f : FuncId} {o : Option TypeId} (hm : methK P t name = some (f, o)) {v : Value} {h : Hp} :
    methV P t v name h = match o with
      | none => some (f, v)
      | some e => (loadV P e v h).map fun r => (f, r) := by
  unfold methK at hm
  unfold methV
  split at hm
  · rename_i i hi
    split at hm
    · rename_i m hf
      split at hm
      · rename_i hp
        rw [hi]
        simp only [hf, hp, if_true]
        split at hm <;> simp only [Option.some.injEq, Prod.mk.injEq, reduceCtorEq] at hm <;> first | (obtain ⟨rfl, rfl⟩ := hm; simp_all) | cases hm
      · cases hm
    · cases hm
  · cases hm
theorem InvK.val {P : Program} {t : TypeId} {name : String} {f : FuncId} (hm : methK P t name = some (f, none)) {v : Value} {h : Hp} {args : List Value} {K : Value → Hp → Prop} (hc : CallK P f (v :: args) h K) : InvK P (.iface t v) name args h K :=
  ⟨f, v, by rw [methV_of hm], hc⟩
theorem InvK.ptr {P : Program} {t e : TypeId} {name : String} {f : FuncId} (hm : methK P t name = some (f, some e)) {v r : Value} {h : Hp} (hl : loadV P e v h = some r) {args : List Value} {K : Value → Hp → Prop} (hc : CallK P f (r :: args) h K) : InvK P (.iface t v) name args h K :=
  ⟨f, r, by rw [methV_of hm]; simp [hl], hc⟩

theorem look_mem : ∀ {env : Env} {k : Nat} {v : Value}, look env k = some v → (k, v) ∈ env := by
  intro env
  induction env with
  | nil => intro k v h; simp [look] at h
  | cons p env ih =>
    obtain ⟨k', v'⟩ := p
    intro k v h
    simp only [look] at h
    split at h
    · rename_i e; subst e; simp only [Option.some.injEq] at h; subst h; simp
    · exact List.mem_cons_of_mem _ (ih h)
/-- These slots hold these values. -/
def Holds (env : Env) : List Nat → List Value → Prop
  | k :: ks, v :: vs => look env k = some v ∧ Holds env ks vs
  | [], [] => True
  | _, _ => False
theorem Holds.zip : ∀ {ks : List Nat} {vs : List Value} {env : Env}, Holds env ks vs → ∀ k v, look (ks.zip vs) k = some v → look env k = some v := by
  intro ks
  induction ks with
  | nil => intro vs env _ k v h; simp [look] at h
  | cons k' ks ih =>
    intro vs env hh k v h
    cases vs with
    | nil => exact hh.elim
    | cons v' vs =>
      obtain ⟨h1, h2⟩ := hh
      simp only [List.zip_cons_cons, look] at h
      split at h
      · rename_i e; subst e; simp only [Option.some.injEq] at h; subst h; exact h1
      · exact ih h2 k v h
/-- A loop over named slots: what holds at every round's head, a number that each round lowers. -/
theorem HW.loopV {P : Program} {n : Nat} {env : Env} {h : Hp} {Q : Ex → Env → Hp → Prop} {c : Code} {α : Type} (ks : List Nat) (vals : α → List Value) (I : α → Hp → Prop) (m : α → Nat) (x0 : α) (h0 : I x0 h) (hk : Holds env ks (vals x0))
    (round : ∀ x h, I x h → HW P n c (ks.zip (vals x)) h (Seq (fun env' h' => ∃ x', m x' < m x ∧ I x' h' ∧ Holds env' ks (vals x')) Q)) : HW P n (.loop c) env h Q := by
  refine HW.loop (fun k env h => ∃ x, m x = k ∧ I x h ∧ Holds env ks (vals x)) (m := m x0) ⟨x0, rfl, h0, hk⟩ ?_
  rintro k env h ⟨x, rfl, hI, hH⟩
  refine (HW.sub (round x h hI) hH.zip).mono ?_
  intro e env' h' q
  cases e with
  | normal => obtain ⟨x', hlt, hI', hH'⟩ := q; exact ⟨m x', hlt, x', rfl, hI', hH'⟩
  | _ => exact q
/-- Only these slots are carried on. -/
theorem HW.keep {P : Program} {n : Nat} {env : Env} {h : Hp} {Q : Ex → Env → Hp → Prop} {c : Code} (ks : List Nat) (vs : List Value) (hk : Holds env ks vs) (hc : HW P n c (ks.zip vs) h Q) : HW P n c env h Q := hc.sub hk.zip
/-- A first piece; what holds behind it, over named slots; the second piece. -/
theorem HW.join {P : Program} {n : Nat} {env : Env} {h : Hp} {Q : Ex → Env → Hp → Prop} {x y : Code} {α : Type} (ks : List Nat) (vals : α → List Value) (J : α → Hp → Prop) (hx : HW P n x env h (Seq (fun env' h' => ∃ s, J s h' ∧ Holds env' ks (vals s)) Q))
    (hy : ∀ s h', J s h' → HW P n y (ks.zip (vals s)) h' Q) : HW P n (.seq x y) env h Q :=
  HW.cut _ hx fun env' h' ⟨s, hJ, hH⟩ => HW.keep ks (vals s) hH (hy s h' hJ)

/-- The same, where the first piece stands alone and the second one behind it. -/
theorem HW.join2 {P : Program} {n : Nat} {env : Env} {h : Hp} {Q Q2 : Ex → Env → Hp → Prop} {x y : Code} {α : Type} (ks : List Nat) (vals : α → List Value) (J : α → Hp → Prop) (hx : HW P n x env h (Seq (fun env' h' => ∃ s, J s h' ∧ Holds env' ks (vals s)) Q))
    (hy : ∀ s h', J s h' → HW P n y (ks.zip (vals s)) h' Q2) : HW P n x env h (Seq (fun env' h' => HW P n y env' h' Q2) Q) := by
  refine hx.mono ?_
  intro e env' h' q
  cases e with
  | normal => obtain ⟨s, hJ, hH⟩ := q; exact HW.keep ks (vals s) hH (hy s h' hJ)
  | _ => exact q

/-- Bounds strike a wrap. -/
theorem wrap_i64 {n : Int} (h0 : -9223372036854775808 ≤ n) (h1 : n ≤ 9223372036854775807) : IntKind.i64.wrap n = n := by
  unfold IntKind.wrap IntKind.signed IntKind.bits
  simp only [Nat.add_one_sub_one, Bool.true_and, decide_eq_true_eq]
  rw [show (2 : Int) ^ 64 = 18446744073709551616 from rfl, show (2 : Int) ^ 63 = 9223372036854775808 from rfl]
  split <;> omega
theorem wrap_u64 {n : Int} (h0 : 0 ≤ n) (h1 : n ≤ 18446744073709551615) : IntKind.u64.wrap n = n := by
  unfold IntKind.wrap IntKind.signed IntKind.bits
  simp only [Bool.false_and, Bool.false_eq_true, if_false]
  rw [show (2 : Int) ^ 64 = 18446744073709551616 from rfl]
  omega
theorem wrap_u8 {n : Int} (h0 : 0 ≤ n) (h1 : n ≤ 255) : IntKind.u8.wrap n = n := by
  unfold IntKind.wrap IntKind.signed IntKind.bits
  simp only [Bool.false_and, Bool.false_eq_true, if_false]
  rw [show (2 : Int) ^ 8 = 256 from rfl]
  omega
theorem tdiv_pos {a b : Int} (h : 0 ≤ a) : a.tdiv b = a / b := Int.tdiv_eq_ediv_of_nonneg h
end Go.Hx
