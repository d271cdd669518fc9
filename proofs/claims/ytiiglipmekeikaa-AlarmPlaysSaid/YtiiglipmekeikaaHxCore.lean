/- The heap as a map of blocks: what an operation of the model comes to, over the heap alone; draws, the tape and the outside world stay as they are. -/
import Derived.Tactics
import Derived.KernelRfl
set_option linter.unusedVariables false
set_option linter.unusedSimpArgs false
namespace Go.Hx

/-! ### 1. The heap as a map -/
abbrev Hp := Nat → Option Obj
def hpOf (w : World) : Hp := fun i => w.heap[i]?
/-- All but the heap and the count of draws is the same. -/
structure Sm (w w' : World) : Prop where
  os : w'.os = w.os
  tape : w'.tape = w.tape
  output : w'.output = w.output
theorem Sm.refl (w : World) : Sm w w := ⟨rfl, rfl, rfl⟩
theorem Sm.trans {a b c : World} (h : Sm a b) (k : Sm b c) : Sm a c := ⟨k.os.trans h.os, k.tape.trans h.tape, k.output.trans h.output⟩

/-- A cell of a block. -/
def rd : Option Obj → Nat → Option Value
  | some (.cells c _ _), i => c[i]?
  | _, _ => none
def frz : Option Obj → Nat → Bool
  | some (.cells _ _ fr), i => fr.1 ≤ i && i < fr.2
  | _, _ => false
def cellH (h : Hp) (a : Addr) : Option Value := if a.spot.isSome then none else rd (h a.block) a.off
def upd (h : Hp) (b : Nat) (o : Obj) : Hp := fun i => if i = b then some o else h i
theorem upd_same (h : Hp) (b : Nat) (o : Obj) : upd h b o b = some o := by simp [upd]
theorem upd_ne (h : Hp) (b : Nat) (o : Obj) {i : Nat} (hi : i ≠ b) : upd h b o i = h i := by simp [upd, hi]
theorem upd_upd (h : Hp) (b : Nat) (o o' : Obj) : upd (upd h b o) b o' = upd h b o' := by
  funext i; unfold upd; split <;> simp_all
def wr (a : Addr) (v : Value) : Obj → Obj
  | .cells c e fr => .cells (if a.spot.isSome then c else c.setIfInBounds a.off v) e fr
  | o => o
def setH (h : Hp) (a : Addr) (v : Value) : Hp := fun i => if i = a.block then (h i).map (wr a v) else h i
def shapeO : Option Obj → Option (TypeId × Nat)
  | some (.cells c e _) => some (e, c.size)
  | _ => none
def frO (a : Addr) (n : Nat) : Obj → Obj
  | .cells c e (lo, hi) => .cells c e (if lo == hi then (a.off, a.off + n) else (min lo a.off, max hi (a.off + n)))
  | o => o
def freezeH (h : Hp) (a : Addr) (n : Nat) : Hp := if n = 0 then h else fun i => if i = a.block then (h i).map (frO a n) else h i
def oneC : Value → Bool
  | .agg _ | .tuple _ => false
  | _ => true
def isRow : Obj → Bool
  | .cells .. => true
  | _ => false

theorem cell_hpOf (w : World) (a : Addr) : w.cell? a = cellH (hpOf w) a := by
  unfold World.cell? cellH hpOf rd
  cases w.heap[a.block]? with
  | none => simp
  | some o => cases o <;> simp
theorem frozen_hpOf (w : World) (a : Addr) : w.frozen? a = frz (hpOf w a.block) a.off := by
  unfold World.frozen? frz hpOf
  cases w.heap[a.block]? with
  | none => simp
  | some o => cases o <;> simp
theorem shape_hpOf (w : World) (r : Nat) : w.shape? r = shapeO (hpOf w r) := by
  unfold World.shape? shapeO hpOf
  cases w.heap[r]? with
  | none => simp
  | some o => cases o <;> simp
theorem modify_get {α : Type} (xs : Array α) (b : Nat) (f : α → α) (i : Nat) : (xs.modify b f)[i]? = if i = b then (xs[i]?).map f else xs[i]? := by
  rw [Array.getElem?_modify]; split <;> split <;> simp_all
theorem setCell_hpOf (w : World) (a : Addr) (v : Value) : hpOf (w.setCell a v) = setH (hpOf w) a v := by
  funext i
  unfold hpOf setH World.setCell
  simp only [modify_get]
  split
  · congr 1
  · rfl
theorem freeze_hpOf (w : World) (a : Addr) (n : Nat) : hpOf (w.freeze a n) = freezeH (hpOf w) a n := by
  unfold World.freeze freezeH
  split
  · rfl
  · funext i
    unfold hpOf
    simp only [modify_get]
    split
    · congr 1
    · rfl
theorem push_hpOf (w : World) (o : Obj) : hpOf { w with heap := w.heap.push o } = upd (hpOf w) w.heap.size o := by
  funext i
  unfold hpOf upd
  simp only [Array.getElem?_push]
theorem setObj_hpOf (w : World) (r : Nat) (o o' : Obj) (h : hpOf w r = some o') : hpOf { w with heap := w.heap.setIfInBounds r o } = upd (hpOf w) r o := by
  funext i
  unfold hpOf upd at *
  have hr : r < w.heap.size := (Array.getElem?_eq_some_iff.1 h).1
  simp only [Array.getElem?_setIfInBounds]
  split
  · rename_i h1; subst h1; simp
  · rename_i h1; rw [if_neg (fun e => h1 e.symm)]
theorem hpOf_fresh (w : World) : hpOf w w.heap.size = none := by simp [hpOf]

/-! ### 2. What a program of the model comes to, over the heap alone -/
def Allowed (q : Question) (n : Nat) : Prop := if q.forced then n = 0 else ∃ t, n = q.cut t
def hwp (P : Program) {α : Type} : Sem α → (α → Hp → Prop) → Hp → Prop
  | .pure a, Q, h => Q a h
  | .load _ a k, Q, h => ∃ v, cellH h a = some v ∧ hwp P (k v) Q h
  | .store _ a v k, Q, h => oneC v = true ∧ (∃ x, cellH h a = some x) ∧ frz (h a.block) a.off = false ∧ hwp P k Q (setH h a v)
  | .new o k, Q, h => ∀ r, h r = none → hwp P (k r) Q (upd h r o)
  | .shape r k, Q, h => hwp P (k (shapeO (h r))) Q h
  | .freeze a n k, Q, h => hwp P k Q (freezeH h a n)
  | .frozen a k, Q, h => hwp P (k (frz (h a.block) a.off)) Q h
  | .getObj r k, Q, h => ∃ o, h r = some o ∧ isRow o = false ∧ hwp P (k o) Q h
  | .setObj r o k, Q, h => (∃ o', h r = some o' ∧ isRow o' = false) ∧ hwp P k Q (upd h r o)
  | .choose q k, Q, h => ∀ n, Allowed q n → hwp P (k n) Q h
  | .sys _ _, _, _ => False
  | .program k, Q, h => hwp P (k P) Q h
  | .mark _ k, Q, h => hwp P k Q h
  | .halt _, _, _ => False

theorem hwp_bind' (P : Program) {α β : Type} (s : Sem α) (f : α → Sem β) (Q : β → Hp → Prop) : ∀ h, hwp P (s.bind f) Q h = hwp P s (fun a h' => hwp P (f a) Q h') h := by
  induction s with
  | pure a => intro h; rfl
  | load m a k ih => intro h; simp only [Sem.bind, hwp, ih]
  | store m a v k ih => intro h; simp only [Sem.bind, hwp, ih]
  | new o k ih => intro h; simp only [Sem.bind, hwp, ih]
  | shape r k ih => intro h; simp only [Sem.bind, hwp, ih]
  | freeze a n k ih => intro h; simp only [Sem.bind, hwp, ih]
  | frozen a k ih => intro h; simp only [Sem.bind, hwp, ih]
  | getObj r k ih => intro h; simp only [Sem.bind, hwp, ih]
  | setObj r o k ih => intro h; simp only [Sem.bind, hwp, ih]
  | choose q k ih => intro h; simp only [Sem.bind, hwp, ih]
  | sys c k ih => intro h; simp only [Sem.bind, hwp]
  | program k ih => intro h; simp only [Sem.bind, hwp, ih]
  | mark m k ih => intro h; simp only [Sem.bind, hwp, ih]
  | halt x => intro h; simp only [Sem.bind, hwp]
theorem hwp_bind (P : Program) {α β : Type} (s : Sem α) (f : α → Sem β) (Q : β → Hp → Prop) (h : Hp) : hwp P (s >>= f) Q h = hwp P s (fun a h' => hwp P (f a) Q h') h := hwp_bind' P s f Q h
theorem hwp_pure (P : Program) {α : Type} (a : α) (Q : α → Hp → Prop) (h : Hp) : hwp P (pure a) Q h = Q a h := rfl
theorem hwp_map (P : Program) {α β : Type} (g : α → β) (s : Sem α) (Q : β → Hp → Prop) (h : Hp) : hwp P (g <$> s) Q h = hwp P s (fun a h' => Q (g a) h') h := hwp_bind' P s (fun a => .pure (g a)) Q h

theorem hwp_sound (P : Program) {α : Type} (s : Sem α) (Q : α → Hp → Prop) : ∀ w, hwp P s Q (hpOf w) → ∃ a w', s.run P w = .ok a w' ∧ Sm w w' ∧ Q a (hpOf w') := by
  induction s with
  | pure a => intro w hq; exact ⟨a, w, rfl, Sm.refl w, hq⟩
  | load m a k ih =>
    intro w ⟨v, hc, hq⟩
    obtain ⟨x, w', hr, hs, hx⟩ := ih v w hq
    refine ⟨x, w', ?_, hs, hx⟩
    rw [← cell_hpOf] at hc
    simp only [Sem.run, hc, hr]
  | store m a v k ih =>
    intro w ⟨h1, ⟨x0, hc⟩, hf, hq⟩
    rw [← setCell_hpOf] at hq
    obtain ⟨x, w', hr, hs, hx⟩ := ih _ hq
    refine ⟨x, w', ?_, ⟨hs.os, hs.tape, hs.output⟩, hx⟩
    rw [← cell_hpOf] at hc
    have hf' : w.frozen? a = false := by rw [frozen_hpOf]; exact hf
    cases v <;> first | (simp only [oneC] at h1; exact absurd h1 (by decide)) | simp only [Sem.run, hc, hf', Bool.false_eq_true, if_false, hr]
  | new o k ih =>
    intro w hq
    have := hq w.heap.size (hpOf_fresh w)
    rw [← push_hpOf] at this
    obtain ⟨x, w', hr, hs, hx⟩ := ih _ _ this
    exact ⟨x, w', by simp only [Sem.run, hr], ⟨hs.os, hs.tape, hs.output⟩, hx⟩
  | shape r k ih =>
    intro w hq
    obtain ⟨x, w', hr, hs, hx⟩ := ih _ w hq
    exact ⟨x, w', by simp only [Sem.run, shape_hpOf, hr], hs, hx⟩
  | freeze a n k ih =>
    intro w hq
    simp only [hwp] at hq
    rw [← freeze_hpOf] at hq
    obtain ⟨x, w', hr, hs, hx⟩ := ih _ hq
    refine ⟨x, w', by simp only [Sem.run, hr], ⟨?_, ?_, ?_⟩, hx⟩
    · rw [hs.os]; unfold World.freeze; split <;> rfl
    · rw [hs.tape]; unfold World.freeze; split <;> rfl
    · rw [hs.output]; unfold World.freeze; split <;> rfl
  | frozen a k ih =>
    intro w hq
    obtain ⟨x, w', hr, hs, hx⟩ := ih _ w hq
    exact ⟨x, w', by simp only [Sem.run, frozen_hpOf, hr], hs, hx⟩
  | getObj r k ih =>
    intro w ⟨o, ho, hn, hq⟩
    obtain ⟨x, w', hr, hs, hx⟩ := ih _ w hq
    refine ⟨x, w', ?_, hs, hx⟩
    have ho' : w.heap[r]? = some o := ho
    cases o <;> first | (simp only [isRow] at hn; exact absurd hn (by decide)) | simp only [Sem.run, ho', hr]
  | setObj r o k ih =>
    intro w ⟨⟨o', ho, hn⟩, hq⟩
    rw [← setObj_hpOf w r o o' ho] at hq
    obtain ⟨x, w', hr, hs, hx⟩ := ih _ hq
    refine ⟨x, w', ?_, ⟨hs.os, hs.tape, hs.output⟩, hx⟩
    have ho' : w.heap[r]? = some o' := ho
    cases o' <;> first | (simp only [isRow] at hn; exact absurd hn (by decide)) | simp only [Sem.run, ho', hr]
  | choose q k ih =>
    intro w hq
    cases hf : q.forced with
    | true =>
      obtain ⟨x, w', hr, hs, hx⟩ := ih 0 w (hq 0 (by simp [Allowed, hf]))
      exact ⟨x, w', by simp only [Sem.run, hf, if_true, hr], hs, hx⟩
    | false =>
      have := hq (q.cut (w.tape w.drawn q)) (by simp only [Allowed, hf, Bool.false_eq_true, if_false]; exact ⟨_, rfl⟩)
      obtain ⟨x, w', hr, hs, hx⟩ := ih _ { w with drawn := w.drawn + 1 } this
      exact ⟨x, w', by simp only [Sem.run, hf, Bool.false_eq_true, if_false, hr], ⟨hs.os, hs.tape, hs.output⟩, hx⟩
  | sys c k ih => intro w hq; exact hq.elim
  | program k ih =>
    intro w hq
    obtain ⟨x, w', hr, hs, hx⟩ := ih _ w hq
    exact ⟨x, w', by simp only [Sem.run, hr], hs, hx⟩
  | mark m k ih =>
    intro w hq
    obtain ⟨x, w', hr, hs, hx⟩ := ih w hq
    exact ⟨x, w', by simp only [Sem.run, hr], hs, hx⟩
  | halt x => intro w hq; exact hq.elim
theorem hwp_mono (P : Program) {α : Type} (s : Sem α) {Q Q' : α → Hp → Prop} (hq : ∀ a h, Q a h → Q' a h) : ∀ h, hwp P s Q h → hwp P s Q' h := by
  induction s with
  | pure a => intro h x; exact hq _ _ x
  | load m a k ih => intro h ⟨v, hc, x⟩; exact ⟨v, hc, ih _ _ x⟩
  | store m a v k ih => intro h ⟨a1, a2, a3, x⟩; exact ⟨a1, a2, a3, ih _ x⟩
  | new o k ih => intro h x r hr; exact ih _ _ (x r hr)
  | shape r k ih => intro h x; exact ih _ _ x
  | freeze a n k ih => intro h x; exact ih _ x
  | frozen a k ih => intro h x; exact ih _ _ x
  | getObj r k ih => intro h ⟨o, a1, a2, x⟩; exact ⟨o, a1, a2, ih _ _ x⟩
  | setObj r o k ih => intro h ⟨a1, x⟩; exact ⟨a1, ih _ x⟩
  | choose q k ih => intro h x n hn; exact ih _ _ (x n hn)
  | sys c k ih => intro h x; exact x
  | program k ih => intro h x; exact ih _ _ x
  | mark m k ih => intro h x; exact ih _ x
  | halt x => intro h x; exact x

/-! ### 3. Calls -/
/-- A call at the heap h hands back a value, R of it and of the heap behind it. -/
def HC (P : Program) (f : FuncId) (args : Array Value) (h : Hp) (R : Value → Hp → Prop) : Prop :=
  ∀ w, hpOf w = h → Calls P f args w fun e w' => ∃ v, e = .returned v ∧ Sm w w' ∧ R v (hpOf w')
theorem HC.mono {P : Program} {f : FuncId} {args : Array Value} {h : Hp} {R R' : Value → Hp → Prop} (hc : HC P f args h R) (hr : ∀ v h', R v h' → R' v h') : HC P f args h R' :=
  fun w hw => (hc w hw).mono fun _ _ ⟨v, e, s, r⟩ => ⟨v, e, s, hr _ _ r⟩

/-! ### 4. Slots by numbers -/
abbrev Env := List (Nat × Value)
def look : Env → Nat → Option Value
  | [], _ => none
  | (k, v) :: r, i => if i = k then some v else look r i
def evO (env : Env) : Operand → Option Value
  | .tmp t => look env t
  | .const v => some v
  | .global g => some (.pointer (some ⟨g, 0, none⟩))
  | .func f => some (.func (.func f) #[] #[])
structure Fits (n : Nat) (env : Env) (a : Act) : Prop where
  size : a.tmps.size = n
  defers : a.defers = []
  look : ∀ k v, look env k = some v → a.tmps[k]? = some v
theorem Fits.ev {n : Nat} {env : Env} {a : Act} (hf : Fits n env a) {x : Operand} {v : Value} (h : evO env x = some v) : a.eval x = v := by
  cases x with
  | tmp t => simp only [evO] at h; have := hf.look _ _ h; simp [Act.eval, Array.getD_eq_getD_getElem?, this]
  | const c => simpa [evO, Act.eval] using h
  | global g => simpa [evO, Act.eval] using h
  | func f => simpa [evO, Act.eval] using h
def putE (d : Option Nat) (v : Value) (env : Env) : Env :=
  match d with
  | some d => (d, v) :: env
  | none => env
def dOk (n : Nat) : Option Nat → Prop
  | some d => d < n
  | none => True
theorem Fits.put {n : Nat} {env : Env} {a : Act} (hf : Fits n env a) {d : Option Nat} (v : Value) (hd : dOk n d) : Fits n (putE d v env) (a.put d v) := by
  cases d with
  | none => exact hf
  | some d =>
    refine ⟨by simp [Act.put, hf.size], by simp [Act.put, hf.defers], ?_⟩
    intro k x hx
    have hlt : d < a.tmps.size := by rw [hf.size]; exact hd
    by_cases e : k = d
    · subst e
      simp only [putE, Hx.look, if_true, Option.some.injEq] at hx
      subst hx
      simp [Act.put, hlt]
    · simp only [putE, Hx.look, if_neg e] at hx
      simp only [Act.put]
      rw [Array.getElem?_setIfInBounds_ne (fun h => e h.symm)]
      exact hf.look _ _ hx
theorem Fits.sub {n : Nat} {env env' : Env} {a : Act} (hf : Fits n env a) (h : ∀ k v, Hx.look env' k = some v → Hx.look env k = some v) : Fits n env' a :=
  ⟨hf.size, hf.defers, fun k v hx => hf.look _ _ (h _ _ hx)⟩

/-! ### 5. A region's operations, one behind the other -/
def HOps (P : Program) (n : Nat) (ops : Array Oper) (l : List Oper) (env : Env) (h : Hp) (K : Env → Hp → Prop) : Prop :=
  ∀ (a : Act) (w : World) (Q : Exit → Act → World → Prop), Fits n env a → hpOf w = h →
    (∀ a' w' env', Sm w w' → Fits n env' a' → K env' (hpOf w') → Q .normal a' w') → wpList P ops Q l a w
theorem HOps.nil {P : Program} {n : Nat} {ops : Array Oper} {env : Env} {h : Hp} {K : Env → Hp → Prop} (hk : K env h) : HOps P n ops [] env h K := by
  intro a w Q hf hw hQ
  exact wpList_nil (hQ _ _ _ (Sm.refl w) hf (by rw [hw]; exact hk))
/-- What stands behind an operation that was carried out. -/
def After (P : Program) (n : Nat) (d : Option Nat) (env : Env) (K : Env → Hp → Prop) : Next → Hp → Prop
  | .value v, h => dOk n d ∧ K (putE d v env) h
  | .skip, h => dOk n d ∧ K (putE d undef env) h
  | .enter f args, h => dOk n d ∧ HC P f args h fun v h' => K (putE d v env) h'
  | _, _ => False
def RunsAs (env : Env) (ρ : Operand → Value) : Prop := ∀ x v, evO env x = some v → ρ x = v
def HOp (P : Program) (n : Nat) (o : Oper) (env : Env) (h : Hp) (K : Env → Hp → Prop) : Prop :=
  ∀ ρ, RunsAs env ρ → hwp P (execOp ρ o) (After P n o.dst env K) h
theorem HOp.run {P : Program} {n : Nat} {o : Oper} {env : Env} {h : Hp} {K : Env → Hp → Prop} (ho : HOp P n o env h K) {a : Act} {w : World} (hf : Fits n env a) (hw : hpOf w = h)
    (next : Act → World → Prop) (Q : Exit → Act → World → Prop) (hn : ∀ a' w' env', Sm w w' → Fits n env' a' → K env' (hpOf w') → next a' w') : o.wp P a w next Q := by
  subst hw
  obtain ⟨nx, w', hr, hs, hA⟩ := hwp_sound P _ _ w (ho a.eval fun x v hx => hf.ev hx)
  unfold Oper.wp
  rw [hr]
  cases nx with
  | value v => exact hn _ _ _ hs (hf.put v hA.1) hA.2
  | skip => exact hn _ _ _ hs (hf.put undef hA.1) hA.2
  | enter f args =>
    obtain ⟨hd, hc⟩ := hA
    refine (hc w' rfl).mono ?_
    rintro e w'' ⟨v, rfl, hs', hk⟩
    exact hn _ _ _ (hs.trans hs') (hf.put v hd) hk
  | _ => exact hA.elim
def gdst (ops : Array Oper) (j : Nat) : Option Nat := (ops[j]?).bind (·.dst)
theorem HOps.cons {P : Program} {n : Nat} {ops : Array Oper} {o : Oper} {l : List Oper} {env : Env} {h : Hp} {K : Env → Hp → Prop} (hg : o.guard = none)
    (ho : HOp P n o env h fun env' h' => HOps P n ops l env' h' K) : HOps P n ops (o :: l) env h K := by
  intro a w Q hf hw hQ
  unfold wpList
  rw [if_pos (by simp [Region.wanted, hg])]
  refine .inl (ho.run hf hw _ _ ?_)
  intro a' w' env' hs hf' hk
  exact hk a' w' Q hf' rfl fun a2 w2 env2 hs2 hf2 hk2 => hQ _ _ _ (hs.trans hs2) hf2 hk2
theorem HOps.yes {P : Program} {n : Nat} {ops : Array Oper} {o : Oper} {l : List Oper} {env : Env} {h : Hp} {K : Env → Hp → Prop} {j : Nat} {b : Bool} {d : Nat} (hg : o.guard = some (j, b))
    (hd : gdst ops j = some d) (hb : look env d = some (.bool b)) (ho : HOp P n o env h fun env' h' => HOps P n ops l env' h' K) : HOps P n ops (o :: l) env h K := by
  intro a w Q hf hw hQ
  have hy : yielded ops a.tmps j = some b := by
    unfold gdst at hd
    simp only [yielded, hd, Option.bind_some, hf.look _ _ hb]
  unfold wpList
  rw [if_pos (by simp [Region.wanted, hg, hy])]
  refine .inl (ho.run hf hw _ _ ?_)
  intro a' w' env' hs hf' hk
  exact hk a' w' Q hf' rfl fun a2 w2 env2 hs2 hf2 hk2 => hQ _ _ _ (hs.trans hs2) hf2 hk2
theorem HOps.no {P : Program} {n : Nat} {ops : Array Oper} {o : Oper} {l : List Oper} {env : Env} {h : Hp} {K : Env → Hp → Prop} {j : Nat} {b : Bool} {c : Value} {d : Nat} (hg : o.guard = some (j, b))
    (hd : gdst ops j = some d) (hb : look env d = some c) (hne : c ≠ .bool b) (hdst : dOk n o.dst) (ho : HOps P n ops l (putE o.dst undef env) h K) : HOps P n ops (o :: l) env h K := by
  intro a w Q hf hw hQ
  have hy : yielded ops a.tmps j ≠ some b := by
    unfold gdst at hd
    simp only [yielded, hd, Option.bind_some, hf.look _ _ hb]
    cases c <;> simp_all
  unfold wpList
  rw [if_neg (by simp [Region.wanted, hg, hy])]
  exact ho _ w Q (hf.put undef hdst) hw hQ

/-! ### 6. Code -/
/-- Ways to leave a piece of code. -/
inductive Ex where
  | normal
  | exit (id : Nat)
  | goto (l : Nat)
  | ret
def Ex.to : Ex → Exit
  | .normal => .normal
  | .exit id => .exit id
  | .goto l => .goto l
  | .ret => .ret
def HW (P : Program) (n : Nat) (c : Code) (env : Env) (h : Hp) (Q : Ex → Env → Hp → Prop) : Prop :=
  ∀ (a : Act) (w : World), Fits n env a → hpOf w = h →
    c.wp P (fun e a' w' => ∃ x env', e = Ex.to x ∧ Sm w w' ∧ Fits n env' a' ∧ Q x env' (hpOf w')) a w
section
variable {P : Program} {n : Nat} {env : Env} {h : Hp} {Q : Ex → Env → Hp → Prop}
theorem HW.mono {c : Code} {Q' : Ex → Env → Hp → Prop} (hc : HW P n c env h Q) (hq : ∀ e env' h', Q e env' h' → Q' e env' h') : HW P n c env h Q' :=
  fun a w hf hw => wp_mono (hc a w hf hw) fun _ _ _ ⟨x, env', e, s, f, q⟩ => ⟨x, env', e, s, f, hq _ _ _ q⟩
theorem HW.sub {c : Code} {env' : Env} (hc : HW P n c env' h Q) (hs : ∀ k v, look env' k = some v → look env k = some v) : HW P n c env h Q :=
  fun a w hf hw => hc a w (hf.sub hs) hw
theorem HW.skip (hk : Q .normal env h) : HW P n .skip env h Q :=
  fun _ w hf hw => wp_skip ⟨.normal, env, rfl, Sm.refl w, hf, by rw [hw]; exact hk⟩
theorem HW.label {l : Nat} (hk : Q .normal env h) : HW P n (.label l) env h Q :=
  fun _ w hf hw => wp_label ⟨.normal, env, rfl, Sm.refl w, hf, by rw [hw]; exact hk⟩
theorem HW.exit {id : Nat} (hk : Q (.exit id) env h) : HW P n (.exit id) env h Q :=
  fun _ w hf hw => wp_exit ⟨.exit id, env, rfl, Sm.refl w, hf, by rw [hw]; exact hk⟩
theorem HW.goto {l : Nat} (hk : Q (.goto l) env h) : HW P n (.goto l) env h Q :=
  fun _ w hf hw => wp_goto ⟨.goto l, env, rfl, Sm.refl w, hf, by rw [hw]; exact hk⟩
theorem HW.ret (hk : Q .ret env h) : HW P n .ret env h Q :=
  fun _ w hf hw => wp_ret ⟨.ret, env, rfl, Sm.refl w, hf, by rw [hw]; exact hk⟩
/-- Behind a first piece: the second one, or the way out. -/
def Seq (K : Env → Hp → Prop) (Q : Ex → Env → Hp → Prop) : Ex → Env → Hp → Prop
  | .normal, env, h => K env h
  | e, env, h => Q e env h
theorem HW.seq {x y : Code} (hx : HW P n x env h (Seq (fun env' h' => HW P n y env' h' Q) Q)) : HW P n (.seq x y) env h Q := by
  intro a w hf hw
  refine wp_seq (wp_mono (hx a w hf hw) ?_)
  rintro e a' w' ⟨x, env', rfl, s, f, q⟩
  cases x with
  | normal =>
    refine wp_mono (q a' w' f rfl) ?_
    rintro e2 a2 w2 ⟨x2, env2, rfl, s2, f2, q2⟩
    exact ⟨x2, env2, rfl, s.trans s2, f2, q2⟩
  | exit id => exact ⟨.exit id, env', rfl, s, f, q⟩
  | goto l => exact ⟨.goto l, env', rfl, s, f, q⟩
  | ret => exact ⟨.ret, env', rfl, s, f, q⟩
theorem HW.cond {c : Operand} {x y : Code} {b : Bool} (hc : evO env c = some (.bool b)) (ht : b = true → HW P n x env h Q) (hn : b = false → HW P n y env h Q) : HW P n (.cond c x y) env h Q := by
  intro a w hf hw
  refine wp_cond_split (hf.ev hc) (fun e => ht e a w hf hw) (fun e => hn e a w hf hw)
def Blk (id : Nat) (Q : Ex → Env → Hp → Prop) : Ex → Env → Hp → Prop
  | .exit id', env, h => if id' = id then Q .normal env h else Q (.exit id') env h
  | e, env, h => Q e env h
theorem HW.block {id : Nat} {c : Code} (hc : HW P n c env h (Blk id Q)) : HW P n (.block id c) env h Q := by
  intro a w hf hw
  refine wp_block (wp_mono (hc a w hf hw) ?_)
  rintro e a' w' ⟨x, env', rfl, s, f, q⟩
  cases x with
  | normal => exact ⟨.normal, env', rfl, s, f, q⟩
  | exit id' =>
    simp only [Ex.to, Exit.inBlock]
    simp only [Blk] at q
    split
    · rename_i e; rw [if_pos e] at q; exact ⟨.normal, env', rfl, s, f, q⟩
    · rename_i e; rw [if_neg e] at q; exact ⟨.exit id', env', rfl, s, f, q⟩
  | goto l => exact ⟨.goto l, env', rfl, s, f, q⟩
  | ret => exact ⟨.ret, env', rfl, s, f, q⟩
/-- A loop: what holds at every round's head, and a number that each round lowers. -/
theorem HW.loop {c : Code} (I : Nat → Env → Hp → Prop) {m : Nat} (h0 : I m env h)
    (round : ∀ m env h, I m env h → HW P n c env h (Seq (fun env' h' => ∃ m', m' < m ∧ I m' env' h') Q)) : HW P n (.loop c) env h Q := by
  intro a w hf hw
  have key : ∀ m, ∀ a₁ w₁ env₁, Sm w w₁ → Fits n env₁ a₁ → I m env₁ (hpOf w₁) →
      ∀ b k cs, ∃ e a' w', (∃ x env', e = Ex.to x ∧ Sm w w' ∧ Fits n env' a' ∧ Q x env' (hpOf w')) ∧ Arrives P (lone (b.at a₁ (.code c :: .inLoop c :: k)) cs w₁) b k cs e a' w' := by
    intro m
    induction m using Nat.strongRecOn with
    | _ m ih =>
      intro a₁ w₁ env₁ hs hf₁ hI b k cs
      obtain ⟨e, a₂, w₂, ⟨x, env₂, rfl, s₂, f₂, q⟩, harr⟩ := round m env₁ _ hI a₁ w₁ hf₁ rfl b (.inLoop c :: k) cs
      cases x with
      | normal =>
        obtain ⟨m', hlt, hI'⟩ := q
        obtain ⟨e', a₃, w₃, hq, harr'⟩ := ih m' hlt a₂ w₂ env₂ (hs.trans s₂) f₂ hI' b k cs
        exact ⟨e', a₃, w₃, hq, .of_steps (Steps.trans harr (.one step_inLoop)) harr'⟩
      | exit id => exact ⟨_, a₂, w₂, ⟨.exit id, env₂, rfl, hs.trans s₂, f₂, q⟩, .pass (x := .inLoop c) rfl (fun _ _ => .inl (by simp [Ex.to])) harr⟩
      | goto l => exact ⟨_, a₂, w₂, ⟨.goto l, env₂, rfl, hs.trans s₂, f₂, q⟩, .pass (x := .inLoop c) rfl (fun _ _ => .inl (by simp [Ex.to])) harr⟩
      | ret => exact ⟨_, a₂, w₂, ⟨.ret, env₂, rfl, hs.trans s₂, f₂, q⟩, .pass (x := .inLoop c) rfl (fun _ _ => .inl (by simp [Ex.to])) harr⟩
  subst hw
  intro b k cs
  obtain ⟨e, a', w', hq, harr⟩ := key m a w env (Sm.refl w) hf h0 b k cs
  exact ⟨e, a', w', hq, .of_steps (.one step_loop) harr⟩
theorem HW.region {id : Nat} {l : List Oper} (ho : HOps P n l.toArray l env h fun env' h' => Q .normal env' h') : HW P n (.region id l.toArray false) env h Q := by
  intro a w hf hw
  exact wp_region_lit (ho a w _ hf hw fun a' w' env' s f k => ⟨.normal, env', rfl, s, f, k⟩)
end

/-! ### 7. A function's body -/
def resV (h : Hp) (env : Env) : ResultVar → Option Value
  | .tmp t => look env t
  | .cell _ _ => none
theorem HC.of_body {P : Program} {f : FuncId} {fn : Func} {c : Code} {args : Array Value} {h : Hp} {R : Value → Hp → Prop} (hf : P.funcs[f]? = some fn) (hb : fn.body = some c)
    {n : Nat} (hn : fn.ntmps = n) (hle : args.size ≤ n) {env : Env} (henv : ∀ k v, look env k = some v → args[k]? = some v)
    (hc : HW P n c env h fun e env' h' => (e = .normal ∨ e = .ret) ∧ ∀ a w', Fits n env' a → hpOf w' = h' → ∃ v, (results fn a.tmps).run P w' = .ok v w' ∧ R v h') : HC P f args h R := by
  intro w hw
  refine calls_of_wp hf hb ?_
  have hfit : Fits n env { tmps := args ++ Array.replicate (fn.ntmps - args.size) undef, defers := [] } := by
    refine ⟨by simp [hn]; omega, rfl, ?_⟩
    intro k v hk
    have := henv k v hk
    have hlt : k < args.size := (Array.getElem?_eq_some_iff.1 this).1
    simp [Array.getElem?_append, hlt, this]
    exact (Array.getElem?_eq_some_iff.1 this).2
  refine wp_mono (hc _ w hfit hw) ?_
  rintro e a' w' ⟨x, env', rfl, s, ft, hx, hq⟩
  obtain ⟨v, hr, hR⟩ := hq a' w' ft rfl
  rcases hx with rfl | rfl
  · exact ⟨ft.defers, v, hr, v, rfl, s, hR⟩
  · exact ⟨ft.defers, v, hr, v, rfl, s, hR⟩
end Go.Hx
