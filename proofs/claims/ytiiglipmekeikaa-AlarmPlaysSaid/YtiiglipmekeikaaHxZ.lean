/- Rules for code: bodies, results, sequences, loops. -/
import Derived.Test.YtiiglipmekeikaaHxY
set_option linter.unusedVariables false
set_option linter.unusedSimpArgs false
namespace Go.Hx

/-! ### 1. What only reads leaves the world as it is -/
def Quiet {α : Type} : Sem α → Prop
  | .pure _ => True
  | .load _ _ k => ∀ v, Quiet (k v)
  | .shape _ k => ∀ v, Quiet (k v)
  | .getObj _ k => ∀ v, Quiet (k v)
  | .frozen _ k => ∀ v, Quiet (k v)
  | .program k => ∀ v, Quiet (k v)
  | .halt _ => True
  | _ => False
theorem Quiet.bind' {α β : Type} {s : Sem α} {f : α → Sem β} (hs : Quiet s) (hf : ∀ a, Quiet (f a)) : Quiet (s.bind f) := by
  induction s with
  | pure a => exact hf a
  | load m a k ih => exact fun v => ih v (hs v)
  | shape r k ih => exact fun v => ih v (hs v)
  | getObj r k ih => exact fun v => ih v (hs v)
  | frozen r k ih => exact fun v => ih v (hs v)
  | program k ih => exact fun v => ih v (hs v)
  | halt x => trivial
  | _ => exact hs.elim
theorem Quiet.bind {α β : Type} {s : Sem α} {f : α → Sem β} (hs : Quiet s) (hf : ∀ a, Quiet (f a)) : Quiet (s >>= f) := Quiet.bind' hs hf
theorem Quiet.pure {α : Type} (a : α) : Quiet (Pure.pure a : Sem α) := trivial
theorem Quiet.run {α : Type} {P : Program} {s : Sem α} (hs : Quiet s) {Q : α → Hp → Prop} {w : World} (hq : hwp P s Q (hpOf w)) : ∃ a, s.run P w = .ok a w ∧ Q a (hpOf w) := by
  induction s with
  | pure a => exact ⟨a, rfl, hq⟩
  | load m a k ih =>
    obtain ⟨v, hc, hq⟩ := hq
    obtain ⟨x, hr, hx⟩ := ih v (hs v) hq
    rw [← cell_hpOf] at hc
    exact ⟨x, by simp only [Sem.run, hc, hr], hx⟩
  | shape r k ih =>
    obtain ⟨x, hr, hx⟩ := ih _ (hs _) hq
    exact ⟨x, by simp only [Sem.run, shape_hpOf, hr], hx⟩
  | getObj r k ih =>
    obtain ⟨o, ho, hn, hq⟩ := hq
    obtain ⟨x, hr, hx⟩ := ih _ (hs _) hq
    have ho' : w.heap[r]? = some o := ho
    refine ⟨x, ?_, hx⟩
    cases o <;> first | (simp only [isRow] at hn; exact absurd hn (by decide)) | simp only [Sem.run, ho', hr]
  | frozen r k ih =>
    obtain ⟨x, hr, hx⟩ := ih _ (hs _) hq
    exact ⟨x, by simp only [Sem.run, frozen_hpOf, hr], hx⟩
  | program k ih =>
    obtain ⟨x, hr, hx⟩ := ih _ (hs _) hq
    exact ⟨x, by simp only [Sem.run, hr], hx⟩
  | halt x => exact hq.elim
  | _ => exact hs.elim
theorem quiet_typeInfo (t : TypeId) : Quiet (typeInfo t) := by
  unfold typeInfo
  refine Quiet.bind (fun v => trivial) fun p => ?_
  split
  · exact Quiet.pure _
  · trivial
theorem quiet_underlying (t : TypeId) : Quiet (underlying t) := by
  unfold underlying
  refine Quiet.bind (fun v => trivial) fun p => ?_
  split
  · exact Quiet.pure _
  · trivial
theorem quiet_loadCells (a : Addr) : ∀ (n i : Nat) (acc : Array Value), Quiet (loadCellsFrom a i n acc) := by
  intro n
  induction n with
  | zero => intro i acc; exact Quiet.pure _
  | succ n ih => intro i acc; exact Quiet.bind (fun v => trivial) fun v => ih _ _
theorem quiet_loadVar (t : TypeId) (a : Addr) : Quiet (loadVar t a) := by
  unfold loadVar
  refine Quiet.bind ?_ fun b => ?_
  · unfold isAgg
    refine Quiet.bind (quiet_underlying _) fun d => ?_
    cases d <;> exact Quiet.pure _
  · split
    · refine Quiet.bind ?_ fun n => Quiet.bind (quiet_loadCells _ _ _ _) fun _ => Quiet.pure _
      exact Quiet.bind (quiet_typeInfo _) fun _ => Quiet.pure _
    · exact fun v => trivial
theorem quiet_mapM {α β : Type} (f : α → Sem β) (hf : ∀ a, Quiet (f a)) : ∀ xs : List α, Quiet (xs.mapM f) := by
  intro xs
  induction xs with
  | nil => simp only [List.mapM_nil]; exact Quiet.pure _
  | cons x xs ih => simp only [List.mapM_cons]; exact Quiet.bind (hf x) fun _ => Quiet.bind ih fun _ => Quiet.pure _

/-! ### 2. Results -/
def resOne (P : Program) (env : Env) (h : Hp) : ResultVar → Option Value
  | .tmp t => look env t
  | .cell a t => match look env a with
    | some v => loadV P t v h
    | none => none
def resAll (P : Program) (env : Env) (h : Hp) : List ResultVar → Option (List Value)
  | [] => some []
  | r :: rs => match resOne P env h r with
    | some v => match resAll P env h rs with
      | some vs => some (v :: vs)
      | none => none
    | none => none
def outV : List Value → Value
  | [v] => v
  | vs => .tuple vs.toArray
/-- A body's end: its results. -/
def RetK (P : Program) (rs : List ResultVar) (R : Value → Hp → Prop) : Ex → Env → Hp → Prop
  | .normal, env, h | .ret, env, h => Ll (resAll P env h rs) fun vs => R (outV vs) h
  | _, _, _ => False
theorem resAll_run {P : Program} {n : Nat} {env : Env} {a : Act} (hf : Fits n env a) {h : Hp} : ∀ (rs : List ResultVar) (vs : List Value), resAll P env h rs = some vs → ∀ (Q : List Value → Hp → Prop), Q vs h →
    hwp P (rs.mapM fun
      | .tmp t => pure (a.tmps.getD t undef)
      | .cell x t => do loadVar t (← asAddr (a.tmps.getD x undef))) Q h := by
  intro rs
  induction rs with
  | nil => intro vs hv Q hq; simp only [resAll, Option.some.injEq] at hv; subst hv; simpa [hwp_pure] using hq
  | cons r rs ih =>
    intro vs hv Q hq
    simp only [resAll] at hv
    split at hv
    · rename_i v hv1
      split at hv
      · rename_i vs' hv2
        simp only [Option.some.injEq] at hv
        subst hv
        simp only [List.mapM_cons]
        rw [hwp_bind]
        cases r with
        | tmp t =>
          simp only [resOne] at hv1
          have := hf.ev (x := .tmp t) hv1
          simp only [Act.eval] at this
          simp only []
          rw [this, hwp_pure, hwp_bind]
          exact ih _ hv2 _ hq
        | cell x t =>
          simp only [resOne] at hv1
          split at hv1
          · rename_i pv hpv
            have := hf.ev (x := .tmp x) hpv
            simp only [Act.eval] at this
            simp only []
            rw [this]
            unfold loadV at hv1
            split at hv1
            · rename_i b o
              simp only [asAddr, hwp_bind, hwp_pure]
              have hl := load_ok (P := P) (t := t) (v := .pointer (some ⟨b, o, none⟩)) (r := v) (h := h) (by unfold loadV; exact hv1) (fun v' h' => v' = v ∧ h' = h) ⟨rfl, rfl⟩
              unfold Instr.loadAt at hl
              rw [hwp_bind] at hl
              refine hwp_mono P _ ?_ h hl
              rintro v' h' ⟨rfl, rfl⟩
              exact ih _ hv2 _ hq
            · cases hv1
          · cases hv1
      · cases hv
    · cases hv
def envOf : Nat → List Value → Env
  | _, [] => []
  | i, v :: vs => (i, v) :: envOf (i + 1) vs
theorem look_envOf : ∀ (vs : List Value) (i k : Nat) (v : Value), look (envOf i vs) k = some v → i ≤ k ∧ vs[k - i]? = some v := by
  intro vs
  induction vs with
  | nil => intro i k v h; simp [envOf, look] at h
  | cons x vs ih =>
    intro i k v h
    simp only [envOf, look] at h
    split at h
    · rename_i e; subst e; simp only [Option.some.injEq] at h; subst h; simp
    · obtain ⟨h1, h2⟩ := ih _ _ _ h
      refine ⟨by omega, ?_⟩
      rw [show k - i = (k - (i + 1)) + 1 by omega, List.getElem?_cons_succ]
      exact h2
/-- A function's body is entered. -/
theorem HC.enter {P : Program} {f : FuncId} {fn : Func} {c : Code} {args : List Value} {h : Hp} {R : Value → Hp → Prop} {n : Nat} {rs : List ResultVar} (hf : P.funcs[f]? = some fn) (hb : fn.body = some c)
    (hn : fn.ntmps = n) (hr : fn.results = rs.toArray) (hle : args.length ≤ n) (hc : HW P n c (envOf 0 args) h (RetK P rs R)) : HC P f args.toArray h R := by
  refine HC.of_body hf hb hn (by simpa using hle) (env := envOf 0 args) ?_ (hc.mono ?_)
  · intro k v hk
    have := look_envOf _ _ _ _ hk
    simpa using this.2
  · intro e env' h' hq
    refine ⟨?_, ?_⟩
    · cases e <;> first | exact .inl rfl | exact .inr rfl | exact hq.elim
    · intro a w' hfit hw
      have hq' : Ll (resAll P env' h' rs) fun vs => R (outV vs) h' := by cases e <;> first | exact hq | exact hq.elim
      obtain ⟨vs, hv, hR⟩ := hq'
      subst hw
      have hquiet : Quiet (results fn a.tmps) := by
        unfold results
        rw [hr, Array.mapM_eq_mapM_toList]
        refine Quiet.bind (Quiet.bind (quiet_mapM _ ?_ _) fun _ => Quiet.pure _) fun _ => Quiet.pure _
        intro r
        cases r with
        | tmp t => exact Quiet.pure _
        | cell x t =>
          refine Quiet.bind ?_ fun _ => quiet_loadVar _ _
          cases a.tmps.getD x undef with
          | pointer p =>
            cases p with
            | some a => exact Quiet.pure _
            | none => exact fun v => trivial
          | _ => trivial
      have hw' : hwp P (results fn a.tmps) (fun v h => v = outV vs) (hpOf w') := by
        unfold results
        rw [hr, hwp_bind, Array.mapM_eq_mapM_toList, hwp_map]
        refine resAll_run hfit rs vs hv _ ?_
        rw [hwp_pure]
        clear hv hR
        rcases vs with _ | ⟨v, _ | ⟨u, t⟩⟩
        · rfl
        · rfl
        · simp [outV]
      obtain ⟨v, hrun, rfl⟩ := hquiet.run hw'
      exact ⟨_, hrun, hR⟩
theorem CallK.of {P : Program} {f : FuncId} {fn : Func} {c : Code} {args : List Value} {h : Hp} {R : Value → Hp → Prop} {n : Nat} {rs : List ResultVar} (hf : P.funcs[f]? = some fn) (hname : (fn.name == "runtime.NumGoroutine") = false) (hb : fn.body = some c)
    (hn : fn.ntmps = n) (hr : fn.results = rs.toArray) (hle : args.length ≤ n) (hc : HW P n c (envOf 0 args) h (RetK P rs R)) : CallK P f args h R :=
  ⟨⟨fn, hf, hname, by rw [hb]; rfl⟩, HC.enter hf hb hn hr hle hc⟩

/-! ### 3. Code -/
section
variable {P : Program} {n : Nat} {env : Env} {h : Hp} {Q : Ex → Env → Hp → Prop}
theorem HW.seqR {id : Nat} {l : List Oper} {y : Code} (hd : opsOk n l = true) (hx : ∀ K : Env → Hp → Prop, (∀ env' h', HW P n y env' h' Q → K env' h') → XOps P l.toArray l env h K) : HW P n (.seq (.region id l.toArray false) y) env h Q :=
  HW.seq (HW.rgn hd (hx _ fun _ _ hk => hk))
theorem HW.rgnK {id : Nat} {l : List Oper} (hd : opsOk n l = true) (hx : ∀ K : Env → Hp → Prop, (∀ env' h', Q .normal env' h' → K env' h') → XOps P l.toArray l env h K) : HW P n (.region id l.toArray false) env h Q :=
  HW.rgn hd (hx _ fun _ _ hk => hk)
theorem HW.seqL {x1 x2 y : Code} (hx : HW P n (.seq x1 x2) env h (Seq (fun env' h' => HW P n y env' h' Q) Q)) : HW P n (.seq (.seq x1 x2) y) env h Q := HW.seq hx
theorem HW.ite {c : Operand} {x y : Code} {b : Bool} (hc : evO env c = some (.bool b)) (ht : b = true → HW P n x env h Q) (hn : b = false → HW P n y env h Q) : HW P n (.cond c x y) env h Q := HW.cond hc ht hn
theorem HW.iteS {c : Operand} {x y z : Code} {b : Bool} (hc : evO env c = some (.bool b)) (ht : b = true → HW P n x env h (Seq (fun env' h' => HW P n z env' h' Q) Q)) (hn : b = false → HW P n y env h (Seq (fun env' h' => HW P n z env' h' Q) Q)) : HW P n (.seq (.cond c x y) z) env h Q := HW.seq (HW.cond hc ht hn)
/-- A first piece, and what is handed on to the second one. -/
theorem HW.cut {x y : Code} (J : Env → Hp → Prop) (hx : HW P n x env h (Seq J Q)) (hy : ∀ env' h', J env' h' → HW P n y env' h' Q) : HW P n (.seq x y) env h Q := by
  refine HW.seq (hx.mono ?_)
  intro e env' h' q
  cases e <;> first | exact hy _ _ q | exact q
theorem HW.condT {c : Operand} {x y : Code} (hc : evO env c = some (.bool true)) (hx : HW P n x env h Q) : HW P n (.cond c x y) env h Q := HW.cond hc (fun _ => hx) (fun e => by cases e)
theorem HW.condF {c : Operand} {x y : Code} (hc : evO env c = some (.bool false)) (hx : HW P n y env h Q) : HW P n (.cond c x y) env h Q := HW.cond hc (fun e => by cases e) (fun _ => hx)
variable {K : Env → Hp → Prop} {id : Nat}
theorem Seq.normal (h0 : K env h) : Seq K Q .normal env h := h0
theorem Seq.ret (h0 : Q .ret env h) : Seq K Q .ret env h := h0
theorem Seq.exit (h0 : Q (.exit id) env h) : Seq K Q (.exit id) env h := h0
theorem Blk.normal (h0 : Q .normal env h) : Blk id Q .normal env h := h0
theorem Blk.ret (h0 : Q .ret env h) : Blk id Q .ret env h := h0
theorem Blk.here (h0 : Q .normal env h) : Blk id Q (.exit id) env h := by simp only [Blk, if_true]; exact h0
theorem Blk.out {id' : Nat} (hne : id' ≠ id) (h0 : Q (.exit id') env h) : Blk id Q (.exit id') env h := by simp only [Blk, if_neg hne]; exact h0
end
theorem RetK.one {P : Program} {r : ResultVar} {R : Value → Hp → Prop} {env : Env} {h : Hp} {v : Value} (hv : resOne P env h r = some v) (hr : R v h) : RetK P [r] R .ret env h :=
  ⟨[v], by simp [resAll, hv], hr⟩
theorem RetK.oneN {P : Program} {r : ResultVar} {R : Value → Hp → Prop} {env : Env} {h : Hp} {v : Value} (hv : resOne P env h r = some v) (hr : R v h) : RetK P [r] R .normal env h :=
  ⟨[v], by simp [resAll, hv], hr⟩
theorem RetK.nil {P : Program} {R : Value → Hp → Prop} {env : Env} {h : Hp} (hr : R (.tuple #[]) h) : RetK P [] R .ret env h := ⟨[], rfl, hr⟩
theorem RetK.nilN {P : Program} {R : Value → Hp → Prop} {env : Env} {h : Hp} (hr : R (.tuple #[]) h) : RetK P [] R .normal env h := ⟨[], rfl, hr⟩
theorem RetK.two {P : Program} {r s : ResultVar} {R : Value → Hp → Prop} {env : Env} {h : Hp} {v u : Value} (hv : resOne P env h r = some v) (hu : resOne P env h s = some u) (hr : R (.tuple #[v, u]) h) : RetK P [r, s] R .ret env h :=
  ⟨[v, u], by simp [resAll, hv, hu], hr⟩
theorem RetK.three {P : Program} {r s t : ResultVar} {R : Value → Hp → Prop} {env : Env} {h : Hp} {v u x : Value} (hv : resOne P env h r = some v) (hu : resOne P env h s = some u) (hx : resOne P env h t = some x) (hr : R (.tuple #[v, u, x]) h) : RetK P [r, s, t] R .ret env h :=
  ⟨[v, u, x], by simp [resAll, hv, hu, hx], hr⟩
end Go.Hx
