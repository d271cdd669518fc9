/- A region's operations as one formula: what is left to show, operation by operation. -/
import Derived.Test.YtiiglipmekeikaaHxOps3
set_option linter.unusedVariables false
set_option linter.unusedSimpArgs false
namespace Go.Hx
open Go.Instr

/-! ### 1. Words -/
/-- Always there: a rule for congruence that has this ahead of it never stands aside. -/
def Dm : Prop := True
theorem Dm_eq : Dm = True := propext ⟨fun _ => trivial, fun _ => trivial⟩
def Vl (o : Option Value) (K : Value → Prop) : Prop := ∃ v, o = some v ∧ K v
theorem Vl_some (v : Value) (K : Value → Prop) : Vl (some v) K = K v := by simp [Vl]
@[congr] theorem Vl_congr {o o' : Option Value} {p : Prop} (dm : Dm = p) (h : o = o') (K : Value → Prop) : Vl o K = Vl o' K := by rw [h]
def Ll {α : Type} (o : Option (List α)) (K : List α → Prop) : Prop := ∃ v, o = some v ∧ K v
theorem Ll_some {α : Type} (v : List α) (K : List α → Prop) : Ll (some v) K = K v := by simp [Ll]
@[congr] theorem Ll_congr {α : Type} {o o' : Option (List α)} {p : Prop} (dm : Dm = p) (h : o = o') (K : List α → Prop) : Ll o K = Ll o' K := by rw [h]
def Pl (o : Option (TypeId × List Value)) (K : TypeId → List Value → Prop) : Prop := ∃ e l, o = some (e, l) ∧ K e l
theorem Pl_some (e : TypeId) (l : List Value) (K : TypeId → List Value → Prop) : Pl (some (e, l)) K = K e l :=
  propext ⟨fun ⟨_, _, h, k⟩ => by cases h; exact k, fun k => ⟨e, l, rfl, k⟩⟩
@[congr] theorem Pl_congr {o o' : Option (TypeId × List Value)} {p : Prop} (dm : Dm = p) (h : o = o') (K : TypeId → List Value → Prop) : Pl o K = Pl o' K := by rw [h]
def Hl (o : Option Hp) (K : Hp → Prop) : Prop := ∃ h, o = some h ∧ K h
theorem Hl_some (h : Hp) (K : Hp → Prop) : Hl (some h) K = K h := by simp [Hl]
@[congr] theorem Hl_congr {o o' : Option Hp} {p : Prop} (dm : Dm = p) (e : o = o') (K : Hp → Prop) : Hl o K = Hl o' K := by rw [e]
/-- New memory: at whatever block is free. -/
def NewK (h : Hp) (o : Obj) (K : Nat → Hp → Prop) : Prop := ∀ b, h b = none → K b (upd h b o)
@[congr] theorem NewK_congr {h h' : Hp} {o o' : Obj} {p : Prop} (dm : Dm = p) (e1 : h = h') (e2 : o = o') (K : Nat → Hp → Prop) : NewK h o K = NewK h' o' K := by rw [e1, e2]
def Ent (P : Program) (f : FuncId) : Prop := ∃ fn, P.funcs[f]? = some fn ∧ (fn.name == "runtime.NumGoroutine") = false ∧ fn.body.isNone = false
/-- A call of a function by its number. -/
def CallK (P : Program) (f : FuncId) (args : List Value) (h : Hp) (K : Value → Hp → Prop) : Prop := Ent P f ∧ HC P f args.toArray h K
@[congr] theorem CallK_congr (P : Program) {f f' : FuncId} {args args' : List Value} {h h' : Hp} {p : Prop} (dm : Dm = p) (e0 : f = f') (e1 : args = args') (e2 : h = h') (K : Value → Hp → Prop) : CallK P f args h K = CallK P f' args' h' K := by rw [e0, e1, e2]
theorem CallK.mono {P : Program} {f : FuncId} {args : List Value} {h : Hp} {K K' : Value → Hp → Prop} (hc : CallK P f args h K) (hk : ∀ v h', K v h' → K' v h') : CallK P f args h K' := ⟨hc.1, hc.2.mono hk⟩
def FnK (P : Program) (f : Value) (args : List Value) (h : Hp) (K : Value → Hp → Prop) : Prop :=
  match f with
  | .func (.func g) first cap => CallK P g (first.toList ++ args ++ cap.toList) h K
  | _ => False
@[congr] theorem FnK_congr (P : Program) {f f' : Value} {args args' : List Value} {h h' : Hp} {p : Prop} (dm : Dm = p) (e0 : f = f') (e1 : args = args') (e2 : h = h') (K : Value → Hp → Prop) : FnK P f args h K = FnK P f' args' h' K := by rw [e0, e1, e2]
theorem FnK_plain (P : Program) (g : FuncId) (args : List Value) (h : Hp) (K : Value → Hp → Prop) : FnK P (.func (.func g) #[] #[]) args h K = CallK P g args h K := by
  show CallK P g ([] ++ args ++ []) h K = _
  rw [List.nil_append, List.append_nil]
theorem FnK_cap (P : Program) (g : FuncId) (cap : List Value) (args : List Value) (h : Hp) (K : Value → Hp → Prop) : FnK P (.func (.func g) #[] cap.toArray) args h K = CallK P g (args ++ cap) h K := by
  show CallK P g ([] ++ args ++ cap.toArray.toList) h K = _
  rw [List.nil_append]
def InvK (P : Program) (r : Value) (name : String) (args : List Value) (h : Hp) (K : Value → Hp → Prop) : Prop :=
  match r with
  | .iface t v => ∃ f x, methV P t v name h = some (f, x) ∧ CallK P f (x :: args) h K
  | _ => False
@[congr] theorem InvK_congr (P : Program) {r r' : Value} {name : String} {args args' : List Value} {h h' : Hp} {p : Prop} (dm : Dm = p) (e0 : r = r') (e1 : args = args') (e2 : h = h') (K : Value → Hp → Prop) : InvK P r name args h K = InvK P r' name args' h' K := by rw [e0, e1, e2]
def AppK (P : Program) (ts : Array TypeId) (s x : Value) (h : Hp) (K : Value → Hp → Prop) : Prop := ∀ ty, hwp P (Builtin.append_ ts ty #[s, x]) K h
@[congr] theorem AppK_congr (P : Program) {ts : Array TypeId} {s s' x x' : Value} {h h' : Hp} {p : Prop} (dm : Dm = p) (e0 : s = s') (e1 : x = x') (e2 : h = h') (K : Value → Hp → Prop) : AppK P ts s x h K = AppK P ts s' x' h' K := by rw [e0, e1, e2]
def CopyK (P : Program) (ts : Array TypeId) (s x : Value) (h : Hp) (K : Value → Hp → Prop) : Prop := ∀ ty, hwp P (Builtin.copy_ ts ty #[s, x]) K h
@[congr] theorem CopyK_congr (P : Program) {ts : Array TypeId} {s s' x x' : Value} {h h' : Hp} {p : Prop} (dm : Dm = p) (e0 : s = s') (e1 : x = x') (e2 : h = h') (K : Value → Hp → Prop) : CopyK P ts s x h K = CopyK P ts s' x' h' K := by rw [e0, e1, e2]
/-- Whatever else: the model's own program, at values. -/
def SemK (P : Program) (s : Sem Value) (h : Hp) (K : Value → Hp → Prop) : Prop := hwp P s K h
@[congr] theorem SemK_congr (P : Program) {s s' : Sem Value} {h h' : Hp} {p : Prop} (dm : Dm = p) (e0 : s = s') (e1 : h = h') (K : Value → Hp → Prop) : SemK P s h K = SemK P s' h' K := by rw [e0, e1]
/-- A guarded operation: is it carried out? -/
def GdK (c : Option Value) (b : Bool) (y n : Prop) : Prop := ∃ v, c = some v ∧ (v = .bool b → y) ∧ (v ≠ .bool b → n)
@[congr] theorem GdK_congr {c c' : Option Value} {p : Prop} (dm : Dm = p) (e : c = c') (b : Bool) (y n : Prop) : GdK c b y n = GdK c' b y n := by rw [e]
theorem GdK_yes (b : Bool) (y n : Prop) : GdK (some (.bool b)) b y n = y := by simp [GdK]
theorem GdK_tf (y n : Prop) : GdK (some (.bool true)) false y n = n := by simp [GdK]
theorem GdK_ft (y n : Prop) : GdK (some (.bool false)) true y n = n := by simp [GdK]
theorem GdK_split {c : Bool} {b : Bool} {y n : Prop} (hy : c = b → y) (hn : c ≠ b → n) : GdK (some (.bool c)) b y n := ⟨_, rfl, fun e => hy (by simpa using e), fun e => hn (by simpa using e)⟩
theorem GdK_un (b : Bool) (y n : Prop) : GdK (some undef) b y n = n := by simp [GdK, undef]

def evL (env : Env) : List Operand → Option (List Value)
  | [] => some []
  | x :: xs => match evO env x with
    | some v => match evL env xs with
      | some vs => some (v :: vs)
      | none => none
    | none => none
def evP (env : Env) : List (Nat × Operand) → Option (List (Nat × Value))
  | [] => some []
  | (i, x) :: xs => match evO env x with
    | some v => match evP env xs with
      | some vs => some ((i, v) :: vs)
      | none => none
    | none => none
def evM (env : Env) : Option Operand → Option (Option Value)
  | none => some none
  | some x => (evO env x).map some
theorem evL_ok {env : Env} {ρ : Operand → Value} (hρ : RunsAs env ρ) : ∀ {xs : List Operand} {vs : List Value}, evL env xs = some vs → xs.map ρ = vs := by
  intro xs
  induction xs with
  | nil => intro vs h; simp only [evL, Option.some.injEq] at h; subst h; rfl
  | cons x xs ih =>
    intro vs h
    simp only [evL] at h
    split at h
    · rename_i v hv
      split at h
      · rename_i vs' hvs
        simp only [Option.some.injEq] at h
        subst h
        rw [List.map_cons, ih hvs, hρ _ _ hv]
      · cases h
    · cases h
theorem evP_ok {env : Env} {ρ : Operand → Value} (hρ : RunsAs env ρ) : ∀ {xs : List (Nat × Operand)} {vs : List (Nat × Value)}, evP env xs = some vs → xs.map (fun (i, x) => (i, ρ x)) = vs := by
  intro xs
  induction xs with
  | nil => intro vs h; simp only [evP, Option.some.injEq] at h; subst h; rfl
  | cons x xs ih =>
    intro vs h
    obtain ⟨i, x⟩ := x
    simp only [evP] at h
    split at h
    · rename_i v hv
      split at h
      · rename_i vs' hvs
        simp only [Option.some.injEq] at h
        subst h
        rw [List.map_cons, ih hvs]
        simp only [hρ _ _ hv]
      · cases h
    · cases h
theorem evM_ok {env : Env} {ρ : Operand → Value} (hρ : RunsAs env ρ) {x : Option Operand} {v : Option Value} (h : evM env x = some v) : x.map ρ = v := by
  cases x with
  | none => simp only [evM, Option.some.injEq] at h; subst h; rfl
  | some x =>
    simp only [evM] at h
    cases he : evO env x with
    | none => rw [he] at h; cases h
    | some w => rw [he] at h; simp only [Option.map_some, Option.some.injEq] at h; subst h; simp [hρ _ _ he]

theorem evA_ok {env : Env} {ρ : Operand → Value} (hρ : RunsAs env ρ) {xs : Array Operand} {vs : List Value} (h : evL env xs.toList = some vs) : xs.map ρ = vs.toArray := by
  rw [← evL_ok hρ h]
  apply Array.ext'
  rw [Array.toList_map]

/-! ### 2. Operations -/
def ptrV (b : Nat) : Value := .pointer (some ⟨b, 0, none⟩)
def bltX (P : Program) (b : Builtin) (ts : Array TypeId) (args : List Value) (h : Hp) (K : Value → Hp → Prop) : Prop :=
  match b, args with
  | .len, [x] => Vl (lenV P (ts.getD 0 0) x h) fun v => K v h
  | .cap, [x] => Vl (capV P (ts.getD 0 0) x) fun v => K v h
  | .append, [s, x] => AppK P ts s x h K
  | .copy, [s, x] => CopyK P ts s x h K
  | .delete, [m, k] => Hl (mapDelV P (ts.getD 0 0) m k h) fun h' => K (.tuple #[]) h'
  | .max, l => SemK P (Builtin.max_ ts 0 l.toArray) h K
  | .min, l => SemK P (Builtin.min_ ts 0 l.toArray) h K
  | .clear, l => SemK P (Builtin.clear_ ts 0 l.toArray) h K
  | _, _ => False
def opX (P : Program) (op : Op) (ty : TypeId) (env : Env) (h : Hp) (K : Value → Hp → Prop) : Prop :=
  match op with
  | .move x | .assign x => Vl (evO env x) fun v => K v h
  | .pick c a b => Vl (evO env c) fun cv => Vl (evO env a) fun av => Vl (evO env b) fun bv => Vl (pickV cv av bv) fun v => K v h
  | .alloc t => Vl (zeroK P t) fun z => NewK h (.cells z.cells t) fun b h' => K (ptrV b) h'
  | .box t x => Vl (evO env x) fun v => NewK h (.cells v.cells t) fun b h' => K (ptrV b) h'
  | .build t ps => Ll (evP env ps.toList) fun l => Vl (buildV P t l) fun v => K v h
  | .buildSlice t n ps => Ll (evP env ps.toList) fun l => Pl (bslL P t n l) fun e cs => NewK h (.cells cs.toArray e) fun b h' => K (.slice (some ⟨b, 0, none⟩) n n) h'
  | .load t a => Vl (evO env a) fun v => Vl (loadV P t v h) fun r => K r h
  | .store t a x => Vl (evO env a) fun av => Vl (evO env x) fun xv => Hl (storeV P t av xv h) fun h' => K undef h'
  | .nilCheck x => Vl (evO env x) fun v => Vl (nilV v) fun r => K r h
  | .binOp o t x y _ => Vl (evO env x) fun xv => Vl (evO env y) fun yv => Vl (binV P o t xv yv) fun r => K r h
  | .unOp o _ x => Vl (evO env x) fun v => Vl (unV o v) fun r => K r h
  | .convert s d x => Vl (evO env x) fun v => Vl (convV P s d v) fun r => K r h
  | .makeInterface t x => Vl (evO env x) fun v => Vl (mkIfV P t v) fun r => K r h
  | .makeFunc fn first cap => Ll (evL env first.toList) fun a => Ll (evL env cap.toList) fun b => K (.func fn a.toArray b.toArray) h
  | .makeMap _ none => NewK h (.map #[] 0) fun b h' => K (.map (some b)) h'
  | .slice t x lo hi mx => Vl (evO env x) fun v => ∃ a b c, evM env lo = some a ∧ evM env hi = some b ∧ evM env mx = some c ∧ Vl (sliceV P t v a b c) fun r => K r h
  | .fieldAddr s x f => Vl (evO env x) fun v => Vl (fieldAddrV P s v f) fun r => K r h
  | .field s x f => Vl (evO env x) fun v => Vl (fieldV P s v f) fun r => K r h
  | .indexAddr t x i => Vl (evO env x) fun v => Vl (evO env i) fun iv => Vl (idxAddrV P t v iv) fun r => K r h
  | .index t x i => Vl (evO env x) fun v => Vl (evO env i) fun iv => Vl (idxV P t v iv) fun r => K r h
  | .lookup t x i ok => Vl (evO env x) fun v => Vl (evO env i) fun iv => Vl (lookupV P t v iv ok h) fun r => K r h
  | .mapUpdate t m k x | .insert t m k x => Vl (evO env m) fun mv => Vl (evO env k) fun kv => Vl (evO env x) fun xv => Hl (mapSetV P t mv kv xv h) fun h' => K undef h'
  | .typeAssert x _ t ok => Vl (evO env x) fun v => Vl (tasV P v t ok) fun r => K r h
  | .extract x i => Vl (evO env x) fun v => Vl (extrV v i) fun r => K r h
  | .makeSlice t l c => Vl (evO env l) fun lv => Vl (evO env c) fun cv => SemK P (Instr.makeSlice t lv cv) h K
  | .range t x => Vl (evO env x) fun v => SemK P (Instr.range t v) h K
  | .next it s => Vl (evO env it) fun v => SemK P (Instr.next v s ty) h K
  | .entry it => Vl (evO env it) fun v => SemK P (Instr.entry v) h K
  | .call c => match c.callee with
    | .value f => Vl (evO env f) fun fv => Ll (evL env c.args.toList) fun a => FnK P fv a h K
    | .invoke r name => Vl (evO env r) fun rv => Ll (evL env c.args.toList) fun a => InvK P rv name a h K
    | .builtin b => Ll (evL env c.args.toList) fun a => bltX P b c.argTypes a h K
  | _ => False

theorem hwp_vl {P : Program} {s : Sem Value} {Q : Next → Hp → Prop} {h : Hp} {o : Option Value} {K : Value → Prop} (hx : Vl o K) (hk : ∀ v, o = some v → ∀ {R : Value → Hp → Prop}, R v h → hwp P s R h) (hq : ∀ v, K v → Q (.value v) h) : hwp P (do pure (.value (← s))) Q h := by
  obtain ⟨v, hv, hkv⟩ := hx
  rw [hwp_bind]
  exact hk v hv (hq v hkv)
theorem hwp_of_run {P : Program} {α : Type} {s : Sem α} {a : α} (hs : ∀ w, s.run P w = .ok a w) {Q : α → Hp → Prop} {h : Hp} (hq : Q a h) : True := trivial
theorem enter_ok {P : Program} {f : FuncId} (he : Ent P f) (args : Array Value) {Q : Next → Hp → Prop} {h : Hp} (hq : Q (.enter f args) h) : hwp P (callFunc f args) Q h := by
  obtain ⟨fn, h1, h2, h3⟩ := he
  unfold callFunc
  rw [hwp_bind]
  simp only [program, hwp, h1]
  rw [if_neg (by simpa using h2), if_neg (by rw [h3]; simp)]
  exact hq
/-- What stands behind an operation that hands back a value. -/
def Aft (P : Program) (K : Value → Hp → Prop) : Next → Hp → Prop
  | .value v, h => K v h
  | .skip, h => K undef h
  | .enter f args, h => HC P f args h K
  | _, _ => False
theorem callK_ok {P : Program} {f : FuncId} {args : List Value} {h : Hp} {K : Value → Hp → Prop} (hc : CallK P f args h K) : hwp P (callFunc f args.toArray) (Aft P K) h := enter_ok hc.1 _ hc.2
theorem fnK_ok {P : Program} {f : Value} {args : List Value} {h : Hp} {K : Value → Hp → Prop} (hc : FnK P f args h K) : hwp P (do let d ← Deferred.ofValue f args.toArray; invoke d.target d.args) (Aft P K) h := by
  unfold FnK at hc
  split at hc
  · rename_i g first cap
    rw [hwp_bind]
    simp only [Deferred.ofValue, hwp_pure, invoke]
    have := callK_ok hc
    rw [show (first.toList ++ args ++ cap.toList).toArray = first ++ args.toArray ++ cap from by simp] at this
    exact this
  · exact hc.elim
theorem ssaWrap_eq (ts : Array TypeId) (ty : TypeId) (a : Addr) (s m : ByteArray) : Builtin.ssaWrapNilChk_ ts ty #[.pointer (some a), .string s, .string m] = pure (.pointer (some a)) := rfl
theorem meth_ok {P : Program} {t : TypeId} {v x : Value} {name : String} {h : Hp} {f : FuncId} (hm : methV P t v name h = some (f, x)) (n : Nat) {Q : FuncId × Value → Hp → Prop} (hq : Q (f, x) h) : hwp P (method (n + 1) t v name) Q h := by
  unfold methV at hm
  split at hm
  · rename_i i hi
    split at hm
    · rename_i m hf
      split at hm
      · rename_i hp
        have hpl : m.path.toList = [] := by
          have : m.path = #[] := by simpa using hp
          rw [this]
        unfold method
        simp only [hwp_bind, hwp_typeInfo P hi, hf, hpl, follow, hwp_pure]
        split at hm
        · rename_i g e hfn hu
          simp only [Option.some.injEq, Prod.mk.injEq] at hm
          obtain ⟨rfl, rfl⟩ := hm
          simp only [hfn, hwp_bind]
          unfold receiverAt
          simp only [hwp_bind, hwp_underlying P hu, Place.get, hwp_pure]
          exact hq
        · rename_i g e hfn hu
          cases hl : loadV P e v h with
          | none => rw [hl] at hm; cases hm
          | some r =>
            rw [hl] at hm
            simp only [Option.map_some, Option.some.injEq, Prod.mk.injEq] at hm
            obtain ⟨rfl, rfl⟩ := hm
            simp only [hfn, hwp_bind]
            unfold receiverAt
            simp only [hwp_bind, hwp_underlying P hu, Place.get, hwp_pure, hp, if_true]
            have hld := load_ok hl (fun r h => Q (g, r) h) hq
            unfold loadAt at hld
            rw [hwp_bind] at hld
            unfold loadV at hl
            split at hl
            · simp only [strVal, ssaWrap_eq, hwp_pure, asAddr]
              simpa [hwp_bind, hwp_pure, sureAddr] using hld
            · cases hl
        · rename_i g d hnp hfn hu
          simp only [Option.some.injEq, Prod.mk.injEq] at hm
          obtain ⟨rfl, rfl⟩ := hm
          simp only [hfn, hwp_bind]
          unfold receiverAt
          simp only [hwp_bind, hwp_underlying P hu]
          cases d <;> first | (exact absurd rfl (hnp _)) | (simp only [Place.get, hwp_pure]; exact hq)
        · cases hm
      · cases hm
    · cases hm
  · cases hm
theorem invK_ok {P : Program} {r : Value} {name : String} {args : List Value} {h : Hp} {K : Value → Hp → Prop} (hc : InvK P r name args h K) :
    hwp P (callMethod r name args.toArray) (Aft P K) h := by
  unfold InvK at hc
  split at hc
  · rename_i t v
    obtain ⟨f, x, hm, hc⟩ := hc
    unfold callMethod
    simp only [hwp_bind, program, hwp]
    obtain ⟨n, hn⟩ : ∃ n, P.types.size + Made.depth = n + 1 := ⟨P.types.size + 99, by rw [show Made.depth = 100 from rfl]⟩
    rw [hn]
    refine meth_ok hm _ ?_
    have := callK_ok hc
    simpa using this
  · exact hc.elim
theorem hwp_get {P : Program} {s : Sem Value} {h : Hp} {K : Value → Hp → Prop} (hs : hwp P s K h) : hwp P (do pure (Next.value (← s))) (Aft P K) h := by
  rw [hwp_bind]; exact hs
theorem hwp_do {P : Program} {s : Sem Unit} {h : Hp} {K : Value → Hp → Prop} (hs : hwp P s (fun _ h' => K undef h') h) : hwp P (do s; pure Next.skip) (Aft P K) h := by
  rw [hwp_bind]; exact hs
theorem getD_zero {ts : Array TypeId} {t : TypeId} (h : ts[0]? = some t) : ts.getD 0 0 = t := by simp [Array.getD_eq_getD_getElem?, h]
theorem blt_ok {P : Program} {b : Builtin} {ts : Array TypeId} {ty : TypeId} {cs : Array Bool} {args : List Value} {h : Hp} {K : Value → Hp → Prop} (hts : 0 < ts.size) (hx : bltX P b ts args h K) :
    hwp P (builtin b ts ty cs args.toArray) (Aft P K) h := by
  have ht : ts[0]? = some (ts.getD 0 0) := by rw [Array.getD_eq_getD_getElem?, Array.getElem?_eq_getElem hts]; rfl
  unfold bltX at hx
  split at hx
  · obtain ⟨v, hv, hk⟩ := hx
    exact hwp_get (len_ok ht rfl hv K hk)
  · obtain ⟨v, hv, hk⟩ := hx
    exact hwp_get (cap_ok ht rfl hv K hk)
  · exact hwp_get (hx ty)
  · exact hwp_get (hx ty)
  · obtain ⟨h', hv, hk⟩ := hx
    exact hwp_get (mapDel_ok ht rfl rfl hv K hk)
  · exact hwp_get hx
  · exact hwp_get hx
  · exact hwp_get hx
  · exact hx.elim
def tsOk : Op → Bool
  | .call { callee := .builtin _, argTypes, .. } => 0 < argTypes.size
  | _ => true
theorem opX_ok {P : Program} {o : Oper} {env : Env} {h : Hp} {K : Value → Hp → Prop} (hts : tsOk o.op = true) (hx : opX P o.op o.type env h K) (ρ : Operand → Value) (hρ : RunsAs env ρ) : hwp P (execOp ρ o) (Aft P K) h := by
  obtain ⟨dst, op, ty, pos, aft, gd⟩ := o
  simp only at hx hts
  unfold opX at hx
  unfold execOp
  cases op <;> simp only at hx ⊢
  case move x => obtain ⟨v, hv, hk⟩ := hx; rw [hρ _ _ hv]; exact hk
  case assign x => obtain ⟨v, hv, hk⟩ := hx; rw [hρ _ _ hv]; exact hk
  case pick c a b =>
    obtain ⟨cv, hc, av, ha, bv, hb, v, hv, hk⟩ := hx
    rw [hρ _ _ hc, hρ _ _ ha, hρ _ _ hb]
    unfold pickV at hv
    split at hv
    · rename_i t
      simp only [Option.some.injEq] at hv
      subst hv
      simp only [asBool, hwp_bind, hwp_pure]
      exact hk
    · cases hv
  case alloc t =>
    obtain ⟨z, hz, hk⟩ := hx
    refine hwp_get ?_
    unfold Instr.alloc
    rw [hwp_bind, hwp_zeroValue P hz]
    exact hk
  case box t x =>
    obtain ⟨v, hv, hk⟩ := hx
    rw [hρ _ _ hv]
    exact hwp_get hk
  case build t ps =>
    obtain ⟨l, hl, v, hv, hk⟩ := hx
    refine hwp_get ?_
    refine build_ok ?_ K h hk
    rw [← hv, ← evP_ok hρ hl]
    simp
  case buildSlice t n ps =>
    obtain ⟨l, hl, e, cs, hv, hk⟩ := hx
    refine hwp_get ?_
    refine bsl_ok ?_ K h hk
    rw [← hv, ← evP_ok hρ hl]
    simp
  case load t a =>
    obtain ⟨v, hv, r, hr, hk⟩ := hx
    rw [hρ _ _ hv]
    exact hwp_get (load_ok hr K hk)
  case store t a x =>
    obtain ⟨av, ha, xv, hxv, h', hs, hk⟩ := hx
    rw [hρ _ _ ha, hρ _ _ hxv]
    exact hwp_do (store_ok hs _ hk)
  case nilCheck x =>
    obtain ⟨v, hv, r, hr, hk⟩ := hx
    rw [hρ _ _ hv]
    unfold nilV at hr
    split at hr <;> first | (cases hr; done) | skip
    rename_i n1 n2 n3 n4
    simp only [Option.some.injEq] at hr
    subst hr
    split <;> first | (exact absurd rfl n1) | (exact absurd rfl n2) | (exact absurd rfl n3) | (exact absurd rfl (n4 _ _ _)) | exact hk
  case binOp op t x y yt =>
    obtain ⟨xv, hxv, yv, hyv, r, hr, hk⟩ := hx
    rw [hρ _ _ hxv, hρ _ _ hyv]
    exact hwp_get (bin_ok hr x y K h hk)
  case unOp op t x =>
    obtain ⟨v, hv, r, hr, hk⟩ := hx
    rw [hρ _ _ hv]
    exact hwp_get (un_ok hr K h hk)
  case convert s d x =>
    obtain ⟨v, hv, r, hr, hk⟩ := hx
    rw [hρ _ _ hv]
    exact hwp_get (conv_ok hr K h hk)
  case makeInterface t x =>
    obtain ⟨v, hv, r, hr, hk⟩ := hx
    rw [hρ _ _ hv]
    refine hwp_get ?_
    unfold mkIfV at hr
    unfold Instr.makeInterface
    split at hr
    · cases hr
    · rename_i d hni hu
      simp only [Option.some.injEq] at hr
      subst hr
      rw [hwp_bind, hwp_underlying P hu]
      cases d <;> first | (exact absurd rfl (hni _)) | exact hk
    · cases hr
  case makeFunc fn first cap =>
    obtain ⟨a, ha, b, hb, hk⟩ := hx
    refine hwp_get ?_
    have e1 := evA_ok hρ ha
    have e2 := evA_ok hρ hb
    rw [e1, e2]
    exact hk
  case makeMap t r =>
    cases r with
    | none => exact hwp_get hx
    | some r => exact hx.elim
  case slice t x lo hi mx =>
    obtain ⟨v, hv, a, b, c, ha, hb, hc, r, hr, hk⟩ := hx
    rw [hρ _ _ hv, evM_ok hρ ha, evM_ok hρ hb, evM_ok hρ hc]
    exact hwp_get (slice_ok hr K h hk)
  case fieldAddr s x f =>
    obtain ⟨v, hv, r, hr, hk⟩ := hx
    rw [hρ _ _ hv]
    exact hwp_get (fieldAddr_ok hr K h hk)
  case field s x f =>
    obtain ⟨v, hv, r, hr, hk⟩ := hx
    rw [hρ _ _ hv]
    exact hwp_get (field_ok hr K h hk)
  case indexAddr t x i =>
    obtain ⟨xv, hxv, yv, hyv, r, hr, hk⟩ := hx
    rw [hρ _ _ hxv, hρ _ _ hyv]
    exact hwp_get (idxAddr_ok hr K h hk)
  case index t x i =>
    obtain ⟨xv, hxv, yv, hyv, r, hr, hk⟩ := hx
    rw [hρ _ _ hxv, hρ _ _ hyv]
    exact hwp_get (idx_ok hr K h hk)
  case lookup t x i ok =>
    obtain ⟨xv, hxv, yv, hyv, r, hr, hk⟩ := hx
    rw [hρ _ _ hxv, hρ _ _ hyv]
    exact hwp_get (lookup_ok hr K hk)
  case mapUpdate t m k x =>
    obtain ⟨mv, hm, kv, hkv, xv, hxv, h', hs, hk⟩ := hx
    rw [hρ _ _ hm, hρ _ _ hkv, hρ _ _ hxv]
    exact hwp_do (mapSet_ok hs _ hk)
  case insert t m k x =>
    obtain ⟨mv, hm, kv, hkv, xv, hxv, h', hs, hk⟩ := hx
    rw [hρ _ _ hm, hρ _ _ hkv, hρ _ _ hxv]
    exact hwp_do (mapSet_ok hs _ hk)
  case typeAssert x xt t ok =>
    obtain ⟨v, hv, r, hr, hk⟩ := hx
    rw [hρ _ _ hv]
    exact hwp_get (tas_ok hr K h hk)
  case extract x i =>
    obtain ⟨v, hv, r, hr, hk⟩ := hx
    rw [hρ _ _ hv]
    refine hwp_get ?_
    unfold extrV at hr
    unfold Instr.extract
    split at hr
    · rename_i vs
      simp only [hr]
      exact hk
    · cases hr
  case makeSlice t l c =>
    obtain ⟨xv, hxv, yv, hyv, hs⟩ := hx
    rw [hρ _ _ hxv, hρ _ _ hyv]
    exact hwp_get hs
  case range t x =>
    obtain ⟨v, hv, hs⟩ := hx
    rw [hρ _ _ hv]
    exact hwp_get hs
  case next it s =>
    obtain ⟨v, hv, hs⟩ := hx
    rw [hρ _ _ hv]
    exact hwp_get hs
  case entry it =>
    obtain ⟨v, hv, hs⟩ := hx
    rw [hρ _ _ hv]
    exact hwp_get hs
  case call c =>
    obtain ⟨callee, args, ats⟩ := c
    unfold resolve
    cases callee with
    | value f =>
      obtain ⟨fv, hf, a, ha, hc⟩ := hx
      have e1 : args.map ρ = a.toArray := evA_ok hρ ha
      simp only [e1, hρ _ _ hf]
      exact fnK_ok hc
    | invoke r name =>
      obtain ⟨rv, hr, a, ha, hc⟩ := hx
      have e1 : args.map ρ = a.toArray := evA_ok hρ ha
      simp only [e1, hρ _ _ hr, hwp_bind, hwp_pure, invoke]
      have := invK_ok hc
      simpa using this
    | builtin b =>
      obtain ⟨a, ha, hc⟩ := hx
      have e1 : args.map ρ = a.toArray := evA_ok hρ ha
      simp only [e1, hwp_bind, hwp_pure, invoke]
      exact blt_ok (by simpa [tsOk] using hts) hc
  all_goals exact hx.elim

/-! ### 3. A region -/
def XOps (P : Program) (ops : Array Oper) : List Oper → Env → Hp → (Env → Hp → Prop) → Prop
  | [], env, h, K => K env h
  | o :: l, env, h, K => match o.guard with
    | none => opX P o.op o.type env h fun v h' => XOps P ops l (putE o.dst v env) h' K
    | some (j, b) => GdK ((gdst ops j).bind (look env)) b (opX P o.op o.type env h fun v h' => XOps P ops l (putE o.dst v env) h' K) (XOps P ops l (putE o.dst undef env) h K)
def dOkB (n : Nat) : Option Nat → Bool
  | some d => d < n
  | none => true
def opsOk (n : Nat) (l : List Oper) : Bool := l.all fun o => dOkB n o.dst && tsOk o.op
theorem dOk_of {n : Nat} {d : Option Nat} (h : dOkB n d = true) : dOk n d := by
  cases d with
  | none => trivial
  | some d => simpa [dOkB, dOk] using h
theorem After_of {P : Program} {n : Nat} {d : Option Nat} {env : Env} {K : Env → Hp → Prop} (hd : dOk n d) {nx : Next} {h : Hp} (ha : Aft P (fun v h' => K (putE d v env) h') nx h) : After P n d env K nx h := by
  cases nx <;> first | exact ⟨hd, ha⟩ | exact ha
theorem XOps_ok {P : Program} {n : Nat} {ops : Array Oper} {K : Env → Hp → Prop} : ∀ (l : List Oper) (env : Env) (h : Hp), opsOk n l = true → XOps P ops l env h K → HOps P n ops l env h K := by
  intro l
  induction l with
  | nil => intro env h _ hx; exact HOps.nil hx
  | cons o l ih =>
    intro env h hd hx
    simp only [opsOk, List.all_cons, Bool.and_eq_true] at hd
    obtain ⟨⟨hd1, hd2⟩, hd3⟩ := hd
    have key : opX P o.op o.type env h (fun v h' => XOps P ops l (putE o.dst v env) h' K) → HOp P n o env h fun env' h' => HOps P n ops l env' h' K := by
      intro hx ρ hρ
      refine hwp_mono P _ ?_ h (opX_ok hd2 hx ρ hρ)
      intro nx h' ha
      refine After_of (dOk_of hd1) ?_
      cases nx with
      | value v => exact ih _ _ hd3 ha
      | skip => exact ih _ _ hd3 ha
      | enter f args => exact HC.mono (show HC P f args h' (fun v h' => XOps P ops l (putE o.dst v env) h' K) from ha) fun v h'' hk => ih _ _ hd3 hk
      | _ => exact ha
    simp only [XOps] at hx
    split at hx
    · rename_i hg
      exact HOps.cons hg (key hx)
    · rename_i j b hg
      obtain ⟨t, ht, hy, hn⟩ := hx
      cases hj : gdst ops j with
      | none => rw [hj] at ht; cases ht
      | some d =>
        rw [hj] at ht
        simp only [Option.bind_some] at ht
        by_cases e : t = .bool b
        · subst e
          exact HOps.yes hg hj ht (key (hy rfl))
        · exact HOps.no hg hj ht e (dOk_of hd1) (ih _ _ hd3 (hn e))
theorem HW.rgn {P : Program} {n : Nat} {env : Env} {h : Hp} {Q : Ex → Env → Hp → Prop} {id : Nat} {l : List Oper} (hd : opsOk n l = true) (hx : XOps P l.toArray l env h fun env' h' => Q .normal env' h') : HW P n (.region id l.toArray false) env h Q :=
  HW.region (XOps_ok l env h hd hx)
end Go.Hx
