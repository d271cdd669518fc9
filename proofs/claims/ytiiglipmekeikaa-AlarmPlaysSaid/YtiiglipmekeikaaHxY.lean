/- The rules by which a region's formula is written out, one an operation. -/
import Derived.Test.YtiiglipmekeikaaHxX
set_option linter.unusedVariables false
set_option linter.unusedSimpArgs false
namespace Go.Hx
def Ml (o : Option (Option Value)) (K : Option Value → Prop) : Prop := ∃ v, o = some v ∧ K v
theorem Ml_some (v : Option Value) (K : Option Value → Prop) : Ml (some v) K = K v := by simp [Ml]
@[congr] theorem Ml_congr {o o' : Option (Option Value)} {p : Prop} (dm : Dm = p) (h : o = o') (K : Option Value → Prop) : Ml o K = Ml o' K := by rw [h]
section
variable {P : Program} {ops : Array Oper} {l : List Oper} {d : Option Nat} {ty : TypeId} {pos : String} {af : Array Edge} {env : Env} {h : Hp} {K : Env → Hp → Prop}
theorem x_nil : XOps P ops [] env h K = K env h := rfl
theorem x_guard {op : Op} {j : Nat} {b : Bool} : XOps P ops (⟨d, op, ty, pos, af, some (j, b)⟩ :: l) env h K = GdK ((gdst ops j).bind (look env)) b (XOps P ops (⟨d, op, ty, pos, af, none⟩ :: l) env h K) (XOps P ops l (putE d undef env) h K) := rfl
theorem x_move {x : Operand} : XOps P ops (⟨d, .move x, ty, pos, af, none⟩ :: l) env h K = Vl (evO env x) fun v => XOps P ops l (putE d v env) h K := rfl
theorem x_assign {x : Operand} : XOps P ops (⟨d, .assign x, ty, pos, af, none⟩ :: l) env h K = Vl (evO env x) fun v => XOps P ops l (putE d v env) h K := rfl
theorem x_pick {a b c : Operand} : XOps P ops (⟨d, .pick c a b, ty, pos, af, none⟩ :: l) env h K = Vl (evO env c) fun cv => Vl (evO env a) fun av => Vl (evO env b) fun bv => Vl (pickV cv av bv) fun v => XOps P ops l (putE d v env) h K := rfl
theorem x_alloc {t : TypeId} : XOps P ops (⟨d, .alloc t, ty, pos, af, none⟩ :: l) env h K = Vl (zeroK P t) fun z => NewK h (.cells z.cells t) fun b h' => XOps P ops l (putE d (ptrV b) env) h' K := rfl
theorem x_box {t : TypeId} {x : Operand} : XOps P ops (⟨d, .box t x, ty, pos, af, none⟩ :: l) env h K = Vl (evO env x) fun v => NewK h (.cells v.cells t) fun b h' => XOps P ops l (putE d (ptrV b) env) h' K := rfl
theorem x_build {t : TypeId} {ps : List (Nat × Operand)} : XOps P ops (⟨d, .build t ps.toArray, ty, pos, af, none⟩ :: l) env h K = Ll (evP env ps) fun l0 => Vl (buildV P t l0) fun v => XOps P ops l (putE d v env) h K := rfl
theorem x_bsl {t : TypeId} {n : Nat} {ps : List (Nat × Operand)} : XOps P ops (⟨d, .buildSlice t n ps.toArray, ty, pos, af, none⟩ :: l) env h K = Ll (evP env ps) fun l0 => Pl (bslL P t n l0) fun e cs => NewK h (.cells cs.toArray e) fun b h' => XOps P ops l (putE d (.slice (some ⟨b, 0, none⟩) n n) env) h' K := rfl
theorem x_load {t : TypeId} {a : Operand} : XOps P ops (⟨d, .load t a, ty, pos, af, none⟩ :: l) env h K = Vl (evO env a) fun v => Vl (loadV P t v h) fun r => XOps P ops l (putE d r env) h K := rfl
theorem x_store {t : TypeId} {a x : Operand} : XOps P ops (⟨d, .store t a x, ty, pos, af, none⟩ :: l) env h K = Vl (evO env a) fun av => Vl (evO env x) fun xv => Hl (storeV P t av xv h) fun h' => XOps P ops l (putE d undef env) h' K := rfl
theorem x_nilCheck {x : Operand} : XOps P ops (⟨d, .nilCheck x, ty, pos, af, none⟩ :: l) env h K = Vl (evO env x) fun v => Vl (nilV v) fun r => XOps P ops l (putE d r env) h K := rfl
theorem x_bin {o : BinOp} {t t' : TypeId} {x y : Operand} : XOps P ops (⟨d, .binOp o t x y t', ty, pos, af, none⟩ :: l) env h K = Vl (evO env x) fun xv => Vl (evO env y) fun yv => Vl (binV P o t xv yv) fun r => XOps P ops l (putE d r env) h K := rfl
theorem x_un {o : UnOp} {t : TypeId} {x : Operand} : XOps P ops (⟨d, .unOp o t x, ty, pos, af, none⟩ :: l) env h K = Vl (evO env x) fun v => Vl (unV o v) fun r => XOps P ops l (putE d r env) h K := rfl
theorem x_conv {s t : TypeId} {x : Operand} : XOps P ops (⟨d, .convert s t x, ty, pos, af, none⟩ :: l) env h K = Vl (evO env x) fun v => Vl (convV P s t v) fun r => XOps P ops l (putE d r env) h K := rfl
theorem x_mkIf {t : TypeId} {x : Operand} : XOps P ops (⟨d, .makeInterface t x, ty, pos, af, none⟩ :: l) env h K = Vl (evO env x) fun v => Vl (mkIfV P t v) fun r => XOps P ops l (putE d r env) h K := rfl
theorem x_mkFn {fn : Fn} {a b : List Operand} : XOps P ops (⟨d, .makeFunc fn a.toArray b.toArray, ty, pos, af, none⟩ :: l) env h K = Ll (evL env a) fun a => Ll (evL env b) fun b => XOps P ops l (putE d (.func fn a.toArray b.toArray) env) h K := rfl
theorem x_mkMap {t : TypeId} : XOps P ops (⟨d, .makeMap t none, ty, pos, af, none⟩ :: l) env h K = NewK h (.map #[] 0) fun b h' => XOps P ops l (putE d (.map (some b)) env) h' K := rfl
theorem x_slice {t : TypeId} {x : Operand} {lo hi mx : Option Operand} : XOps P ops (⟨d, .slice t x lo hi mx, ty, pos, af, none⟩ :: l) env h K = Vl (evO env x) fun v => Ml (evM env lo) fun a => Ml (evM env hi) fun b => Ml (evM env mx) fun c => Vl (sliceV P t v a b c) fun r => XOps P ops l (putE d r env) h K := by
  show Vl (evO env x) (fun v => ∃ a b c, evM env lo = some a ∧ evM env hi = some b ∧ evM env mx = some c ∧ Vl (sliceV P t v a b c) fun r => XOps P ops l (putE d r env) h K) = _
  congr 1
  funext v
  simp only [Ml]
  apply propext
  constructor
  · rintro ⟨a, b, c, ha, hb, hc, k⟩; exact ⟨a, ha, b, hb, c, hc, k⟩
  · rintro ⟨a, ha, b, hb, c, hc, k⟩; exact ⟨a, b, c, ha, hb, hc, k⟩
theorem x_fieldAddr {s : TypeId} {x : Operand} {f : Nat} : XOps P ops (⟨d, .fieldAddr s x f, ty, pos, af, none⟩ :: l) env h K = Vl (evO env x) fun v => Vl (fieldAddrV P s v f) fun r => XOps P ops l (putE d r env) h K := rfl
theorem x_field {s : TypeId} {x : Operand} {f : Nat} : XOps P ops (⟨d, .field s x f, ty, pos, af, none⟩ :: l) env h K = Vl (evO env x) fun v => Vl (fieldV P s v f) fun r => XOps P ops l (putE d r env) h K := rfl
theorem x_idxAddr {t : TypeId} {x i : Operand} : XOps P ops (⟨d, .indexAddr t x i, ty, pos, af, none⟩ :: l) env h K = Vl (evO env x) fun v => Vl (evO env i) fun iv => Vl (idxAddrV P t v iv) fun r => XOps P ops l (putE d r env) h K := rfl
theorem x_idx {t : TypeId} {x i : Operand} : XOps P ops (⟨d, .index t x i, ty, pos, af, none⟩ :: l) env h K = Vl (evO env x) fun v => Vl (evO env i) fun iv => Vl (idxV P t v iv) fun r => XOps P ops l (putE d r env) h K := rfl
theorem x_lookup {t : TypeId} {x i : Operand} {ok : Bool} : XOps P ops (⟨d, .lookup t x i ok, ty, pos, af, none⟩ :: l) env h K = Vl (evO env x) fun v => Vl (evO env i) fun iv => Vl (lookupV P t v iv ok h) fun r => XOps P ops l (putE d r env) h K := rfl
theorem x_mapSet {t : TypeId} {m k x : Operand} : XOps P ops (⟨d, .mapUpdate t m k x, ty, pos, af, none⟩ :: l) env h K = Vl (evO env m) fun mv => Vl (evO env k) fun kv => Vl (evO env x) fun xv => Hl (mapSetV P t mv kv xv h) fun h' => XOps P ops l (putE d undef env) h' K := rfl
theorem x_tas {t t' : TypeId} {x : Operand} {ok : Bool} : XOps P ops (⟨d, .typeAssert x t' t ok, ty, pos, af, none⟩ :: l) env h K = Vl (evO env x) fun v => Vl (tasV P v t ok) fun r => XOps P ops l (putE d r env) h K := rfl
theorem x_extract {x : Operand} {i : Nat} : XOps P ops (⟨d, .extract x i, ty, pos, af, none⟩ :: l) env h K = Vl (evO env x) fun v => Vl (extrV v i) fun r => XOps P ops l (putE d r env) h K := rfl
theorem x_mkSlice {t : TypeId} {x y : Operand} : XOps P ops (⟨d, .makeSlice t x y, ty, pos, af, none⟩ :: l) env h K = Vl (evO env x) fun v => Vl (evO env y) fun c => SemK P (Instr.makeSlice t v c) h fun v h' => XOps P ops l (putE d v env) h' K := rfl
theorem x_range {t : TypeId} {x : Operand} : XOps P ops (⟨d, .range t x, ty, pos, af, none⟩ :: l) env h K = Vl (evO env x) fun v => SemK P (Instr.range t v) h fun v h' => XOps P ops l (putE d v env) h' K := rfl
theorem x_next {x : Operand} {s : Bool} : XOps P ops (⟨d, .next x s, ty, pos, af, none⟩ :: l) env h K = Vl (evO env x) fun v => SemK P (Instr.next v s ty) h fun v h' => XOps P ops l (putE d v env) h' K := rfl
theorem x_entry {x : Operand} : XOps P ops (⟨d, .entry x, ty, pos, af, none⟩ :: l) env h K = Vl (evO env x) fun v => SemK P (Instr.entry v) h fun v h' => XOps P ops l (putE d v env) h' K := rfl
theorem x_callF {g : FuncId} {as : List Operand} {ts : Array TypeId} : XOps P ops (⟨d, .call ⟨.value (.func g), as.toArray, ts⟩, ty, pos, af, none⟩ :: l) env h K = Ll (evL env as) fun a => CallK P g a h fun v h' => XOps P ops l (putE d v env) h' K := by
  show Vl (some (.func (.func g) #[] #[])) _ = _
  rw [Vl_some]
  simp only [FnK_plain]
theorem x_callV {t : Tmp} {as : List Operand} {ts : Array TypeId} : XOps P ops (⟨d, .call ⟨.value (.tmp t), as.toArray, ts⟩, ty, pos, af, none⟩ :: l) env h K = Vl (look env t) fun fv => Ll (evL env as) fun a => FnK P fv a h fun v h' => XOps P ops l (putE d v env) h' K := rfl
theorem x_callI {r : Operand} {name : String} {as : List Operand} {ts : Array TypeId} : XOps P ops (⟨d, .call ⟨.invoke r name, as.toArray, ts⟩, ty, pos, af, none⟩ :: l) env h K = Vl (evO env r) fun rv => Ll (evL env as) fun a => InvK P rv name a h fun v h' => XOps P ops l (putE d v env) h' K := rfl
theorem x_len {x : Operand} {t : TypeId} : XOps P ops (⟨d, .call ⟨.builtin .len, #[x], #[t]⟩, ty, pos, af, none⟩ :: l) env h K = Vl (evO env x) fun v => Vl (lenV P t v h) fun r => XOps P ops l (putE d r env) h K := by
  show Ll (evL env [x]) _ = _
  cases hx : evO env x with
  | none => simp [evL, hx, Ll, Vl]
  | some v => simp only [evL, hx, Ll_some, Vl_some]; rfl
theorem x_cap {x : Operand} {t : TypeId} : XOps P ops (⟨d, .call ⟨.builtin .cap, #[x], #[t]⟩, ty, pos, af, none⟩ :: l) env h K = Vl (evO env x) fun v => Vl (capV P t v) fun r => XOps P ops l (putE d r env) h K := by
  show Ll (evL env [x]) _ = _
  cases hx : evO env x with
  | none => simp [evL, hx, Ll, Vl]
  | some v => simp only [evL, hx, Ll_some, Vl_some]; rfl
theorem x_append {x y : Operand} {ts : Array TypeId} : XOps P ops (⟨d, .call ⟨.builtin .append, #[x, y], ts⟩, ty, pos, af, none⟩ :: l) env h K = Vl (evO env x) fun v => Vl (evO env y) fun w => AppK P ts v w h fun r h' => XOps P ops l (putE d r env) h' K := by
  show Ll (evL env [x, y]) _ = _
  cases hx : evO env x with
  | none => simp [evL, hx, Ll, Vl]
  | some v =>
    cases hy : evO env y with
    | none => simp [evL, hx, hy, Ll, Vl]
    | some w => simp only [evL, hx, hy, Ll_some, Vl_some]; rfl
theorem x_copy {x y : Operand} {ts : Array TypeId} : XOps P ops (⟨d, .call ⟨.builtin .copy, #[x, y], ts⟩, ty, pos, af, none⟩ :: l) env h K = Vl (evO env x) fun v => Vl (evO env y) fun w => CopyK P ts v w h fun r h' => XOps P ops l (putE d r env) h' K := by
  show Ll (evL env [x, y]) _ = _
  cases hx : evO env x with
  | none => simp [evL, hx, Ll, Vl]
  | some v =>
    cases hy : evO env y with
    | none => simp [evL, hx, hy, Ll, Vl]
    | some w => simp only [evL, hx, hy, Ll_some, Vl_some]; rfl
theorem x_delete {x y : Operand} {t : TypeId} {ts : List TypeId} : XOps P ops (⟨d, .call ⟨.builtin .delete, #[x, y], (t :: ts).toArray⟩, ty, pos, af, none⟩ :: l) env h K = Vl (evO env x) fun m => Vl (evO env y) fun k => Hl (mapDelV P t m k h) fun h' => XOps P ops l (putE d (.tuple #[]) env) h' K := by
  show Ll (evL env [x, y]) _ = _
  cases hx : evO env x with
  | none => simp [evL, hx, Ll, Vl]
  | some v =>
    cases hy : evO env y with
    | none => simp [evL, hx, hy, Ll, Vl]
    | some w => simp only [evL, hx, hy, Ll_some, Vl_some]; rfl
theorem x_max {as : List Operand} {ts : Array TypeId} : XOps P ops (⟨d, .call ⟨.builtin .max, as.toArray, ts⟩, ty, pos, af, none⟩ :: l) env h K = Ll (evL env as) fun a => SemK P (Builtin.max_ ts 0 a.toArray) h fun r h' => XOps P ops l (putE d r env) h' K := rfl
theorem x_min {as : List Operand} {ts : Array TypeId} : XOps P ops (⟨d, .call ⟨.builtin .min, as.toArray, ts⟩, ty, pos, af, none⟩ :: l) env h K = Ll (evL env as) fun a => SemK P (Builtin.min_ ts 0 a.toArray) h fun r h' => XOps P ops l (putE d r env) h' K := rfl
end
theorem putE_some (d : Nat) (v : Value) (env : Env) : putE (some d) v env = (d, v) :: env := rfl
theorem putE_none (v : Value) (env : Env) : putE none v env = env := rfl
theorem look_cons (k : Nat) (v : Value) (r : Env) (i : Nat) : look ((k, v) :: r) i = if i = k then some v else look r i := rfl
theorem pickV_b (c : Bool) (a b : Value) : pickV (.bool c) a b = some (if c = true then a else b) := by cases c <;> rfl
theorem evO_tmp (env : Env) (t : Nat) : evO env (.tmp t) = look env t := rfl
theorem evO_const (env : Env) (v : Value) : evO env (.const v) = some v := rfl
theorem evO_func (env : Env) (f : FuncId) : evO env (.func f) = some (.func (.func f) #[] #[]) := rfl
theorem evL_nil (env : Env) : evL env [] = some [] := rfl
theorem evL_cons (env : Env) (x : Operand) (xs : List Operand) : evL env (x :: xs) = match evO env x with
    | some v => match evL env xs with
      | some vs => some (v :: vs)
      | none => none
    | none => none := rfl
theorem evP_nil (env : Env) : evP env [] = some [] := rfl
theorem evP_cons (env : Env) (i : Nat) (x : Operand) (xs : List (Nat × Operand)) : evP env ((i, x) :: xs) = match evO env x with
    | some v => match evP env xs with
      | some vs => some ((i, v) :: vs)
      | none => none
    | none => none := rfl
/-- A guard's operation, by its place in a region written out. -/
theorem gdst_lit (l : List Oper) (j : Nat) : gdst l.toArray j = (l[j]?).bind (·.dst) := by simp [gdst]
theorem nilV_ptr (a : Addr) : nilV (.pointer (some a)) = some (.pointer (some a)) := rfl
theorem loadV_ptr (P : Program) (t b o : Nat) (h : Hp) : loadV P t (.pointer (some ⟨b, o, none⟩)) h = match tyK P t with
    | some (false, _) => rd (h b) o
    | some (true, n) => match rdN (h b) o n with
      | some l => some (.agg l.toArray)
      | none => none
    | none => none := rfl
theorem fieldAddrV_ptr (P : Program) (s b o f : Nat) : fieldAddrV P s (.pointer (some ⟨b, o, none⟩)) f = match fldK P s f with
    | some (off, _, n) => if n = 0 then none else some (.pointer (some ⟨b, o + off, none⟩))
    | none => none := rfl
theorem rd_cells (c : Array Value) (e : TypeId) (fr : Nat × Nat) (i : Nat) : rd (some (.cells c e fr)) i = c[i]? := rfl
theorem rd_lit (l : List Value) (e : TypeId) (fr : Nat × Nat) (i : Nat) : rd (some (.cells l.toArray e fr)) i = l[i]? := by simp [rd]
theorem upd_apply (h : Hp) (b : Nat) (o : Obj) (i : Nat) : upd h b o i = if i = b then some o else h i := rfl
end Go.Hx
