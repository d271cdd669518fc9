/- More of the model's operations over the heap alone: arithmetic, comparisons, strings, slices, interfaces, maps. -/
import Derived.Test.YtiiglipmekeikaaHxEq
set_option linter.unusedVariables false
set_option linter.unusedSimpArgs false
namespace Go.Hx

/-! ### 1. Binary and unary operations -/
def andI (k : IntKind) (x y : Int) : Int := k.wrap (BitVec.ofInt k.bits x &&& BitVec.ofInt k.bits y).toNat
def orI (k : IntKind) (x y : Int) : Int := k.wrap (BitVec.ofInt k.bits x ||| BitVec.ofInt k.bits y).toNat
def xorI (k : IntKind) (x y : Int) : Int := k.wrap (BitVec.ofInt k.bits x ^^^ BitVec.ofInt k.bits y).toNat
def andNotI (k : IntKind) (x y : Int) : Int := k.wrap (BitVec.ofInt k.bits x &&& ~~~BitVec.ofInt k.bits y).toNat
def shlI (k : IntKind) (x y : Int) : Int := k.wrap (x * 2 ^ min y.toNat k.bits)
def shrI (k : IntKind) (x y : Int) : Int := x.fdiv (2 ^ min y.toNat k.bits)
/-- Two whole numbers. -/
def binI (op : BinOp) (k : IntKind) (x y : Int) : Option Value :=
  match op with
  | .add => some (.int k (k.wrap (x + y)))
  | .sub => some (.int k (k.wrap (x - y)))
  | .mul => some (.int k (k.wrap (x * y)))
  | .quo => if y = 0 then none else some (.int k (k.wrap (x.tdiv y)))
  | .rem => if y = 0 then none else some (.int k (x.tmod y))
  | .and => some (.int k (andI k x y))
  | .or => some (.int k (orI k x y))
  | .xor => some (.int k (xorI k x y))
  | .andNot => some (.int k (andNotI k x y))
  | .eql => some (.bool (x == y))
  | .neq => some (.bool (x != y))
  | .lss => some (.bool (x < y))
  | .leq => some (.bool (x ≤ y))
  | .gtr => some (.bool (x > y))
  | .geq => some (.bool (x ≥ y))
  | .shl => if y < 0 then none else some (.int k (shlI k x y))
  | .shr => if y < 0 then none else some (.int k (shrI k x y))
def binS (op : BinOp) (x y : ByteArray) : Option Value :=
  match op with
  | .add => if ((x.size + y.size : Nat) : Int) > IntKind.i64.max then none else some (.string (x ++ y))
  | .eql => some (.bool (x.toList == y.toList))
  | .neq => some (.bool (!(x.toList == y.toList)))
  | .lss => some (.bool (Op.bytesLess x.toList y.toList))
  | .leq => some (.bool (Op.bytesLess x.toList y.toList || x.toList == y.toList))
  | .gtr => some (.bool (!(Op.bytesLess x.toList y.toList || x.toList == y.toList)))
  | .geq => some (.bool (!Op.bytesLess x.toList y.toList))
  | _ => none
/-- Are two values equal: those for which the heap isn't asked. -/
def eqD (d : TypeDesc) (x y : Value) : Option Bool :=
  match d, x, y with
  | .bool, .bool a, .bool b => some (a == b)
  | .pointer _, .pointer none, .pointer b => some b.isNone
  | .pointer _, .pointer (some _), .pointer none => some false
  | .slice _, .slice none _ _, .slice b _ _ => some b.isNone
  | .slice _, .slice (some _) _ _, .slice none _ _ => some false
  | .map _ _, .map none, .map b => some b.isNone
  | .map _ _, .map (some _), .map none => some false
  | .func _ _ _, .nilFunc, .nilFunc => some true
  | .func _ _ _, .func _ _ _, .nilFunc => some false
  | .interface _, .nilIface, .iface _ _ => some false
  | .interface _, .iface _ _, .nilIface => some false
  | _, _, _ => none
def binV (P : Program) (op : BinOp) (t : TypeId) (x y : Value) : Option Value :=
  match x, y with
  | .int k a, .int k' b => if k = k' ∨ op = .shl ∨ op = .shr then binI op k a b else none
  | .string a, .string b => binS op a b
  | .agg xs, .agg ys => match aggK P t with
    | some ks => match eqL ks xs.toList ys.toList with
      | some b => match op with
        | .eql => some (.bool b)
        | .neq => some (.bool !b)
        | _ => none
      | none => none
    | none => none
  | x, y => match P.underlying t with
    | some d => match eqD d x y with
      | some b => match op with
        | .eql => some (.bool b)
        | .neq => some (.bool !b)
        | _ => none
      | none => none
    | none => none
theorem eqD_ok {P : Program} {t : TypeId} {d : TypeDesc} (hu : P.underlying t = some d) {x y : Value} {b : Bool} (he : eqD d x y = some b) (Q : Bool → Hp → Prop) (h : Hp) (hq : Q b h) : hwp P (Op.equal t x y) Q h := by
  show hwp P (Op.equalIn (9999 + 1) t x y) Q h
  unfold Op.equalIn
  rw [hwp_bind, hwp_underlying P hu]
  unfold eqD at he
  split at he <;> simp only [Option.some.injEq, reduceCtorEq] at he <;> subst he <;> exact hq
theorem binI_ok {P : Program} {op : BinOp} {t : TypeId} {k k' : IntKind} {a b : Int} (hk : k = k' ∨ op = .shl ∨ op = .shr) {r : Value} (hv : binI op k a b = some r) (Q : Value → Hp → Prop) (h : Hp) (hq : Q r h) : hwp P (binOp op t (.int k a) (.int k' b)) Q h := by
  cases op
  case shl => simp only [binI] at hv; split at hv; · cases hv
              · rename_i hn; simp only [Option.some.injEq] at hv; subst hv; simp only [binOp, Op.shift, hn, if_false]; exact hq
  case shr => simp only [binI] at hv; split at hv; · cases hv
              · rename_i hn; simp only [Option.some.injEq] at hv; subst hv; simp only [binOp, Op.shift, hn, if_false]; exact hq
  case quo => simp only [binI] at hv; split at hv; · cases hv
              · rename_i hn; simp only [Option.some.injEq] at hv; subst hv; have hk : k = k' := by simpa using hk
                subst hk; simp only [binOp, ne_eq, not_true_eq_false, if_false, Op.intDiv, hn]; exact hq
  case rem => simp only [binI] at hv; split at hv; · cases hv
              · rename_i hn; simp only [Option.some.injEq] at hv; subst hv; have hk : k = k' := by simpa using hk
                subst hk; simp only [binOp, ne_eq, not_true_eq_false, if_false, Op.intDiv, hn]; exact hq
  all_goals
    first
    | (simp only [binI, reduceCtorEq] at hv; done)
    | (simp only [binI, Option.some.injEq] at hv
       have hk : k = k' := by simpa using hk
       subst hk hv
       simp only [binOp, ne_eq, not_true_eq_false, if_false, Op.intArith, Op.intBits, Op.intCmp]
       exact hq)
theorem binS_ok {P : Program} {op : BinOp} {t : TypeId} {a b : ByteArray} {r : Value} (hv : binS op a b = some r) (Q : Value → Hp → Prop) (h : Hp) (hq : Q r h) : hwp P (binOp op t (.string a) (.string b)) Q h := by
  cases op
  case add => simp only [binS] at hv; split at hv; · cases hv
              · rename_i hn; simp only [Option.some.injEq] at hv; subst hv; simp only [binOp, Op.stringOp, hn, if_false]; exact hq
  all_goals
    first
    | (simp only [binS, reduceCtorEq] at hv; done)
    | (simp only [binS, Option.some.injEq] at hv
       subst hv
       simp only [binOp, Op.stringOp]
       exact hq)
theorem hwp_ite' {P : Program} {α : Type} {c : Prop} [Decidable c] {s t : Sem α} {Q : α → Hp → Prop} {h : Hp} (h1 : c → hwp P s Q h) (h2 : ¬ c → hwp P t Q h) : hwp P (if c then s else t) Q h := by
  split
  · rename_i hc; exact h1 hc
  · rename_i hc; exact h2 hc
theorem hwp_ite {P : Program} {α : Type} {c : Prop} [Decidable c] {s t : Sem α} {Q : α → Hp → Prop} {h : Hp} (h1 : hwp P s Q h) (h2 : hwp P t Q h) : hwp P (if c then s else t) Q h := by
  split <;> assumption
def gdOk : Value → Value → Bool
  | .nilIface, .nilIface => false
  | .agg _, .agg _ => false
  | _, _ => true
theorem guard_ok {P : Program} {op : BinOp} {t : TypeId} {ox oy : Operand} {x y : Value} (hg : gdOk x y = true) {Q : Unit → Hp → Prop} {h : Hp} (hq : Q () h) : hwp P (eqGuard op t ox oy x y) Q h := by
  unfold eqGuard
  refine hwp_ite hq ?_
  split
  · simp [gdOk] at hg
  · simp [gdOk] at hg
  · exact hq
theorem bin_ok {P : Program} {op : BinOp} {t : TypeId} {x y r : Value} (hv : binV P op t x y = some r) (ox oy : Operand) (Q : Value → Hp → Prop) (h : Hp) (hq : Q r h) :
    hwp P (do eqGuard op t ox oy x y; binOp op t x y) Q h := by
  rw [hwp_bind]
  unfold binV at hv
  split at hv
  · rename_i k a k' b
    refine guard_ok rfl ?_
    split at hv
    · rename_i hk; exact binI_ok hk hv Q h hq
    · cases hv
  · rename_i a b
    exact guard_ok rfl (binS_ok hv Q h hq)
  · rename_i xs ys
    split at hv
    · rename_i ks hks
      split at hv
      · rename_i b hb
        obtain ⟨hg, hok⟩ := aggK_ok hks hb
        have hgd : ∀ {R : Unit → Hp → Prop}, R () h → hwp P (eqGuard op t ox oy (.agg xs) (.agg ys)) R h := by
          intro R hr
          unfold eqGuard
          refine hwp_ite hr ?_
          simp only [hwp_bind, program, hwp, hg, Bool.not_false, if_true]
          exact hr
        refine hgd ?_
        cases op <;> simp only [reduceCtorEq, Option.some.injEq] at hv
        · subst hv
          show hwp P (do pure (.bool (← Op.equal t (.agg xs) (.agg ys)))) Q h
          rw [hwp_bind]; exact hok _ _ hq
        · subst hv
          show hwp P (do pure (.bool (!(← Op.equal t (.agg xs) (.agg ys))))) Q h
          rw [hwp_bind]; exact hok _ _ hq
      · cases hv
    · cases hv
  · rename_i hni hns hna
    split at hv
    · rename_i d hu
      split at hv
      · rename_i b hb
        have he : (op = .eql ∧ r = .bool b) ∨ (op = .neq ∧ r = .bool !b) := by
          split at hv
          · simp only [Option.some.injEq] at hv; exact .inl ⟨rfl, hv.symm⟩
          · simp only [Option.some.injEq] at hv; exact .inr ⟨rfl, hv.symm⟩
          · cases hv
        have key : ∀ {R : Bool → Hp → Prop}, R b h → hwp P (Op.equal t x y) R h := fun hr => eqD_ok hu hb _ h hr
        clear hv hni hns hna
        rcases he with ⟨rfl, rfl⟩ | ⟨rfl, rfl⟩
        · have goal : hwp P (do pure (.bool (← Op.equal t x y))) Q h := by
            rw [hwp_bind]; exact key hq
          unfold eqD at hb
          split at hb <;> first | exact guard_ok rfl goal | cases hb
        · have goal : hwp P (do pure (.bool (!(← Op.equal t x y)))) Q h := by
            rw [hwp_bind]; exact key hq
          unfold eqD at hb
          split at hb <;> first | exact guard_ok rfl goal | cases hb
      · cases hv
    · cases hv
def unV (op : UnOp) (x : Value) : Option Value :=
  match op, x with
  | .neg, .int k n => some (.int k (k.wrap (0 - n)))
  | .xor, .int k n => some (.int k (xorI k (if k.signed then -1 else k.max) n))
  | .not, .bool b => some (.bool !b)
  | _, _ => none
theorem un_ok {P : Program} {op : UnOp} {x r : Value} (hv : unV op x = some r) (Q : Value → Hp → Prop) (h : Hp) (hq : Q r h) : hwp P (Op.unary op x) Q h := by
  unfold unV at hv
  split at hv <;> simp only [Option.some.injEq, reduceCtorEq] at hv <;> subst hv <;> exact hq
def convV (P : Program) (src dst : TypeId) (x : Value) : Option Value :=
  match P.underlying src, P.underlying dst, x with
  | some (.int _), some (.int k), .int _ n => some (.int k (k.wrap n))
  | some .string, some .string, .string s => some (.string s)
  | _, _, _ => none
theorem conv_ok {P : Program} {s d : TypeId} {x r : Value} (hv : convV P s d x = some r) (Q : Value → Hp → Prop) (h : Hp) (hq : Q r h) : hwp P (convert s d x) Q h := by
  unfold convV at hv
  split at hv
  · rename_i k0 k k' n h1 h2
    simp only [Option.some.injEq] at hv
    subst hv
    unfold convert
    simp only [hwp_bind, hwp_underlying P h1, hwp_underlying P h2]
    exact hq
  · rename_i st h1 h2
    simp only [Option.some.injEq] at hv
    subst hv
    unfold convert
    simp only [hwp_bind, hwp_underlying P h1, hwp_underlying P h2]
    exact hq
  · cases hv
def nilV (x : Value) : Option Value :=
  match x with
  | .pointer none | .nilIface | .nilFunc => none
  | .func (.method _) _ _ => none
  | x => some x
def extrV (t : Value) (i : Nat) : Option Value :=
  match t with
  | .tuple vs => vs[i]?
  | _ => none
def pickV (c a b : Value) : Option Value :=
  match c with
  | .bool c => some (if c then a else b)
  | _ => none
def mkIfV (P : Program) (t : TypeId) (x : Value) : Option Value :=
  match P.underlying t with
  | some (.interface _) => none
  | some _ => some (.iface t x)
  | none => none
/-- An interface's value is taken as one of a plain type. -/
def tasV (P : Program) (x : Value) (asserted : TypeId) (ok : Bool) : Option Value :=
  match P.underlying asserted, x with
  | some (.interface _), _ => none
  | some _, .iface t v => if t = asserted then some (if ok then .tuple #[v, .bool true] else v) else if ok then (zeroK P asserted).map fun z => .tuple #[z, .bool false] else none
  | some _, .nilIface => if ok then (zeroK P asserted).map fun z => .tuple #[z, .bool false] else none
  | _, _ => none
theorem tas_ok {P : Program} {x r : Value} {xt t : TypeId} {ok : Bool} (hv : tasV P x t ok = some r) (Q : Value → Hp → Prop) (h : Hp) (hq : Q r h) : hwp P (Instr.typeAssert x xt t ok) Q h := by
  unfold tasV at hv
  split at hv
  · cases hv
  · rename_i d t' v hni hu
    unfold Instr.typeAssert
    simp only [hwp_bind, hwp_underlying P hu]
    split at hv
    · rename_i ht
      simp only [Option.some.injEq] at hv
      subst ht
      have : (match d, (Value.iface t' v) with
        | .interface _, .nilIface => False
        | .interface _, .iface _ _ => False
        | _, _ => True) := by cases d <;> simp_all
      cases d <;> first | (exact absurd rfl (hni _)) | (simp only [if_true]; rw [hwp_pure, hv]; exact hq)
    · rename_i ht
      cases ok with
      | false => simp at hv
      | true =>
        simp only [if_true] at hv
        cases hz : zeroK P t with
        | none => rw [hz] at hv; simp at hv
        | some z =>
          rw [hz] at hv
          simp only [Option.map_some, Option.some.injEq] at hv
          cases d <;> first | (exact absurd rfl (hni _)) | (simp only [ht, if_false, if_true, hwp_bind, hwp_zeroValue P hz, hwp_pure]; rw [hv]; exact hq)
  · rename_i d hni hu
    cases ok with
    | false => simp at hv
    | true =>
      simp only [if_true] at hv
      cases hz : zeroK P t with
      | none => rw [hz] at hv; simp at hv
      | some z =>
        rw [hz] at hv
        simp only [Option.map_some, Option.some.injEq] at hv
        unfold Instr.typeAssert
        simp only [hwp_bind, hwp_underlying P hu]
        cases d <;> first | (exact absurd rfl (hni _)) | (simp only [if_true, hwp_bind, hwp_zeroValue P hz, hwp_pure]; rw [hv]; exact hq)
  · cases hv
end Go.Hx
