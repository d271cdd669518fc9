/- A region whose operations may come in more than one order: one order is walked, and what may float is looked at again. -/
import Derived.Test.YtiiglipmekeikaaHxZ
set_option linter.unusedVariables false
set_option linter.unusedSimpArgs false
namespace Go.Hx

/-! ### 1. An operation's value hangs on its operands alone -/
theorem Vl_mono {o : Option Value} {K K2 : Value → Prop} (hk : ∀ v, K v → K2 v) (h : Vl o K) : Vl o K2 := by obtain ⟨v, e, k⟩ := h; exact ⟨v, e, hk _ k⟩
theorem evL_cm {env env2 : Env} {xs : List Operand} (hag : ∀ x ∈ xs, evO env x = evO env2 x) : evL env xs = evL env2 xs := by
  induction xs with
  | nil => rfl
  | cons x xs ih => simp only [evL]; rw [hag x (by simp), ih fun y hy => hag y (by simp [hy])]
theorem evP_cm {env env2 : Env} {xs : List (Nat × Operand)} (hag : ∀ x ∈ xs.map (·.2), evO env x = evO env2 x) : evP env xs = evP env2 xs := by
  induction xs with
  | nil => rfl
  | cons x xs ih =>
    obtain ⟨i, x⟩ := x
    simp only [evP]
    rw [hag x (by simp), ih fun y hy => hag y (by simp at hy ⊢; exact .inr hy)]
theorem bltX_mono {P : Program} {b : Builtin} {ts : Array TypeId} {args : List Value} {h : Hp} {K K2 : Value → Hp → Prop} (hk : ∀ v h', K v h' → K2 v h') (hx : bltX P b ts args h K) : bltX P b ts args h K2 := by
  unfold bltX at hx ⊢
  split at hx
  · exact Vl_mono (fun v => hk v h) hx
  · exact Vl_mono (fun v => hk v h) hx
  · exact fun ty => hwp_mono P _ hk _ (hx ty)
  · exact fun ty => hwp_mono P _ hk _ (hx ty)
  · obtain ⟨h', e, k⟩ := hx; exact ⟨h', e, hk _ _ k⟩
  · exact hwp_mono P _ hk _ hx
  · exact hwp_mono P _ hk _ hx
  · exact hwp_mono P _ hk _ hx
  · exact hx
theorem FnK_mono {P : Program} {f : Value} {args : List Value} {h : Hp} {K K2 : Value → Hp → Prop} (hk : ∀ v h', K v h' → K2 v h') (hx : FnK P f args h K) : FnK P f args h K2 := by
  unfold FnK at hx ⊢
  split at hx
  · exact hx.mono hk
  · exact hx
theorem InvK_mono {P : Program} {f : Value} {name : String} {args : List Value} {h : Hp} {K K2 : Value → Hp → Prop} (hk : ∀ v h', K v h' → K2 v h') (hx : InvK P f name args h K) : InvK P f name args h K2 := by
  unfold InvK at hx ⊢
  split at hx
  · obtain ⟨f, x, e, k⟩ := hx; exact ⟨f, x, e, k.mono hk⟩
  · exact hx
theorem mem_ops (xs : Array Operand) (x : Operand) : x ∈ xs ↔ x ∈ xs.toList := by simp
theorem opX_cm {P : Program} {op : Op} {ty : TypeId} {env env2 : Env} {h : Hp} {K K2 : Value → Hp → Prop} (hag : ∀ x ∈ op.operands.toList, evO env x = evO env2 x) (hk : ∀ v h', K v h' → K2 v h') (hx : opX P op ty env h K) : opX P op ty env2 h K2 := by
  unfold opX at hx ⊢
  cases op <;> simp only at hx ⊢
  case move x => rw [← hag x (by simp [Op.operands])]; exact Vl_mono (fun v => hk v h) hx
  case assign x => rw [← hag x (by simp [Op.operands])]; exact Vl_mono (fun v => hk v h) hx
  case pick c a b => rw [← hag c (by simp [Op.operands]), ← hag a (by simp [Op.operands]), ← hag b (by simp [Op.operands])]; exact Vl_mono (fun _ => Vl_mono fun _ => Vl_mono fun _ => Vl_mono fun v => hk v h) hx
  case alloc t => exact Vl_mono (fun z hz b hb => hk _ _ (hz b hb)) hx
  case box t x => rw [← hag x (by simp [Op.operands])]; exact Vl_mono (fun z hz b hb => hk _ _ (hz b hb)) hx
  case build t ps =>
    rw [← evP_cm (env := env) (fun x hx => hag x (by simpa [Op.operands] using hx))]
    obtain ⟨l, e, k⟩ := hx
    exact ⟨l, e, Vl_mono (fun v => hk v h) k⟩
  case buildSlice t n ps =>
    rw [← evP_cm (env := env) (fun x hx => hag x (by simpa [Op.operands] using hx))]
    obtain ⟨l, e, et, cs, e2, k⟩ := hx
    exact ⟨l, e, et, cs, e2, fun b hb => hk _ _ (k b hb)⟩
  case load t x => rw [← hag x (by simp [Op.operands])]; exact Vl_mono (fun _ => Vl_mono fun v => hk v h) hx
  case store t a x =>
    rw [← hag a (by simp [Op.operands]), ← hag x (by simp [Op.operands])]
    exact Vl_mono (fun _ => Vl_mono fun _ ⟨h', e, k⟩ => ⟨h', e, hk _ _ k⟩) hx
  case nilCheck x => rw [← hag x (by simp [Op.operands])]; exact Vl_mono (fun _ => Vl_mono fun v => hk v h) hx
  case binOp o t x y t' => rw [← hag x (by simp [Op.operands]), ← hag y (by simp [Op.operands])]; exact Vl_mono (fun _ => Vl_mono fun _ => Vl_mono fun v => hk v h) hx
  case unOp o t x => rw [← hag x (by simp [Op.operands])]; exact Vl_mono (fun _ => Vl_mono fun v => hk v h) hx
  case convert s d x => rw [← hag x (by simp [Op.operands])]; exact Vl_mono (fun _ => Vl_mono fun v => hk v h) hx
  case makeInterface t x => rw [← hag x (by simp [Op.operands])]; exact Vl_mono (fun _ => Vl_mono fun v => hk v h) hx
  case makeFunc fn a b =>
    rw [← evL_cm (env := env) (xs := a.toList) (fun x hx => hag x (by simp at hx; simp [Op.operands, hx])), ← evL_cm (env := env) (xs := b.toList) (fun x hx => hag x (by simp at hx; simp [Op.operands, hx]))]
    obtain ⟨l, e, l2, e2, k⟩ := hx
    exact ⟨l, e, l2, e2, hk _ _ k⟩
  case makeMap t r =>
    cases r with
    | none => exact fun b hb => hk _ _ (hx b hb)
    | some r => exact hx
  case slice t x lo hi mx =>
    have e1 : evM env2 lo = evM env lo := by cases lo with
      | none => rfl
      | some y => simp only [evM]; rw [hag y (by simp [Op.operands])]
    have e2 : evM env2 hi = evM env hi := by cases hi with
      | none => rfl
      | some y => simp only [evM]; rw [hag y (by simp [Op.operands])]
    have e3 : evM env2 mx = evM env mx := by cases mx with
      | none => rfl
      | some y => simp only [evM]; rw [hag y (by simp [Op.operands])]
    rw [← hag x (by simp [Op.operands]), e1, e2, e3]
    exact Vl_mono (fun _ ⟨a, b, c, ha, hb, hc, k⟩ => ⟨a, b, c, ha, hb, hc, Vl_mono (fun v => hk v h) k⟩) hx
  case fieldAddr s x f => rw [← hag x (by simp [Op.operands])]; exact Vl_mono (fun _ => Vl_mono fun v => hk v h) hx
  case field s x f => rw [← hag x (by simp [Op.operands])]; exact Vl_mono (fun _ => Vl_mono fun v => hk v h) hx
  case indexAddr t x y => rw [← hag x (by simp [Op.operands]), ← hag y (by simp [Op.operands])]; exact Vl_mono (fun _ => Vl_mono fun _ => Vl_mono fun v => hk v h) hx
  case index t x y => rw [← hag x (by simp [Op.operands]), ← hag y (by simp [Op.operands])]; exact Vl_mono (fun _ => Vl_mono fun _ => Vl_mono fun v => hk v h) hx
  case lookup t x y ok => rw [← hag x (by simp [Op.operands]), ← hag y (by simp [Op.operands])]; exact Vl_mono (fun _ => Vl_mono fun _ => Vl_mono fun v => hk v h) hx
  case mapUpdate t m k x =>
    rw [← hag m (by simp [Op.operands]), ← hag k (by simp [Op.operands]), ← hag x (by simp [Op.operands])]
    exact Vl_mono (fun _ => Vl_mono fun _ => Vl_mono fun _ ⟨h', e, k⟩ => ⟨h', e, hk _ _ k⟩) hx
  case insert t m k x =>
    rw [← hag m (by simp [Op.operands]), ← hag k (by simp [Op.operands]), ← hag x (by simp [Op.operands])]
    exact Vl_mono (fun _ => Vl_mono fun _ => Vl_mono fun _ ⟨h', e, k⟩ => ⟨h', e, hk _ _ k⟩) hx
  case typeAssert x xt t ok => rw [← hag x (by simp [Op.operands])]; exact Vl_mono (fun _ => Vl_mono fun v => hk v h) hx
  case extract x i => rw [← hag x (by simp [Op.operands])]; exact Vl_mono (fun _ => Vl_mono fun v => hk v h) hx
  case makeSlice t x y => rw [← hag x (by simp [Op.operands]), ← hag y (by simp [Op.operands])]; exact Vl_mono (fun _ => Vl_mono fun _ hs => hwp_mono P _ hk _ hs) hx
  case range t x => rw [← hag x (by simp [Op.operands])]; exact Vl_mono (fun _ hs => hwp_mono P _ hk _ hs) hx
  case next x s => rw [← hag x (by simp [Op.operands])]; exact Vl_mono (fun _ hs => hwp_mono P _ hk _ hs) hx
  case entry x => rw [← hag x (by simp [Op.operands])]; exact Vl_mono (fun _ hs => hwp_mono P _ hk _ hs) hx
  case call c =>
    obtain ⟨callee, args, ats⟩ := c
    cases callee with
    | value f =>
      simp only at hx ⊢
      rw [← hag f (by simp [Op.operands, Call.operands]), ← evL_cm (env := env) (xs := args.toList) (fun x hx => hag x (by simp at hx; simp [Op.operands, Call.operands, hx]))]
      exact Vl_mono (fun _ ⟨l, e, k⟩ => ⟨l, e, FnK_mono hk k⟩) hx
    | invoke r name =>
      simp only at hx ⊢
      rw [← hag r (by simp [Op.operands, Call.operands]), ← evL_cm (env := env) (xs := args.toList) (fun x hx => hag x (by simp at hx; simp [Op.operands, Call.operands, hx]))]
      exact Vl_mono (fun _ ⟨l, e, k⟩ => ⟨l, e, InvK_mono hk k⟩) hx
    | builtin b =>
      simp only at hx ⊢
      rw [← evL_cm (env := env) (xs := args.toList) (fun x hx => hag x (by simp at hx; simp [Op.operands, Call.operands, hx]))]
      obtain ⟨l, e, k⟩ := hx
      exact ⟨l, e, bltX_mono hk k⟩
  all_goals exact hx
/-- An operation that makes nothing and writes nothing. -/
def isQ : Op → Bool
  | .move _ | .pick .. | .load .. | .nilCheck _ | .binOp .. | .unOp .. | .convert .. | .makeInterface .. | .makeFunc .. | .slice .. | .fieldAddr .. | .field .. | .indexAddr .. | .index .. | .lookup .. | .typeAssert .. | .extract .. | .build .. => true
  | .call { callee := .builtin .len, .. } | .call { callee := .builtin .cap, .. } => true
  | _ => false
theorem Vl_q {o : Option Value} {K : Value → Prop} {α : Prop} (h : Vl o K) (f : ∀ v, o = some v → K v → α) : α := by obtain ⟨v, e, k⟩ := h; exact f v e k
theorem opX_q {P : Program} {op : Op} {ty : TypeId} {env : Env} {h : Hp} {K : Value → Hp → Prop} (hq : isQ op = true) (hx : opX P op ty env h K) : ∃ v, K v h ∧ ∀ K2 : Value → Hp → Prop, K2 v h → opX P op ty env h K2 := by
  unfold opX at hx ⊢
  cases op <;> simp only at hx ⊢ <;> first | (simp only [isQ, Bool.false_eq_true] at hq; done) | skip
  case move x => obtain ⟨v, e, k⟩ := hx; exact ⟨v, k, fun K2 k2 => ⟨v, e, k2⟩⟩
  case pick c a b => obtain ⟨v1, e1, v2, e2, v3, e3, v, e, k⟩ := hx; exact ⟨v, k, fun K2 k2 => ⟨v1, e1, v2, e2, v3, e3, v, e, k2⟩⟩
  case build t ps => obtain ⟨l, e1, v, e, k⟩ := hx; exact ⟨v, k, fun K2 k2 => ⟨l, e1, v, e, k2⟩⟩
  case load t x => obtain ⟨v1, e1, v, e, k⟩ := hx; exact ⟨v, k, fun K2 k2 => ⟨v1, e1, v, e, k2⟩⟩
  case nilCheck x => obtain ⟨v1, e1, v, e, k⟩ := hx; exact ⟨v, k, fun K2 k2 => ⟨v1, e1, v, e, k2⟩⟩
  case binOp o t x y t' => obtain ⟨v1, e1, v2, e2, v, e, k⟩ := hx; exact ⟨v, k, fun K2 k2 => ⟨v1, e1, v2, e2, v, e, k2⟩⟩
  case unOp o t x => obtain ⟨v1, e1, v, e, k⟩ := hx; exact ⟨v, k, fun K2 k2 => ⟨v1, e1, v, e, k2⟩⟩
  case convert s d x => obtain ⟨v1, e1, v, e, k⟩ := hx; exact ⟨v, k, fun K2 k2 => ⟨v1, e1, v, e, k2⟩⟩
  case makeInterface t x => obtain ⟨v1, e1, v, e, k⟩ := hx; exact ⟨v, k, fun K2 k2 => ⟨v1, e1, v, e, k2⟩⟩
  case makeFunc fn a b => obtain ⟨l, e, l2, e2, k⟩ := hx; exact ⟨_, k, fun K2 k2 => ⟨l, e, l2, e2, k2⟩⟩
  case slice t x lo hi mx => obtain ⟨v1, e1, a, b, c, ha, hb, hc, v, e, k⟩ := hx; exact ⟨v, k, fun K2 k2 => ⟨v1, e1, a, b, c, ha, hb, hc, v, e, k2⟩⟩
  case fieldAddr s x f => obtain ⟨v1, e1, v, e, k⟩ := hx; exact ⟨v, k, fun K2 k2 => ⟨v1, e1, v, e, k2⟩⟩
  case field s x f => obtain ⟨v1, e1, v, e, k⟩ := hx; exact ⟨v, k, fun K2 k2 => ⟨v1, e1, v, e, k2⟩⟩
  case indexAddr t x y => obtain ⟨v1, e1, v2, e2, v, e, k⟩ := hx; exact ⟨v, k, fun K2 k2 => ⟨v1, e1, v2, e2, v, e, k2⟩⟩
  case index t x y => obtain ⟨v1, e1, v2, e2, v, e, k⟩ := hx; exact ⟨v, k, fun K2 k2 => ⟨v1, e1, v2, e2, v, e, k2⟩⟩
  case lookup t x y ok => obtain ⟨v1, e1, v2, e2, v, e, k⟩ := hx; exact ⟨v, k, fun K2 k2 => ⟨v1, e1, v2, e2, v, e, k2⟩⟩
  case typeAssert x xt t ok => obtain ⟨v1, e1, v, e, k⟩ := hx; exact ⟨v, k, fun K2 k2 => ⟨v1, e1, v, e, k2⟩⟩
  case extract x i => obtain ⟨v1, e1, v, e, k⟩ := hx; exact ⟨v, k, fun K2 k2 => ⟨v1, e1, v, e, k2⟩⟩
  case call c =>
    obtain ⟨callee, args, ats⟩ := c
    cases callee with
    | value f => simp [isQ] at hq
    | invoke r name => simp [isQ] at hq
    | builtin b =>
      obtain ⟨l, e, k⟩ := hx
      cases b <;> first | (simp only [isQ, Bool.false_eq_true] at hq; done) | skip
      all_goals
        unfold bltX at k
        split at k
        all_goals first | (rename_i he; cases he; done) | skip
        all_goals first
          | (exact k.elim)
          | (rename_i heq _; obtain ⟨v, e2, k⟩ := k
             refine ⟨v, k, fun K2 k2 => ⟨_, e, ?_⟩⟩
             unfold bltX
             exact ⟨v, e2, k2⟩)
          | (obtain ⟨v, e2, k⟩ := k
             refine ⟨v, k, fun K2 k2 => ⟨_, e, ?_⟩⟩
             unfold bltX
             exact ⟨v, e2, k2⟩)
end Go.Hx
