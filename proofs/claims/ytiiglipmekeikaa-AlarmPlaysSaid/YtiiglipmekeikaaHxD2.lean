/- A region whose operations may come in more than one order, carried on: the theorem, and its check. -/
import Derived.Test.YtiiglipmekeikaaHxD
set_option linter.unusedVariables false
set_option linter.unusedSimpArgs false
namespace Go.Hx

/-! ### 2. One operation with its guard -/
def tmpsOf (xs : List Operand) : List Nat := xs.filterMap fun
  | .tmp t => some t
  | _ => none
def readsOf (ops : Array Oper) (o : Oper) : List Nat :=
  tmpsOf o.op.operands.toList ++ match o.guard with
    | some (j, _) => (gdst ops j).toList
    | none => []
theorem agree_of {env env2 : Env} {xs : List Operand} (h : ∀ t ∈ tmpsOf xs, look env t = look env2 t) : ∀ x ∈ xs, evO env x = evO env2 x := by
  intro x hx
  cases x with
  | tmp t => exact h t (List.mem_filterMap.2 ⟨.tmp t, hx, rfl⟩)
  | const v => rfl
  | global g => rfl
  | func f => rfl
theorem X1_cm {P : Program} {ops : Array Oper} {o : Oper} {env env2 : Env} {h : Hp} {K K2 : Env → Hp → Prop} (hag : ∀ t ∈ readsOf ops o, look env t = look env2 t) (hk : ∀ v h', K (putE o.dst v env) h' → K2 (putE o.dst v env2) h')
    (hx : XOps P ops [o] env h K) : XOps P ops [o] env2 h K2 := by
  have hop : ∀ x ∈ o.op.operands.toList, evO env x = evO env2 x := agree_of fun t ht => hag t (by simp [readsOf, ht])
  simp only [XOps] at hx ⊢
  cases hg : o.guard with
  | none => simp only [hg] at hx ⊢; exact opX_cm hop hk hx
  | some jb =>
    obtain ⟨j, b⟩ := jb
    simp only [hg] at hx ⊢
    obtain ⟨t, ht, hy, hn⟩ := hx
    refine ⟨t, ?_, fun e => opX_cm hop hk (hy e), fun e => hk _ _ (hn e)⟩
    rw [← ht]
    cases hj : gdst ops j with
    | none => rfl
    | some d => simp only [Option.bind_some]; exact (hag d (by simp [readsOf, hg, hj])).symm
theorem X1_q {P : Program} {ops : Array Oper} {o : Oper} {env : Env} {h : Hp} {K : Env → Hp → Prop} (hq : isQ o.op = true) (hx : XOps P ops [o] env h K) :
    ∃ v, K (putE o.dst v env) h ∧ ∀ (env2 : Env) (K2 : Env → Hp → Prop), (∀ t ∈ readsOf ops o, look env t = look env2 t) → K2 (putE o.dst v env2) h → XOps P ops [o] env2 h K2 := by
  have hx0 := hx
  simp only [XOps] at hx
  cases hg : o.guard with
  | none =>
    simp only [hg] at hx
    obtain ⟨v, hk, hall⟩ := opX_q hq hx
    refine ⟨v, hk, fun env2 K2 hag h2 => ?_⟩
    simp only [XOps, hg]
    exact opX_cm (agree_of fun t ht => hag t (by simp [readsOf, ht])) (fun v' h' hv => hv) (hall (fun v' h' => K2 (putE o.dst v' env2) h') h2)
  | some jb =>
    obtain ⟨j, b⟩ := jb
    simp only [hg] at hx
    obtain ⟨t, ht, hy, hn⟩ := hx
    have hgd : ∀ env2 : Env, (∀ t ∈ readsOf ops o, look env t = look env2 t) → (gdst ops j).bind (look env2) = some t := by
      intro env2 hag
      rw [← ht]
      cases hj : gdst ops j with
      | none => rfl
      | some d => simp only [Option.bind_some]; exact (hag d (by simp [readsOf, hg, hj])).symm
    by_cases e : t = .bool b
    · obtain ⟨v, hk, hall⟩ := opX_q hq (hy e)
      refine ⟨v, hk, fun env2 K2 hag h2 => ?_⟩
      simp only [XOps, hg]
      refine ⟨t, hgd env2 hag, fun _ => ?_, fun ne => absurd e ne⟩
      exact opX_cm (agree_of fun t ht => hag t (by simp [readsOf, ht])) (fun v' h' hv => hv) (hall (fun v' h' => K2 (putE o.dst v' env2) h') h2)
    · refine ⟨undef, hn e, fun env2 K2 hag h2 => ?_⟩
      simp only [XOps, hg]
      exact ⟨t, hgd env2 hag, fun e' => absurd e' e, fun _ => h2⟩
theorem X1_run {P : Program} {n : Nat} {ops : Array Oper} {o : Oper} {env : Env} {K : Env → Hp → Prop} {a : Act} {w : World} (hd : opsOk n [o] = true) (hx : XOps P ops [o] env (hpOf w) K) (hf : Fits n env a)
    (next : Act → World → Prop) (Q : Exit → Act → World → Prop) (hn : ∀ a' w' env', Sm w w' → Fits n env' a' → K env' (hpOf w') → next a' w') :
    if Region.wanted o (yielded ops a.tmps) then o.wp P a w next Q ∨ (o.asks P a w ∧ LetsOut Q) else next (a.put o.dst undef) w := by
  simp only [opsOk, List.all_cons, List.all_nil, Bool.and_true, Bool.and_eq_true] at hd
  obtain ⟨hd1, hd2⟩ := hd
  have key : opX P o.op o.type env (hpOf w) (fun v h' => K (putE o.dst v env) h') → HOp P n o env (hpOf w) K := by
    intro hx ρ hρ
    exact hwp_mono P _ (fun nx h' ha => After_of (dOk_of hd1) ha) _ (opX_ok hd2 hx ρ hρ)
  simp only [XOps] at hx
  cases hg : o.guard with
  | none =>
    simp only [hg] at hx
    rw [if_pos (by simp [Region.wanted, hg])]
    exact .inl ((key hx).run hf rfl next Q hn)
  | some jb =>
    obtain ⟨j, b⟩ := jb
    simp only [hg] at hx
    obtain ⟨t, ht, hy, hno⟩ := hx
    cases hj : gdst ops j with
    | none => rw [hj] at ht; cases ht
    | some d =>
      rw [hj] at ht
      simp only [Option.bind_some] at ht
      have hyl : yielded ops a.tmps j = match t with
          | .bool c => some c
          | _ => none := by
        unfold gdst at hj
        simp only [yielded, hj, Option.bind_some, hf.look _ _ ht]
        cases t <;> rfl
      by_cases e : t = .bool b
      · subst e
        rw [if_pos (by simp [Region.wanted, hg, hyl])]
        exact .inl ((key (hy rfl)).run hf rfl next Q hn)
      · have hyn : yielded ops a.tmps j ≠ some b := by
          rw [hyl]
          cases t <;> simp_all
        rw [if_neg (by simp [Region.wanted, hg, hyn])]
        exact hn _ _ _ (Sm.refl w) (hf.put undef (dOk_of hd1)) (hno e)

/-! ### 3. Whatever order -/
def predsOf (o : Oper) : List Nat := (o.after.toList.filter (Region.binds .any ·)).map (·.on)
def AnyOrd (P : Program) (l : List Oper) (K : Env → Hp → Prop) : Nat → List Nat → Env → Hp → Prop
  | 0, _, env, h => K env h
  | f + 1, done, env, h => ∀ i o, l[i]? = some o → i ∉ done → (∀ p ∈ predsOf o, p ∈ done) → XOps P l.toArray [o] env h fun env' h' => AnyOrd P l K f (i :: done) env' h'
theorem go_acc (m : Region.Mode) (ops : Array Oper) : ∀ (f t : Nat) (listed : Array Bool) (acc : List Nat), Region.linearise.go m ops f t listed acc = acc.reverse ++ Region.linearise.go m ops f t listed [] := by
  intro f
  induction f with
  | zero => intro t listed acc; simp [Region.linearise.go]
  | succ f ih =>
    intro t listed acc
    simp only [Region.linearise.go]
    split
    · rename_i i hi
      rw [ih _ _ (i :: acc), ih _ _ [i]]
      simp
    · simp
theorem least_out (m : Nat) (done : List Nat) (h : ∃ i, i < m ∧ i ∉ done) : ∃ i, i < m ∧ i ∉ done ∧ ∀ j, j < i → j ∈ done := by
  obtain ⟨i, hi, hn⟩ := h
  induction i using Nat.strongRecOn with
  | _ i ih =>
    by_cases hall : ∀ j, j < i → j ∈ done
    · exact ⟨i, hi, hn, hall⟩
    · have : ∃ j, j < i ∧ j ∉ done := by
        apply Classical.byContradiction
        intro hc
        exact hall fun j hj => Classical.byContradiction fun hnj => hc ⟨j, hj, hnj⟩
      obtain ⟨j, hj, hnj⟩ := this
      exact ih j hj (by omega) hnj
theorem exists_out (m : Nat) (done : List Nat) (hl : done.length < m) : ∃ i, i < m ∧ i ∉ done := by
  apply Classical.byContradiction
  intro hc
  have hsub : List.range m ⊆ done := fun i hi => Classical.byContradiction fun hn => hc ⟨i, List.mem_range.1 hi, hn⟩
  have := (List.nodup_range (n := m)).length_le_of_subset hsub
  simp at this
  omega
theorem any_go {P : Program} {n : Nat} {l : List Oper} {K : Env → Hp → Prop} {w0 : World} {Q : Exit → Act → World → Prop} (hd : opsOk n l = true) (hac : ∀ (i : Nat) (o : Oper), l[i]? = some o → ∀ p ∈ predsOf o, p < i)
    (hQ : ∀ a' w' env', Sm w0 w' → Fits n env' a' → K env' (hpOf w') → Q .normal a' w') : ∀ (f t : Nat) (listed : Array Bool) (done : List Nat) (a : Act) (w : World) (env : Env),
    listed.size = l.length → (∀ i, i < l.length → (listed.getD i true = true ↔ i ∈ done)) → f + done.length = l.length → Sm w0 w → Fits n env a → AnyOrd P l K f done env (hpOf w) → wpOps P l.toArray Q (Region.linearise.go .any l.toArray f t listed []) a w := by
  intro f
  induction f with
  | zero =>
    intro t listed done a w env hs hl hc hsm hf hx
    simp only [Region.linearise.go, List.reverse_nil, wpOps]
    exact hQ _ _ _ hsm hf hx
  | succ f ih =>
    intro t listed done a w env hs hl hc hsm hf hx
    simp only [Region.linearise.go]
    obtain ⟨i0, hi0, hn0, hall0⟩ := least_out l.length done (exists_out _ _ (by omega))
    have hrs : i0 ∈ (List.range l.toArray.size).filter fun i => !listed.getD i true && ((l.toArray[i]?).map (·.after.all fun e => !Region.binds .any e || listed.getD e.on false)).getD false := by
      rw [List.mem_filter]
      refine ⟨by simpa using hi0, ?_⟩
      have h1 : listed.getD i0 true = false := by
        cases hb : listed.getD i0 true with
        | false => rfl
        | true => exact absurd ((hl i0 hi0).1 hb) hn0
      have ho : l[i0]? = some l[i0] := List.getElem?_eq_getElem hi0
      rw [h1]
      simp only [List.getElem?_toArray, ho, Option.map_some, Option.getD_some, Bool.not_false, Bool.true_and, Array.all_eq_true_iff_forall_mem]
      intro e he
      cases hb : Region.binds .any e with
      | false => rfl
      | true =>
        have hp : e.on ∈ predsOf l[i0] := by
          unfold predsOf
          exact List.mem_map.2 ⟨e, List.mem_filter.2 ⟨by simpa using he, hb⟩, rfl⟩
        have hlt := hac i0 _ ho _ hp
        have := (hl e.on (by omega)).2 (hall0 _ hlt)
        simp only [Bool.not_true, Bool.false_or]
        rw [Array.getD_eq_getD_getElem?] at this ⊢
        rw [Array.getElem?_eq_getElem (by omega)] at this ⊢
        exact this
    generalize hrsE : (List.range l.toArray.size).filter (fun i => !listed.getD i true && ((l.toArray[i]?).map (·.after.all fun e => !Region.binds .any e || listed.getD e.on false)).getD false) = rs at hrs
    have hpos : 0 < rs.length := List.length_pos_of_mem hrs
    have hlt : t % rs.length < rs.length := Nat.mod_lt _ hpos
    rw [List.getElem?_eq_getElem hlt]
    generalize hi : rs[t % rs.length] = i
    have hmem : i ∈ rs := by rw [← hi]; exact List.getElem_mem _
    rw [← hrsE, List.mem_filter] at hmem
    obtain ⟨hm1, hm2⟩ := hmem
    have hil : i < l.length := by simpa using hm1
    have ho : l[i]? = some l[i] := List.getElem?_eq_getElem hil
    simp only [List.getElem?_toArray, ho, Option.map_some, Option.getD_some, Bool.and_eq_true, Bool.not_eq_true', Array.all_eq_true_iff_forall_mem] at hm2
    obtain ⟨hm2, hm3⟩ := hm2
    have hin : i ∉ done := fun hin => by rw [(hl i hil).2 hin] at hm2; cases hm2
    have hpr : ∀ p ∈ predsOf l[i], p ∈ done := by
      intro p hp
      have hlt := hac i _ ho _ hp
      unfold predsOf at hp
      obtain ⟨e, he, rfl⟩ := List.mem_map.1 hp
      obtain ⟨he1, he2⟩ := List.mem_filter.1 he
      have := hm3 e (by simpa using he1)
      rw [he2] at this
      simp only [Bool.not_true, Bool.false_or] at this
      refine (hl e.on (by omega)).1 ?_
      rw [Array.getD_eq_getD_getElem?] at this ⊢
      rw [Array.getElem?_eq_getElem (by omega)] at this ⊢
      exact this
    have hstep := hx i _ ho hin hpr
    simp only []
    rw [go_acc]
    simp only [List.reverse_cons, List.reverse_nil, List.nil_append, List.singleton_append, wpOps, List.getElem?_toArray, ho]
    have hdi : opsOk n [l[i]] = true := by
      simp only [opsOk, List.all_cons, List.all_nil, Bool.and_true]
      exact (List.all_eq_true.1 hd) _ (List.getElem_mem hil)
    refine X1_run hdi hstep hf _ Q ?_
    intro a' w' env' hs' hf' hx'
    refine ih _ _ (i :: done) a' w' env' (by simpa using hs) ?_ (by simp; omega) (hsm.trans hs') hf' hx'
    intro j hj
    rw [Array.getD_eq_getD_getElem?, Array.getElem?_setIfInBounds]
    by_cases e : i = j
    · subst e
      simp [hs, hil]
    · rw [if_neg e, ← Array.getD_eq_getD_getElem?]
      rw [hl j hj]
      simp [show j ≠ i from fun h => e h.symm]

/-! ### 4. One order, and what may float -/
def Stab (P : Program) (l : List Oper) : List Nat → Env → Hp → Prop
  | [], _, _ => True
  | q :: fl, env, h => (match l[q]? with
    | some o => XOps P l.toArray [o] env h fun env' _ => look env' (o.dst.getD 0) = look env (o.dst.getD 0)
    | none => False) ∧ Stab P l fl env h
/-- A plan: operations in one order; behind each what may still come later, and is looked at again; what surely came ahead. -/
abbrev Plan := List (Nat × List Nat × List Nat)
def CanX (P : Program) (l : List Oper) : Plan → Env → Hp → (Env → Hp → Prop) → Prop
  | [], env, h, K => K env h
  | (i, fl, _) :: L, env, h, K => match l[i]? with
    | some o => XOps P l.toArray [o] env h fun env' h' => Stab P l fl env' h' ∧ CanX P l L env' h' K
    | none => False
def quiet (l : List Oper) (i : Nat) : Bool :=
  match l[i]? with
  | some o => isQ o.op && o.dst.isSome
  | none => false
def prL (l : List Oper) (i : Nat) : List Nat := match l[i]? with
  | some o => predsOf o
  | none => []
def rdL (l : List Oper) (i : Nat) : List Nat := match l[i]? with
  | some o => readsOf l.toArray o
  | none => []
def dstL (l : List Oper) (i : Nat) : Option Nat := (l[i]?).bind (·.dst)
def ancOk (l : List Oper) : List Nat → List Nat → Bool
  | _, [] => true
  | acc, s :: r => acc.any (fun x => (prL l x).contains s) && ancOk l (s :: acc) r
/-- The check of a plan's rest, behind what came ahead. -/
def planOk (l : List Oper) : List Nat → Plan → Bool
  | _, [] => true
  | pre, (i, fl, an) :: L =>
    !pre.contains i && (if quiet l i then
      (i :: pre).all (fun j => !(rdL l j).contains ((dstL l i).getD 0)) && pre.all (fun j => dstL l j != dstL l i)
    else
      ancOk l [i] an && pre.all (fun q => !quiet l q || fl.contains q || an.contains q) &&
      L.all (fun x => (prL l x.1).any fun p => p == i || (L.map (·.1)).contains p)) && planOk l (i :: pre) L
def drawOk (l : List Oper) (L : Plan) : Bool :=
  (L.map (·.1)).length == l.length && (List.range l.length).all (fun i => (L.map (·.1)).contains i) &&
  (List.range l.length).all (fun i => (prL l i).all (· < i)) &&
  (List.range l.length).all (fun i => (List.range l.length).all fun q => !(quiet l q && (rdL l i).contains ((dstL l q).getD 0)) || (prL l i).contains q) &&
  planOk l [] L
theorem Stab_mem {P : Program} {l : List Oper} {env : Env} {h : Hp} : ∀ {fl : List Nat}, Stab P l fl env h → ∀ q ∈ fl, ∀ o, l[q]? = some o → XOps P l.toArray [o] env h fun env' _ => look env' (o.dst.getD 0) = look env (o.dst.getD 0) := by
  intro fl
  induction fl with
  | nil => intro _ q hq; simp at hq
  | cons x fl ih =>
    intro hs q hq o ho
    obtain ⟨h1, h2⟩ := hs
    rcases List.mem_cons.1 hq with rfl | hq
    · rw [ho] at h1; exact h1
    · exact ih h2 q hq o ho
theorem ancOk_sub {l : List Oper} {done : List Nat} (hdc : ∀ i ∈ done, ∀ p ∈ prL l i, p ∈ done) {e : Nat} (he : ∀ p ∈ prL l e, p ∈ done) : ∀ (an acc : List Nat), (∀ x ∈ acc, x = e ∨ x ∈ done) → ancOk l acc an = true → ∀ s ∈ an, s ∈ done := by
  intro an
  induction an with
  | nil => intro acc _ _ s hs; simp at hs
  | cons a an ih =>
    intro acc hacc hok s hs
    simp only [ancOk, Bool.and_eq_true, List.any_eq_true] at hok
    obtain ⟨⟨x, hx, hp⟩, hok⟩ := hok
    have hp' : a ∈ prL l x := by simpa using hp
    have ha : a ∈ done := by
      rcases hacc x hx with rfl | hd
      · exact he a hp'
      · exact hdc x hd a hp'
    rcases List.mem_cons.1 hs with rfl | hs
    · exact ha
    · refine ih (a :: acc) ?_ hok s hs
      intro y hy
      rcases List.mem_cons.1 hy with rfl | hy
      · exact .inr ha
      · exact hacc y hy
/-- The other order's numbers, and the walked one's: alike but for what is still to come. -/
structure Sim (P : Program) (l : List Oper) (pre done : List Nat) (envr envc : Env) (h : Hp) (L : Plan) : Prop where
  part : ∀ i, i < l.length → i ∈ pre ∨ i ∈ L.map (·.1)
  sub : ∀ i ∈ done, i ∈ pre
  dc : ∀ i ∈ done, ∀ p ∈ prL l i, p ∈ done
  pend : ∀ q ∈ pre, q ∉ done → quiet l q = true ∧ ∀ o, l[q]? = some o → XOps P l.toArray [o] envc h fun env' _ => look env' (o.dst.getD 0) = look envc (o.dst.getD 0)
  agree : ∀ k, (∀ q ∈ pre, q ∉ done → dstL l q ≠ some k) → look envr k = look envc k
theorem dst_of {l : List Oper} {i : Nat} {o : Oper} (ho : l[i]? = some o) : dstL l i = o.dst := by simp [dstL, ho]
theorem rd_of {l : List Oper} {i : Nat} {o : Oper} (ho : l[i]? = some o) : rdL l i = readsOf l.toArray o := by simp [rdL, ho]
theorem pr_of {l : List Oper} {i : Nat} {o : Oper} (ho : l[i]? = some o) : prL l i = predsOf o := by simp [prL, ho]
theorem quiet_of {l : List Oper} {i : Nat} {o : Oper} (ho : l[i]? = some o) (hq : quiet l i = true) : isQ o.op = true ∧ ∃ d, o.dst = some d := by
  simp only [quiet, ho, Bool.and_eq_true] at hq
  exact ⟨hq.1, Option.isSome_iff_exists.1 hq.2⟩
theorem planOk_out {l : List Oper} : ∀ {L : Plan} {pre : List Nat}, planOk l pre L = true → ∀ x ∈ L, x.1 ∉ pre := by
  intro L
  induction L with
  | nil => intro pre _ x hx; simp at hx
  | cons y L ih =>
    intro pre hok x hx
    obtain ⟨i, fl, an⟩ := y
    simp only [planOk, Bool.and_eq_true] at hok
    rcases List.mem_cons.1 hx with rfl | hx
    · have := hok.1.1
      simpa using this
    · have := ih hok.2 x hx
      exact fun h => this (List.mem_cons_of_mem _ h)
theorem len_lt {m : Nat} {done : List Nat} (hnd : done.Nodup) (hd : ∀ i ∈ done, i < m) {q : Nat} (hq : q < m) (hn : q ∉ done) : done.length < m := by
  have hsubr : (q :: done) ⊆ List.range m := by
    intro x hx
    rcases List.mem_cons.1 hx with rfl | hx
    · exact List.mem_range.2 hq
    · exact List.mem_range.2 (hd _ hx)
  have := (List.nodup_cons.2 ⟨hn, hnd⟩).length_le_of_subset hsubr
  simp at this
  omega
section
variable {P : Program} {l : List Oper} {pre done : List Nat} {envr envc : Env} {h : Hp} {L : Plan}
theorem Sim.reads (hc1 : ∀ i, i < l.length → ∀ q, q < l.length → quiet l q = true → (dstL l q).getD 0 ∈ rdL l i → q ∈ prL l i) (hprel : ∀ i ∈ pre, i < l.length) (hs : Sim P l pre done envr envc h L) {i : Nat} {o : Oper} (ho : l[i]? = some o) (hpr : ∀ p ∈ predsOf o, p ∈ done) :
    ∀ t ∈ readsOf l.toArray o, look envc t = look envr t := by
  intro t ht
  refine (hs.agree t ?_).symm
  intro q hq hnq hdq
  have := hc1 i (List.getElem?_eq_some_iff.1 ho).1 q (hprel q hq) (hs.pend q hq hnq).1 (by rw [hdq, rd_of ho]; exact ht)
  rw [pr_of ho] at this
  exact hnq (hpr q this)
/-- An operation that only reads comes later than in the order that was walked. -/
theorem Sim.late (hs : Sim P l pre done envr envc h L) {i : Nat} {o : Oper} (ho : l[i]? = some o) (hpre : i ∈ pre) (hin : i ∉ done) (hpr : ∀ p ∈ predsOf o, p ∈ done) {d : Nat} (hd : o.dst = some d) {v : Value} (hv : some v = look envc d) :
    Sim P l pre (i :: done) (putE o.dst v envr) envc h L := by
  refine ⟨hs.part, ?_, ?_, ?_, ?_⟩
  · intro j hj
    rcases List.mem_cons.1 hj with rfl | hj
    · exact hpre
    · exact hs.sub j hj
  · intro j hj p hp
    rcases List.mem_cons.1 hj with rfl | hj
    · rw [pr_of ho] at hp; exact List.mem_cons_of_mem _ (hpr p hp)
    · exact List.mem_cons_of_mem _ (hs.dc j hj p hp)
  · intro q hq hnq
    exact hs.pend q hq fun h => hnq (List.mem_cons_of_mem _ h)
  · intro k hk
    rw [hd]
    simp only [putE, look]
    split
    · rename_i e; subst e; exact hv
    · rename_i e
      refine hs.agree k ?_
      intro q hq hnq hdq
      by_cases hqi : q = i
      · subst hqi
        rw [dst_of ho, hd] at hdq
        simp only [Option.some.injEq] at hdq
        exact e hdq.symm
      · exact hk q hq (by simp [hqi, hnq]) hdq
end
theorem can_any {P : Program} {l : List Oper} {K : Env → Hp → Prop} (hc1 : ∀ i, i < l.length → ∀ q, q < l.length → quiet l q = true → (dstL l q).getD 0 ∈ rdL l i → q ∈ prL l i) :
    ∀ (m : Nat) (L : Plan) (pre done : List Nat) (envr envc : Env) (h : Hp) (f : Nat), 2 * f + L.length ≤ m → (∀ i ∈ pre, i < l.length) → (∀ x ∈ L, x.1 < l.length) → planOk l pre L = true → done.Nodup → f + done.length = l.length →
      Sim P l pre done envr envc h L → CanX P l L envc h K → AnyOrd P l (fun env h => ∃ env', (∀ k v, look env' k = some v → look env k = some v) ∧ K env' h) f done envr h := by
  intro m
  induction m using Nat.strongRecOn with
  | _ m ih =>
    intro L pre done envr envc h f hm hprel hLl hok hnd hf hs hx
    have hdl : ∀ i ∈ done, i < l.length := fun i hi => hprel i (hs.sub i hi)
    -- what was walked already, and comes now
    have late : ∀ f', f = f' + 1 → ∀ i o, l[i]? = some o → i ∉ done → i ∈ pre → (∀ p ∈ predsOf o, p ∈ done) → XOps P l.toArray [o] envr h fun env' h' => AnyOrd P l (fun env h => ∃ env', (∀ k v, look env' k = some v → look env k = some v) ∧ K env' h) f' (i :: done) env' h' := by
      intro f' hf' i o ho hin hpre hpr
      subst hf'
      obtain ⟨hqi, hst⟩ := hs.pend i hpre hin
      obtain ⟨hqo, d, hd⟩ := quiet_of ho hqi
      obtain ⟨v, hv, hall⟩ := X1_q hqo (hst o ho)
      refine hall envr _ (hs.reads hc1 hprel ho hpr) ?_
      have hv' : some v = look envc d := by
        rw [hd] at hv
        simpa only [putE, look, if_true, Option.getD_some] using hv
      exact ih (2 * f' + L.length) (by omega) L pre (i :: done) _ envc h f' (Nat.le_refl _) hprel hLl hok (List.nodup_cons.2 ⟨hin, hnd⟩) (by simp; omega) (hs.late ho hpre hin hpr hd hv') hx
    cases L with
    | nil =>
      cases f with
      | zero =>
        refine ⟨envc, ?_, hx⟩
        intro k v hv
        rw [hs.agree k ?_]
        · exact hv
        · intro q hq hnq
          have := len_lt hnd hdl (hprel q hq) hnq
          omega
      | succ f =>
        intro i o ho hin hpr
        have hpre : i ∈ pre := by
          rcases hs.part i (List.getElem?_eq_some_iff.1 ho).1 with h | h
          · exact h
          · simp at h
        exact late f rfl i o ho hin hpre hpr
    | cons x L =>
      obtain ⟨i0, fl, an⟩ := x
      have hout := planOk_out hok
      simp only [planOk, Bool.and_eq_true] at hok
      obtain ⟨⟨hnew, hok0⟩, hokL⟩ := hok
      have hi0l : i0 < l.length := hLl (i0, fl, an) (by simp)
      have hi0p : i0 ∉ pre := hout (i0, fl, an) (by simp)
      have ho0 : l[i0]? = some l[i0] := List.getElem?_eq_getElem hi0l
      generalize l[i0] = o0 at ho0
      simp only [CanX, ho0] at hx
      have hprel' : ∀ i ∈ i0 :: pre, i < l.length := by
        intro j hj
        rcases List.mem_cons.1 hj with rfl | hj
        · exact hi0l
        · exact hprel j hj
      have hpart' : ∀ j, j < l.length → j ∈ i0 :: pre ∨ j ∈ L.map (·.1) := by
        intro j hj
        rcases hs.part j hj with h | h
        · exact .inl (List.mem_cons_of_mem _ h)
        · simp only [List.map_cons, List.mem_cons] at h
          rcases h with rfl | h
          · exact .inl (by simp)
          · exact .inr h
      by_cases hq0 : quiet l i0 = true
      · -- the walked order goes on by an operation that only reads
        rw [if_pos hq0] at hok0
        simp only [Bool.and_eq_true, List.all_eq_true, Bool.not_eq_true', bne_iff_ne, ne_eq] at hok0
        obtain ⟨hok1, hok2⟩ := hok0
        obtain ⟨hqo, d, hd⟩ := quiet_of ho0 hq0
        obtain ⟨v, ⟨_, hcan⟩, hall⟩ := X1_q hqo hx
        have hrd : ∀ j ∈ i0 :: pre, d ∉ rdL l j := by
          intro j hj hc
          have := hok1 j hj
          rw [dst_of ho0, hd] at this
          simp at this
          exact this hc
        have hput : putE o0.dst v envc = (d, v) :: envc := by rw [hd]; rfl
        rw [hput] at hcan
        refine ih (2 * f + L.length) (by simp at hm; omega) L (i0 :: pre) done envr _ h f (Nat.le_refl _) hprel' (fun x hx => hLl x (List.mem_cons_of_mem _ hx)) hokL hnd hf ?_ hcan
        refine ⟨hpart', fun j hj => List.mem_cons_of_mem _ (hs.sub j hj), hs.dc, ?_, ?_⟩
        · intro q hq hnq
          rcases List.mem_cons.1 hq with hqe | hq
          · subst hqe
            refine ⟨hq0, ?_⟩
            intro o ho
            rw [ho0] at ho
            simp only [Option.some.injEq] at ho
            subst ho
            refine hall _ _ ?_ ?_
            · intro t ht
              simp only [look]
              rw [if_neg]
              intro e
              rw [e] at ht
              exact hrd q (by simp) (by rw [rd_of ho0]; exact ht)
            · rw [hd]; simp [putE, look]
          · obtain ⟨h1, h2⟩ := hs.pend q hq hnq
            refine ⟨h1, ?_⟩
            intro o ho
            obtain ⟨hqo', d', hd'⟩ := quiet_of ho h1
            obtain ⟨v', hv', hall'⟩ := X1_q hqo' (h2 o ho)
            refine hall' _ _ ?_ ?_
            · intro t ht
              simp only [look]
              rw [if_neg]
              intro e
              rw [e] at ht
              exact hrd q (by simp [hq]) (by rw [rd_of ho]; exact ht)
            · have hne : d' ≠ d := by
                have := hok2 q hq
                rw [dst_of ho, dst_of ho0, hd, hd'] at this
                simpa using this
              rw [hd'] at hv' ⊢
              simp only [putE, look, Option.getD_some, if_true, if_neg hne] at hv' ⊢
              exact hv'
        · intro k hk
          have hkd : k ≠ d := by
            intro e
            subst e
            by_cases hdone : i0 ∈ done
            · exact hi0p (hs.sub i0 hdone)
            · exact hk i0 (by simp) hdone (by rw [dst_of ho0, hd])
          simp only [look, if_neg hkd]
          exact hs.agree k fun q hq hnq => hk q (List.mem_cons_of_mem _ hq) hnq
      · -- the walked order stands at an operation that acts
        rw [if_neg hq0] at hok0
        simp only [Bool.and_eq_true, List.all_eq_true, Bool.or_eq_true, Bool.not_eq_true', List.any_eq_true, beq_iff_eq] at hok0
        obtain ⟨⟨hanc, hfl⟩, hlater⟩ := hok0
        have hi0d : i0 ∉ done := fun hd => hi0p (hs.sub i0 hd)
        cases f with
        | zero =>
          have := len_lt hnd hdl hi0l hi0d
          omega
        | succ f =>
          intro i o ho hin hpr
          by_cases hpre : i ∈ pre
          · exact late f rfl i o ho hin hpre hpr
          · by_cases hi : i = i0
            · subst hi
              rw [ho0] at ho
              simp only [Option.some.injEq] at ho
              subst ho
              refine X1_cm (hs.reads hc1 hprel ho0 hpr) ?_ hx
              rintro v h' ⟨hst, hcan⟩
              refine ih (2 * f + L.length) (by simp at hm; omega) L (i :: pre) (i :: done) _ _ h' f (Nat.le_refl _) hprel' (fun x hx => hLl x (List.mem_cons_of_mem _ hx)) hokL (List.nodup_cons.2 ⟨hin, hnd⟩) (by simp; omega) ?_ hcan
              refine ⟨hpart', ?_, ?_, ?_, ?_⟩
              · intro j hj
                rcases List.mem_cons.1 hj with rfl | hj
                · simp
                · exact List.mem_cons_of_mem _ (hs.sub j hj)
              · intro j hj p hp
                rcases List.mem_cons.1 hj with rfl | hj
                · rw [pr_of ho0] at hp; exact List.mem_cons_of_mem _ (hpr p hp)
                · exact List.mem_cons_of_mem _ (hs.dc j hj p hp)
              · intro q hq hnq
                have hq' : q ∈ pre := by
                  rcases List.mem_cons.1 hq with rfl | hq
                  · exact absurd (by simp) hnq
                  · exact hq
                have hnq' : q ∉ done := fun h => hnq (List.mem_cons_of_mem _ h)
                have h1 := (hs.pend q hq' hnq').1
                refine ⟨h1, ?_⟩
                have hin : q ∈ fl := by
                  rcases hfl q hq' with (h | h) | h
                  · rw [h1] at h; cases h
                  · simpa using h
                  · have := ancOk_sub hs.dc (fun p hp => by rw [pr_of ho0] at hp; exact hpr p hp) an [i] (by intro x hx; simp at hx; exact .inl hx) hanc q (by simpa using h)
                    exact absurd this hnq'
                exact Stab_mem hst q hin
              · intro k hk
                cases hdst : o0.dst with
                | none =>
                  simp only [putE]
                  refine hs.agree k ?_
                  intro q hq hnq
                  refine hk q (List.mem_cons_of_mem _ hq) ?_
                  simp only [List.mem_cons, not_or]
                  exact ⟨fun e => hi0p (e ▸ hq), hnq⟩
                | some d =>
                  simp only [putE, look]
                  split
                  · rfl
                  · refine hs.agree k ?_
                    intro q hq hnq
                    refine hk q (List.mem_cons_of_mem _ hq) ?_
                    simp only [List.mem_cons, not_or]
                    exact ⟨fun e => hi0p (e ▸ hq), hnq⟩
            · exfalso
              have hiL : i ∈ L.map (·.1) := by
                rcases hs.part i (List.getElem?_eq_some_iff.1 ho).1 with h | h
                · exact absurd h hpre
                · simp only [List.map_cons, List.mem_cons] at h
                  exact h.resolve_left hi
              obtain ⟨y, hy, rfl⟩ := List.mem_map.1 hiL
              obtain ⟨p, hp, hpe⟩ := hlater y hy
              rw [pr_of ho] at hp
              have hpd := hs.sub p (hpr p hp)
              rcases hpe with rfl | hpe
              · exact hi0p hpd
              · have hpe' : p ∈ L.map (·.1) := by simpa using hpe
                obtain ⟨z, hz, rfl⟩ := List.mem_map.1 hpe'
                exact hout z (List.mem_cons_of_mem _ hz) hpd

/-! ### 5. The rule -/
theorem HW.drawn {P : Program} {n : Nat} {env : Env} {h : Hp} {Q : Ex → Env → Hp → Prop} {id : Nat} {l : List Oper} (hm : P.follows .mixedOrders = true) (hd : opsOk n l = true) (L : Plan) (hok : drawOk l L = true)
    (hx : CanX P l L env h fun env' h' => Q .normal env' h') : HW P n (.region id l.toArray true) env h Q := by
  intro a w hf hw
  subst hw
  simp only [drawOk, Bool.and_eq_true, List.all_eq_true, List.mem_range, beq_iff_eq, decide_eq_true_eq, Bool.or_eq_true, Bool.not_eq_true', Bool.and_eq_false_iff] at hok
  obtain ⟨⟨⟨⟨hlen, hall⟩, hac⟩, hc1⟩, hplan⟩ := hok
  refine wp_region_draw fun t => ?_
  rw [hm]
  have hsch : Region.schedule true l.toArray t = Region.linearise .any l.toArray t := by simp [Region.schedule]
  rw [hsch]
  unfold Region.linearise
  have hmem : ∀ x ∈ L, x.1 < l.length := by
    intro x hx
    apply Classical.byContradiction
    intro hn
    have hsub : (x.1 :: List.range l.length) ⊆ L.map (·.1) := by
      intro y hy
      rcases List.mem_cons.1 hy with rfl | hy
      · exact List.mem_map.2 ⟨x, hx, rfl⟩
      · have := hall y (List.mem_range.1 hy)
        simpa using this
    have := (List.nodup_cons.2 ⟨by simpa using hn, List.nodup_range (n := l.length)⟩).length_le_of_subset hsub
    simp at this hlen
    omega
  have hany := can_any (P := P) (l := l) (K := fun env' h' => Q .normal env' h') (fun i hi q hq hqq hdq => by
      rcases hc1 i hi q hq with (h | h) | h
      · rw [hqq] at h; cases h
      · rw [← Bool.not_eq_true] at h; exact absurd (by simpa using hdq) h
      · simpa using h) _ L [] [] env env (hpOf w) l.length (Nat.le_refl _) (by simp) hmem hplan List.nodup_nil (by simp)
    ⟨fun i hi => .inr (by simpa using hall i hi), by simp, by simp, by simp, fun _ _ => rfl⟩ hx
  refine any_go (K := fun env h => ∃ env', (∀ k v, look env' k = some v → look env k = some v) ∧ Q .normal env' h) (w0 := w) hd ?_ ?_ l.length t _ [] a { w with drawn := w.drawn + 1 } env (by simp) ?_ (by simp) ⟨rfl, rfl, rfl⟩ hf hany
  · intro i o ho p hp
    have := hac i (List.getElem?_eq_some_iff.1 ho).1 p (by rw [pr_of ho]; exact hp)
    exact this
  · rintro a' w' env' hs' hf' ⟨env2, hsub, hq⟩
    exact ⟨.normal, env2, rfl, hs', hf'.sub hsub, hq⟩
  · intro i hi
    simp [Array.getD_eq_getD_getElem?, hi]
/-- The plan's operations written out. -/
def pickL (l : List Oper) : List Nat → Option (List Oper)
  | [] => some []
  | q :: fl => match l[q]? with
    | some o => match pickL l fl with
      | some r => some (o :: r)
      | none => none
    | none => none
def resolve (l : List Oper) : Plan → Option (List (Oper × List Oper))
  | [] => some []
  | (i, fl, _) :: L => match l[i]? with
    | some o => match pickL l fl with
      | some f => match resolve l L with
        | some r => some ((o, f) :: r)
        | none => none
      | none => none
    | none => none
def StabL (P : Program) (ops : Array Oper) : List Oper → Env → Hp → Prop
  | [], _, _ => True
  | o :: fl, env, h => XOps P ops [o] env h (fun env' _ => look env' (o.dst.getD 0) = look env (o.dst.getD 0)) ∧ StabL P ops fl env h
def CanL (P : Program) (ops : Array Oper) : List (Oper × List Oper) → Env → Hp → (Env → Hp → Prop) → Prop
  | [], env, h, K => K env h
  | (o, fl) :: L, env, h, K => XOps P ops [o] env h fun env' h' => StabL P ops fl env' h' ∧ CanL P ops L env' h' K
theorem stabL_eq {P : Program} {l : List Oper} {env : Env} {h : Hp} : ∀ (fl : List Nat) (f : List Oper), pickL l fl = some f → Stab P l fl env h = StabL P l.toArray f env h := by
  intro fl
  induction fl with
  | nil => intro f hf; simp only [pickL, Option.some.injEq] at hf; subst hf; rfl
  | cons q fl ih =>
    intro f hf
    simp only [pickL] at hf
    split at hf
    · rename_i o ho
      split at hf
      · rename_i r hr
        simp only [Option.some.injEq] at hf
        subst hf
        simp only [Stab, StabL, ho, ih r hr]
      · cases hf
    · cases hf
theorem canL_eq {P : Program} {l : List Oper} {K : Env → Hp → Prop} : ∀ (L : Plan) (Lo : List (Oper × List Oper)) (env : Env) (h : Hp), resolve l L = some Lo → CanX P l L env h K = CanL P l.toArray Lo env h K := by
  intro L
  induction L with
  | nil => intro Lo env h hf; simp only [resolve, Option.some.injEq] at hf; subst hf; rfl
  | cons x L ih =>
    intro Lo env h hf
    obtain ⟨i, fl, an⟩ := x
    simp only [resolve] at hf
    split at hf
    · rename_i o ho
      split at hf
      · rename_i f hfl
        split at hf
        · rename_i r hr
          simp only [Option.some.injEq] at hf
          subst hf
          simp only [CanX, CanL, ho]
          congr 1
          funext env' h'
          rw [stabL_eq fl f hfl, ih r env' h' hr]
        · cases hf
      · cases hf
    · cases hf
theorem HW.seqD {P : Program} {n : Nat} {env : Env} {h : Hp} {Q : Ex → Env → Hp → Prop} {id : Nat} {l : List Oper} {y : Code} (hm : P.follows .mixedOrders = true) (hd : opsOk n l = true) (L : Plan) (hok : drawOk l L = true) {Lo : List (Oper × List Oper)} (hL : resolve l L = some Lo)
    (hx : ∀ K : Env → Hp → Prop, (∀ env' h', HW P n y env' h' Q → K env' h') → CanL P l.toArray Lo env h K) : HW P n (.seq (.region id l.toArray true) y) env h Q :=
  HW.seq (HW.drawn hm hd L hok (by rw [canL_eq L Lo env h hL]; exact hx _ fun _ _ hk => hk))
theorem HW.drawnK {P : Program} {n : Nat} {env : Env} {h : Hp} {Q : Ex → Env → Hp → Prop} {id : Nat} {l : List Oper} (hm : P.follows .mixedOrders = true) (hd : opsOk n l = true) (L : Plan) (hok : drawOk l L = true) {Lo : List (Oper × List Oper)} (hL : resolve l L = some Lo)
    (hx : ∀ K : Env → Hp → Prop, (∀ env' h', Q .normal env' h' → K env' h') → CanL P l.toArray Lo env h K) : HW P n (.region id l.toArray true) env h Q :=
  HW.drawn hm hd L hok (by rw [canL_eq L Lo env h hL]; exact hx _ fun _ _ hk => hk)
theorem canL_nil {P : Program} {ops : Array Oper} {env : Env} {h : Hp} {K : Env → Hp → Prop} : CanL P ops [] env h K = K env h := rfl
theorem canL_cons {P : Program} {ops : Array Oper} {o : Oper} {fl : List Oper} {L : List (Oper × List Oper)} {env : Env} {h : Hp} {K : Env → Hp → Prop} :
    CanL P ops ((o, fl) :: L) env h K = XOps P ops [o] env h fun env' h' => StabL P ops fl env' h' ∧ CanL P ops L env' h' K := rfl
theorem stabL_nil {P : Program} {ops : Array Oper} {env : Env} {h : Hp} : StabL P ops [] env h = True := rfl
theorem stabL_cons {P : Program} {ops : Array Oper} {o : Oper} {fl : List Oper} {env : Env} {h : Hp} :
    StabL P ops (o :: fl) env h = (XOps P ops [o] env h (fun env' _ => look env' (o.dst.getD 0) = look env (o.dst.getD 0)) ∧ StabL P ops fl env h) := rfl
end Go.Hx
