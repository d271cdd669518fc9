/- Regions of open order in which two effects may come in either order: a plan with branches. -/
import Derived.Test.YtiiglipmekeikaaHxD2
set_option linter.unusedVariables false
set_option linter.unusedSimpArgs false
namespace Go.Hx
open Go.Instr

inductive Tr where
  | fin
  | op (i : Nat) (fl an : List Nat) (rest : Tr)
  | both (a b : Tr)
def CanT (P : Program) (l : List Oper) : Tr → Env → Hp → (Env → Hp → Prop) → Prop
  | .fin, env, h, K => K env h
  | .op i fl _ L, env, h, K => match l[i]? with
    | some o => XOps P l.toArray [o] env h fun env' h' => Stab P l fl env' h' ∧ CanT P l L env' h' K
    | none => False
  | .both a b, env, h, K => CanT P l a env h K ∧ CanT P l b env h K
def Tr.nums : Tr → List Nat
  | .fin => []
  | .op i _ _ L => i :: L.nums
  | .both a _ => a.nums
def Tr.heads : Tr → List Nat
  | .fin => []
  | .op i _ _ _ => [i]
  | .both a b => a.heads ++ b.heads
def Tr.size : Tr → Nat
  | .fin => 0
  | .op _ _ _ L => L.size + 1
  | .both a b => a.size + b.size + 1
def Tr.act (l : List Oper) : Tr → Bool
  | .fin => false
  | .op i _ _ _ => !quiet l i
  | .both a b => a.act l && b.act l
def treeOk (l : List Oper) : List Nat → List Nat → Tr → Bool
  | _, _, .fin => true
  | pre, oth, .op i fl an L =>
    !pre.contains i && decide (i < l.length) && (if quiet l i then
      oth.isEmpty && (i :: pre).all (fun j => !(rdL l j).contains ((dstL l i).getD 0)) && pre.all (fun j => dstL l j != dstL l i)
    else
      ancOk l [i] an && pre.all (fun q => !quiet l q || fl.contains q || an.contains q) &&
      L.nums.all (fun x => oth.contains x || (prL l x).any fun p => p == i || L.nums.contains p)) && treeOk l (i :: pre) [] L
  | pre, oth, .both a b => a.act l && b.act l && treeOk l pre (b.heads ++ oth) a && treeOk l pre (a.heads ++ oth) b && a.nums.all (b.nums.contains ·) && b.nums.all (a.nums.contains ·)
def drawTOk (l : List Oper) (L : Tr) : Bool :=
  (List.range l.length).all (fun i => L.nums.contains i) &&
  (List.range l.length).all (fun i => (prL l i).all (· < i)) &&
  (List.range l.length).all (fun i => (List.range l.length).all fun q => !(quiet l q && (rdL l i).contains ((dstL l q).getD 0)) || (prL l i).contains q) &&
  treeOk l [] [] L

def fk (ns : List Nat) : Plan := ns.map fun i => (i, [], [])
theorem fk_nums (ns : List Nat) : (fk ns).map (·.1) = ns := by
  induction ns with
  | nil => rfl
  | cons a ns ih => exact congrArg (a :: ·) ih
theorem tree_out {l : List Oper} : ∀ {L : Tr} {pre oth : List Nat}, treeOk l pre oth L = true → ∀ x ∈ L.nums, x ∉ pre ∧ x < l.length := by
  intro L
  induction L with
  | fin => intro pre oth _ x hx; simp [Tr.nums] at hx
  | op i fl an L ih =>
    intro pre oth hok x hx
    simp only [treeOk, Bool.and_eq_true] at hok
    obtain ⟨⟨⟨h1, h2⟩, h3⟩, h4⟩ := hok
    simp only [Tr.nums, List.mem_cons] at hx
    rcases hx with rfl | hx
    · exact ⟨by simpa using h1, by simpa using h2⟩
    · have := ih h4 x hx
      exact ⟨fun h => this.1 (List.mem_cons_of_mem _ h), this.2⟩
  | both a b iha ihb =>
    intro pre oth hok x hx
    simp only [treeOk, Bool.and_eq_true] at hok
    exact iha hok.1.1.1.2 x hx
theorem act_nums {l : List Oper} : ∀ {L : Tr}, L.act l = true → ∃ x, x ∈ L.nums := by
  intro L
  induction L with
  | fin => intro h; simp [Tr.act] at h
  | op i fl an L ih => intro _; exact ⟨i, by simp [Tr.nums]⟩
  | both a b iha ihb =>
    intro h
    simp only [Tr.act, Bool.and_eq_true] at h
    exact iha h.1
theorem Sim.nums {P : Program} {l : List Oper} {pre done : List Nat} {envr envc : Env} {h : Hp} {ns ns' : List Nat} (hs : Sim P l pre done envr envc h (fk ns)) (e : ∀ x ∈ ns, x ∈ ns') : Sim P l pre done envr envc h (fk ns') := by
  refine ⟨fun i hi => ?_, hs.sub, hs.dc, hs.pend, hs.agree⟩
  rcases hs.part i hi with h | h
  · exact .inl h
  · rw [fk_nums] at h ⊢; exact .inr (e _ h)
theorem canT_any {P : Program} {l : List Oper} {K : Env → Hp → Prop} (hc1 : ∀ i, i < l.length → ∀ q, q < l.length → quiet l q = true → (dstL l q).getD 0 ∈ rdL l i → q ∈ prL l i) :
    ∀ (m : Nat) (L : Tr) (pre done : List Nat) (envr envc : Env) (h : Hp) (f : Nat), 2 * f + L.size ≤ m → (∀ i ∈ pre, i < l.length) → treeOk l pre [] L = true → done.Nodup → f + done.length = l.length →
      Sim P l pre done envr envc h (fk L.nums) → CanT P l L envc h K → AnyOrd P l (fun env h => ∃ env', (∀ k v, look env' k = some v → look env k = some v) ∧ K env' h) f done envr h := by
  intro m
  induction m using Nat.strongRecOn with
  | _ m ih =>
    intro L pre done envr envc h f hm hprel hok hnd hf hs hx
    have hdl : ∀ i ∈ done, i < l.length := fun i hi => hprel i (hs.sub i hi)
    -- what was walked already, and comes now
    have late : ∀ f', f = f' + 1 → ∀ i o, l[i]? = some o → i ∉ done → i ∈ pre → (∀ p ∈ predsOf o, p ∈ done) → XOps P l.toArray [o] envr h fun env' h' => AnyOrd P l (fun env h => ∃ env', (∀ k v, look env' k = some v → look env k = some v) ∧ K env' h) f' (i :: done) env' h' := by
      intro f' hf' i o ho hin hpre hpr
      subst hf'
      obtain ⟨hqi, hst⟩ := hs.pend i hpre hin
      obtain ⟨hqo, d, hd⟩ := quiet_of ho hqi
      obtain ⟨v, hv, hall⟩ := X1_q hqo (hst o ho)
      refine hall envr _ (hs.reads hc1 hprel ho hpr) ?_
      have hv' : some v = look envc d := by
        rw [hd] at hv
        simpa only [putE, look, if_true, Option.getD_some] using hv
      exact ih (2 * f' + L.size) (by omega) L pre (i :: done) _ envc h f' (Nat.le_refl _) hprel hok (List.nodup_cons.2 ⟨hin, hnd⟩) (by simp; omega) (hs.late ho hpre hin hpr hd hv') hx
    -- the walked order stands at operations that act: whichever of them comes
    have acts : ∀ f', f = f' + 1 → ∀ i o, l[i]? = some o → i ∉ done → i ∉ pre → (∀ p ∈ predsOf o, p ∈ done) → ∀ (T : Tr) (oth : List Nat), T.act l = true → treeOk l pre oth T = true → CanT P l T envc h K → T.size ≤ L.size → (∀ x, x ∈ T.nums ↔ x ∈ L.nums) → (i ∈ T.heads ∨ i ∉ oth) →
        XOps P l.toArray [o] envr h fun env' h' => AnyOrd P l (fun env h => ∃ env', (∀ k v, look env' k = some v → look env k = some v) ∧ K env' h) f' (i :: done) env' h' := by
      intro f' hf' i o ho hin hpre hpr T
      have hiL : i ∈ L.nums := by
        rcases hs.part i (List.getElem?_eq_some_iff.1 ho).1 with h | h
        · exact absurd h hpre
        · rw [fk_nums] at h; exact h
      induction T with
      | fin => intro oth hact; simp [Tr.act] at hact
      | both a b iha ihb =>
        intro oth hact hok' hcan hsz hns hho
        simp only [treeOk, Bool.and_eq_true, List.all_eq_true] at hok'
        obtain ⟨⟨⟨⟨⟨ha, hb⟩, hoa⟩, hob⟩, hab⟩, hba⟩ := hok'
        simp only [Tr.size] at hsz
        have hnb : ∀ x, x ∈ b.nums ↔ x ∈ L.nums := by
          intro x
          rw [← hns x]
          exact ⟨fun e => by simpa [Tr.nums] using hba x e, fun e => by simpa using hab x (by simpa [Tr.nums] using e)⟩
        by_cases e1 : i ∈ a.heads
        · exact iha _ ha hoa hcan.1 (by omega) hns (.inl e1)
        · by_cases e2 : i ∈ b.heads
          · exact ihb _ hb hob hcan.2 (by omega) hnb (.inl e2)
          · refine iha _ ha hoa hcan.1 (by omega) hns (.inr ?_)
            rw [List.mem_append]
            rintro (e | e)
            · exact e2 e
            · rcases hho with e' | e'
              · simp only [Tr.heads, List.mem_append] at e'
                exact e'.elim e1 e2
              · exact e' e
      | op i0 fl an L0 _ =>
        intro oth hact hok' hcan hsz hns hho
        have hout := tree_out hok'
        have hq0 : quiet l i0 = false := by simpa [Tr.act] using hact
        simp only [treeOk, Bool.and_eq_true] at hok'
        obtain ⟨⟨⟨hnew, _⟩, hok0⟩, hokL⟩ := hok'
        rw [if_neg (by rw [hq0]; simp)] at hok0
        simp only [Bool.and_eq_true, List.all_eq_true, Bool.or_eq_true, Bool.not_eq_true', List.any_eq_true, beq_iff_eq] at hok0
        obtain ⟨⟨hanc, hfl⟩, hlater⟩ := hok0
        have hi0p : i0 ∉ pre := by simpa using hnew
        have hi0l : i0 < l.length := (hout i0 (by simp [Tr.nums])).2
        have hi0d : i0 ∉ done := fun hd => hi0p (hs.sub i0 hd)
        by_cases hi : i = i0
        · subst hi
          simp only [CanT, ho] at hcan
          refine X1_cm (hs.reads hc1 hprel ho hpr) ?_ hcan
          rintro v h' ⟨hst, hcan⟩
          simp only [Tr.size] at hsz
          refine ih (2 * f' + L0.size) (by omega) L0 (i :: pre) (i :: done) _ _ h' f' (Nat.le_refl _) ?_ hokL (List.nodup_cons.2 ⟨hin, hnd⟩) (by simp; omega) ?_ hcan
          · intro j hj
            rcases List.mem_cons.1 hj with rfl | hj
            · exact hi0l
            · exact hprel j hj
          refine ⟨?_, ?_, ?_, ?_, ?_⟩
          · intro j hj
            rw [fk_nums]
            rcases hs.part j hj with h | h
            · exact .inl (List.mem_cons_of_mem _ h)
            · rw [fk_nums, ← hns j] at h
              simp only [Tr.nums, List.mem_cons] at h
              rcases h with rfl | h
              · exact .inl (by simp)
              · exact .inr h
          · intro j hj
            rcases List.mem_cons.1 hj with rfl | hj
            · simp
            · exact List.mem_cons_of_mem _ (hs.sub j hj)
          · intro j hj p hp
            rcases List.mem_cons.1 hj with rfl | hj
            · rw [pr_of ho] at hp; exact List.mem_cons_of_mem _ (hpr p hp)
            · exact List.mem_cons_of_mem _ (hs.dc j hj p hp)
          · intro q hq hnq
            have hq' : q ∈ pre := by
              rcases List.mem_cons.1 hq with rfl | hq
              · exact absurd (by simp) hnq
              · exact hq
            have hnq' : q ∉ done := fun h => hnq (List.mem_cons_of_mem _ h)
            have h1 := (hs.pend q hq' hnq').1
            refine ⟨h1, ?_⟩
            have hin' : q ∈ fl := by
              rcases hfl q hq' with (h | h) | h
              · rw [h1] at h; cases h
              · simpa using h
              · have := ancOk_sub hs.dc (fun p hp => by rw [pr_of ho] at hp; exact hpr p hp) an [i] (by intro x hx; simp at hx; exact .inl hx) hanc q (by simpa using h)
                exact absurd this hnq'
            exact Stab_mem hst q hin'
          · intro k hk
            cases hdst : o.dst with
            | none =>
              simp only [putE]
              refine hs.agree k ?_
              intro q hq hnq
              refine hk q (List.mem_cons_of_mem _ hq) ?_
              simp only [List.mem_cons, not_or]
              exact ⟨fun e => hi0p (e ▸ hq), hnq⟩
            | some d =>
              simp only [putE, look]
              split
              · rfl
              · refine hs.agree k ?_
                intro q hq hnq
                refine hk q (List.mem_cons_of_mem _ hq) ?_
                simp only [List.mem_cons, not_or]
                exact ⟨fun e => hi0p (e ▸ hq), hnq⟩
        · exfalso
          have hio : i ∉ oth := by
            rcases hho with e | e
            · simp only [Tr.heads, List.mem_singleton] at e; exact absurd e hi
            · exact e
          have hi0 : i ∈ L0.nums := by
            have := (hns i).2 hiL
            simp only [Tr.nums, List.mem_cons] at this
            exact this.resolve_left hi
          rcases hlater i hi0 with e | ⟨p, hp, hpe⟩
          · exact hio (by simpa using e)
          · rw [pr_of ho] at hp
            have hpd := hs.sub p (hpr p hp)
            rcases hpe with rfl | hpe
            · exact hi0p hpd
            · exact (hout p (by simp only [Tr.nums, List.mem_cons]; exact .inr (by simpa using hpe))).1 hpd
    -- at operations that act
    have atAct : L.act l = true → AnyOrd P l (fun env h => ∃ env', (∀ k v, look env' k = some v → look env k = some v) ∧ K env' h) f done envr h := by
      intro hact
      cases f with
      | zero =>
        obtain ⟨x, hx1⟩ := act_nums hact
        obtain ⟨h1, h2⟩ := tree_out hok x hx1
        have := len_lt hnd hdl h2 (fun hd => h1 (hs.sub x hd))
        omega
      | succ f =>
        intro i o ho hin hpr
        by_cases hpre : i ∈ pre
        · exact late f rfl i o ho hin hpre hpr
        · exact acts f rfl i o ho hin hpre hpr L [] hact hok hx (Nat.le_refl _) (fun _ => Iff.rfl) (.inr (by simp))
    cases L with
    | fin =>
      cases f with
      | zero =>
        refine ⟨envc, ?_, hx⟩
        intro k v hv
        rw [hs.agree k ?_]
        · exact hv
        · intro q hq hnq
          have := len_lt hnd hdl (hprel q hq) hnq
          omega
      | succ f =>
        intro i o ho hin hpr
        have hpre : i ∈ pre := by
          rcases hs.part i (List.getElem?_eq_some_iff.1 ho).1 with h | h
          · exact h
          · simp [fk, Tr.nums] at h
        exact late f rfl i o ho hin hpre hpr
    | both a b =>
      refine atAct ?_
      simp only [treeOk, Bool.and_eq_true] at hok
      simp only [Tr.act, Bool.and_eq_true]
      exact ⟨hok.1.1.1.1.1, hok.1.1.1.1.2⟩
    | op i0 fl an L =>
      by_cases hq0 : quiet l i0 = true
      · clear acts atAct
        have hout := tree_out hok
        simp only [treeOk, Bool.and_eq_true] at hok
        obtain ⟨⟨⟨hnew, _⟩, hok0⟩, hokL⟩ := hok
        have hi0l : i0 < l.length := (hout i0 (by simp [Tr.nums])).2
        have hi0p : i0 ∉ pre := (hout i0 (by simp [Tr.nums])).1
        have ho0 : l[i0]? = some l[i0] := List.getElem?_eq_getElem hi0l
        generalize l[i0] = o0 at ho0
        simp only [CanT, ho0] at hx
        rw [if_pos hq0] at hok0
        simp only [Bool.and_eq_true, List.all_eq_true, Bool.not_eq_true', bne_iff_ne, ne_eq] at hok0
        obtain ⟨⟨_, hok1⟩, hok2⟩ := hok0
        obtain ⟨hqo, d, hd⟩ := quiet_of ho0 hq0
        obtain ⟨v, ⟨_, hcan⟩, hall⟩ := X1_q hqo hx
        have hrd : ∀ j ∈ i0 :: pre, d ∉ rdL l j := by
          intro j hj hc
          have := hok1 j hj
          rw [dst_of ho0, hd] at this
          simp at this
          exact this hc
        have hput : putE o0.dst v envc = (d, v) :: envc := by rw [hd]; rfl
        rw [hput] at hcan
        simp only [Tr.size] at hm
        refine ih (2 * f + L.size) (by omega) L (i0 :: pre) done envr _ h f (Nat.le_refl _) ?_ hokL hnd hf ?_ hcan
        · intro j hj
          rcases List.mem_cons.1 hj with rfl | hj
          · exact hi0l
          · exact hprel j hj
        refine ⟨?_, fun j hj => List.mem_cons_of_mem _ (hs.sub j hj), hs.dc, ?_, ?_⟩
        · intro j hj
          rw [fk_nums]
          rcases hs.part j hj with h | h
          · exact .inl (List.mem_cons_of_mem _ h)
          · rw [fk_nums] at h
            simp only [Tr.nums, List.mem_cons] at h
            rcases h with rfl | h
            · exact .inl (by simp)
            · exact .inr h
        · intro q hq hnq
          rcases List.mem_cons.1 hq with hqe | hq
          · subst hqe
            refine ⟨hq0, ?_⟩
            intro o ho
            rw [ho0] at ho
            simp only [Option.some.injEq] at ho
            subst ho
            refine hall _ _ ?_ ?_
            · intro t ht
              simp only [look]
              rw [if_neg]
              intro e
              rw [e] at ht
              exact hrd q (by simp) (by rw [rd_of ho0]; exact ht)
            · rw [hd]; simp [putE, look]
          · obtain ⟨h1, h2⟩ := hs.pend q hq hnq
            refine ⟨h1, ?_⟩
            intro o ho
            obtain ⟨hqo', d', hd'⟩ := quiet_of ho h1
            obtain ⟨v', hv', hall'⟩ := X1_q hqo' (h2 o ho)
            refine hall' _ _ ?_ ?_
            · intro t ht
              simp only [look]
              rw [if_neg]
              intro e
              rw [e] at ht
              exact hrd q (by simp [hq]) (by rw [rd_of ho]; exact ht)
            · have hne : d' ≠ d := by
                have := hok2 q hq
                rw [dst_of ho, dst_of ho0, hd, hd'] at this
                simpa using this
              rw [hd'] at hv' ⊢
              simp only [putE, look, Option.getD_some, if_true, if_neg hne] at hv' ⊢
              exact hv'
        · intro k hk
          have hkd : k ≠ d := by
            intro e
            subst e
            by_cases hdone : i0 ∈ done
            · exact hi0p (hs.sub i0 hdone)
            · exact hk i0 (by simp) hdone (by rw [dst_of ho0, hd])
          simp only [look, if_neg hkd]
          exact hs.agree k fun q hq hnq => hk q (List.mem_cons_of_mem _ hq) hnq
      · exact atAct (by simpa [Tr.act] using hq0)

theorem HW.drawnT {P : Program} {n : Nat} {env : Env} {h : Hp} {Q : Ex → Env → Hp → Prop} {id : Nat} {l : List Oper} (hm : P.follows .mixedOrders = true) (hd : opsOk n l = true) (L : Tr) (hok : drawTOk l L = true)
    (hx : CanT P l L env h fun env' h' => Q .normal env' h') : HW P n (.region id l.toArray true) env h Q := by
  intro a w hf hw
  subst hw
  simp only [drawTOk, Bool.and_eq_true, List.all_eq_true, List.mem_range, decide_eq_true_eq, Bool.or_eq_true, Bool.not_eq_true', Bool.and_eq_false_iff] at hok
  obtain ⟨⟨⟨hall, hac⟩, hc1⟩, hplan⟩ := hok
  refine wp_region_draw fun t => ?_
  rw [hm]
  have hsch : Region.schedule true l.toArray t = Region.linearise .any l.toArray t := by simp [Region.schedule]
  rw [hsch]
  unfold Region.linearise
  have hany := canT_any (P := P) (l := l) (K := fun env' h' => Q .normal env' h') (fun i hi q hq hqq hdq => by
      rcases hc1 i hi q hq with (h | h) | h
      · rw [hqq] at h; cases h
      · rw [← Bool.not_eq_true] at h; exact absurd (by simpa using hdq) h
      · simpa using h) _ L [] [] env env (hpOf w) l.length (Nat.le_refl _) (by simp) hplan List.nodup_nil (by simp)
    ⟨fun i hi => .inr (by rw [fk_nums]; simpa using hall i hi), by simp, by simp, by simp, fun _ _ => rfl⟩ hx
  refine any_go (K := fun env h => ∃ env', (∀ k v, look env' k = some v → look env k = some v) ∧ Q .normal env' h) (w0 := w) hd ?_ ?_ l.length t _ [] a { w with drawn := w.drawn + 1 } env (by simp) ?_ (by simp) ⟨rfl, rfl, rfl⟩ hf hany
  · intro i o ho p hp
    have := hac i (List.getElem?_eq_some_iff.1 ho).1 p (by rw [pr_of ho]; exact hp)
    exact this
  · rintro a' w' env' hs' hf' ⟨env2, hsub, hq⟩
    exact ⟨.normal, env2, rfl, hs', hf'.sub hsub, hq⟩
  · intro i hi
    simp [Array.getD_eq_getD_getElem?, hi]
inductive TrO where
  | fin
  | op (o : Oper) (fl : List Oper) (rest : TrO)
  | both (a b : TrO)
def resolveT (l : List Oper) : Tr → Option TrO
  | .fin => some .fin
  | .op i fl _ L => match l[i]? with
    | some o => match pickL l fl with
      | some f => match resolveT l L with
        | some r => some (.op o f r)
        | none => none
      | none => none
    | none => none
  | .both a b => match resolveT l a, resolveT l b with
    | some x, some y => some (.both x y)
    | _, _ => none
def CanTO (P : Program) (ops : Array Oper) : TrO → Env → Hp → (Env → Hp → Prop) → Prop
  | .fin, env, h, K => K env h
  | .op o fl L, env, h, K => XOps P ops [o] env h fun env' h' => StabL P ops fl env' h' ∧ CanTO P ops L env' h' K
  | .both a b, env, h, K => CanTO P ops a env h K ∧ CanTO P ops b env h K
theorem canTO_eq {P : Program} {l : List Oper} {K : Env → Hp → Prop} : ∀ (L : Tr) (Lo : TrO) (env : Env) (h : Hp), resolveT l L = some Lo → CanT P l L env h K = CanTO P l.toArray Lo env h K := by
  intro L
  induction L with
  | fin => intro Lo env h hf; simp only [resolveT, Option.some.injEq] at hf; subst hf; rfl
  | op i fl an L ih =>
    intro Lo env h hf
    simp only [resolveT] at hf
    split at hf
    · rename_i o ho
      split at hf
      · rename_i f hfl
        split at hf
        · rename_i r hr
          simp only [Option.some.injEq] at hf
          subst hf
          simp only [CanT, CanTO, ho]
          congr 1
          funext env' h'
          rw [stabL_eq fl f hfl, ih r env' h' hr]
        · cases hf
      · cases hf
    · cases hf
  | both a b iha ihb =>
    intro Lo env h hf
    simp only [resolveT] at hf
    split at hf
    · rename_i x y hx hy
      simp only [Option.some.injEq] at hf
      subst hf
      simp only [CanT, CanTO, iha x env h hx, ihb y env h hy]
    · cases hf
theorem HW.seqT {P : Program} {n : Nat} {env : Env} {h : Hp} {Q : Ex → Env → Hp → Prop} {id : Nat} {l : List Oper} {y : Code} (hm : P.follows .mixedOrders = true) (hd : opsOk n l = true) (L : Tr) (hok : drawTOk l L = true) {Lo : TrO} (hL : resolveT l L = some Lo)
    (hx : ∀ K : Env → Hp → Prop, (∀ env' h', HW P n y env' h' Q → K env' h') → CanTO P l.toArray Lo env h K) : HW P n (.seq (.region id l.toArray true) y) env h Q :=
  HW.seq (HW.drawnT hm hd L hok (by rw [canTO_eq L Lo env h hL]; exact hx _ fun _ _ hk => hk))
theorem HW.drawnTK {P : Program} {n : Nat} {env : Env} {h : Hp} {Q : Ex → Env → Hp → Prop} {id : Nat} {l : List Oper} (hm : P.follows .mixedOrders = true) (hd : opsOk n l = true) (L : Tr) (hok : drawTOk l L = true) {Lo : TrO} (hL : resolveT l L = some Lo)
    (hx : ∀ K : Env → Hp → Prop, (∀ env' h', Q .normal env' h' → K env' h') → CanTO P l.toArray Lo env h K) : HW P n (.region id l.toArray true) env h Q :=
  HW.drawnT hm hd L hok (by rw [canTO_eq L Lo env h hL]; exact hx _ fun _ _ hk => hk)
theorem canTO_fin {P : Program} {ops : Array Oper} {env : Env} {h : Hp} {K : Env → Hp → Prop} : CanTO P ops .fin env h K = K env h := rfl
theorem canTO_op {P : Program} {ops : Array Oper} {o : Oper} {fl : List Oper} {L : TrO} {env : Env} {h : Hp} {K : Env → Hp → Prop} :
    CanTO P ops (.op o fl L) env h K = XOps P ops [o] env h fun env' h' => StabL P ops fl env' h' ∧ CanTO P ops L env' h' K := rfl
theorem canTO_both {P : Program} {ops : Array Oper} {a b : TrO} {env : Env} {h : Hp} {K : Env → Hp → Prop} :
    CanTO P ops (.both a b) env h K = (CanTO P ops a env h K ∧ CanTO P ops b env h K) := rfl
end Go.Hx
