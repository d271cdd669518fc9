/- Slices of the program's own making: append. -/
import Derived.Test.YtiiglipmekeikaaHxM
set_option linter.unusedVariables false
set_option linter.unusedSimpArgs false
namespace Go.Hx

theorem wrL_size (vs : List Value) : ∀ (c : Array Value) (off : Nat), (wrL c off vs).size = c.size := by
  induction vs with
  | nil => intro c o; rfl
  | cons v vs ih => intro c o; simp [wrL, ih]
theorem wrL_get (vs : List Value) : ∀ (c : Array Value) (off i : Nat), off + vs.length ≤ c.size → (wrL c off vs)[i]? = if off ≤ i ∧ i < off + vs.length then vs[i - off]? else c[i]? := by
  induction vs with
  | nil => intro c o i _; simp [wrL]; omega
  | cons v vs ih =>
    intro c o i hle
    simp only [List.length_cons] at hle
    rw [wrL, ih _ _ _ (by simp; omega)]
    simp only [List.length_cons, Array.getElem?_setIfInBounds]
    by_cases h1 : o = i
    · subst h1
      rw [if_neg (by omega), if_pos rfl, if_pos (by omega), if_pos (by omega)]
      simp
    · by_cases h2 : o + 1 ≤ i ∧ i < o + 1 + vs.length
      · rw [if_pos h2, if_pos (by omega), show i - o = (i - (o + 1)) + 1 by omega, List.getElem?_cons_succ]
      · rw [if_neg h2, if_neg h1, if_neg (by omega)]
theorem take_eq_of {l r : List Value} {k : Nat} (hk : k ≤ l.length) (hr : r.length = k) (h : ∀ i, i < k → l[i]? = r[i]?) : l.take k = r := by
  apply List.ext_getElem?
  intro i
  by_cases hi : i < k
  · rw [List.getElem?_take_of_lt hi, h i hi]
  · rw [List.getElem?_eq_none (by simp; omega), List.getElem?_eq_none (by omega)]
theorem rdN_cells {c : Array Value} {e : TypeId} {fr : Nat × Nat} : ∀ (n off : Nat), off + n ≤ c.size → rdN (some (.cells c e fr)) off n = some ((c.toList.drop off).take n) := by
  intro n
  induction n with
  | zero => intro off _; simp [rdN]
  | succ n ih =>
    intro off h
    simp only [rdN, rd_cells, ih (off + 1) (by omega)]
    rw [Array.getElem?_eq_getElem (by omega)]
    simp only [Option.some.injEq]
    have hlt : off < c.toList.length := by rw [Array.length_toList]; omega
    rw [List.drop_eq_getElem_cons hlt, List.take_succ_cons, Array.getElem_toList]
theorem rdN_length {o : Option Obj} : ∀ (n off : Nat) (l : List Value), rdN o off n = some l → l.length = n := by
  intro n
  induction n with
  | zero => intro off l h; simp only [rdN, Option.some.injEq] at h; subst h; rfl
  | succ n ih =>
    intro off l h
    simp only [rdN] at h
    split at h
    · split at h
      · rename_i l' hl'
        simp only [Option.some.injEq] at h
        subst h
        simp [ih _ _ hl']
      · cases h
    · cases h
theorem growBy_le (N : Nat) : ∀ (r c : Nat), Builtin.growBy N r c ≤ max c (N + (N + 768) / 4) := by
  intro r
  induction r with
  | zero => intro c; simp only [Builtin.growBy]; omega
  | succ r ih =>
    intro c
    simp only [Builtin.growBy]
    split
    · omega
    · have := ih (c + (c + 768) / 4); omega
theorem nextcap_le {need cap : Nat} (h : cap < need) : Builtin.nextslicecap need cap ≤ 2 * need + 1000 := by
  unfold Builtin.nextslicecap
  split
  · omega
  · split
    · omega
    · have := growBy_le need 4 cap; omega
/-- A slice of the program's own: nil, or from the head of a block that may be written; its first n elements' cells. -/
def Own (h : Hp) (e sz : Nat) (v : Value) (n : Nat) (xs : List Value) : Option Nat → Prop
  | none => v = .slice none 0 0 ∧ n = 0 ∧ xs = []
  | some b => ∃ cap cs, v = .slice (some ⟨b, 0, none⟩) n cap ∧ h b = some (.cells cs e (0, 0)) ∧ n ≤ cap ∧ cap * sz ≤ cs.size ∧ xs.length = n * sz ∧ cs.toList.take (n * sz) = xs
theorem Own.length {h : Hp} {e sz n : Nat} {v : Value} {xs : List Value} {ob : Option Nat} (ho : Own h e sz v n xs ob) : xs.length = n * sz := by
  cases ob with
  | none => obtain ⟨_, rfl, rfl⟩ := ho; simp
  | some b => obtain ⟨cap, cs, _, _, _, _, h5, _⟩ := ho; exact h5
theorem Own.frame {h h' : Hp} {e sz n : Nat} {v : Value} {xs : List Value} {ob : Option Nat} (ho : Own h e sz v n xs ob) (hf : ∀ b, ob = some b → h' b = h b) : Own h' e sz v n xs ob := by
  cases ob with
  | none => exact ho
  | some b => obtain ⟨cap, cs, h1, h2, h3⟩ := ho; exact ⟨cap, cs, h1, by rw [hf b rfl]; exact h2, h3⟩
theorem info_of_byK {P : Program} {t by_ : Nat} (h : byK P t = some by_) : ∃ i, P.info? t = some i ∧ i.bytes = by_ := by
  unfold byK at h
  cases hi : P.info? t with
  | none => rw [hi] at h; cases h
  | some i => rw [hi] at h; simp only [Option.map_some, Option.some.injEq] at h; exact ⟨i, rfl, h⟩
theorem hwp_pure_of {P : Program} {α : Type} {a b : α} (e : a = b) {Q : α → Hp → Prop} {h : Hp} (hq : Q b h) : hwp P (pure a) Q h := by rw [e]; exact hq
def isIntD : TypeDesc → Bool
  | .int _ => true
  | _ => false
/-- append: a slice of the program's own, and another one's cells. -/
theorem AppK.own {P : Program} {ts : Array TypeId} {st xt e sz by_ n m xb xo xc : Nat} {z : Value} {dx : TypeDesc} {s : Value} {xs ys : List Value} {ob : Option Nat} {h : Hp} {K : Value → Hp → Prop}
    (ht0 : ts[0]? = some st) (ht1 : ts[1]? = some xt) (hst : P.underlying st = some (.slice e)) (hxt : P.underlying xt = some dx) (hdx : isIntD dx = false) (hsz : szK P e = some sz) (hby : byK P e = some by_) (hz : zeroK P e = some z) (hzs : z.cells.size = sz)
    (ho : Own h e sz s n xs ob) (hx : rdN (h xb) xo (m * sz) = some ys) (hys : ys.all oneC = true) (hroom : (2 * (n + m) + 1000) * by_ ≤ 2 ^ 48) (hbp : 0 < by_) (hm : 0 < m ∨ ob ≠ none)
    (hk : ∀ v' h' b o, Own h' e sz v' (n + m) (xs ++ ys) (some b) → h' = upd h b o → (ob = some b ∨ h b = none) → K v' h') :
    AppK P ts s (.slice (some ⟨xb, xo, none⟩) m xc) h K := by
  intro ty
  obtain ⟨i, hi, hib⟩ := info_of_byK hby
  have hyl := rdN_length _ _ _ hx
  have hxl := ho.length
  have fits : ∀ b cap cs, ob = some b → s = .slice (some ⟨b, 0, none⟩) n cap → h b = some (.cells cs e (0, 0)) → cap * sz ≤ cs.size → cs.toList.take (n * sz) = xs → n + m ≤ cap →
      Own (upd h b (.cells (wrL cs (n * sz) ys) e (0, 0))) e sz (.slice (some ⟨b, 0, none⟩) (n + m) cap) (n + m) (xs ++ ys) (some b) := by
    intro b cap cs _ _ hb hc ht hfit
    have hmul : (n + m) * sz ≤ cap * sz := Nat.mul_le_mul_right _ hfit
    rw [Nat.add_mul] at hmul
    refine ⟨cap, wrL cs (n * sz) ys, rfl, upd_same _ _ _, hfit, by rw [wrL_size]; exact hc, by simp [hxl, hyl, Nat.add_mul], ?_⟩
    rw [Nat.add_mul]
    refine take_eq_of (by simp [wrL_size]; omega) (by simp [hxl, hyl]) ?_
    intro k hkk
    rw [Array.getElem?_toList, wrL_get _ _ _ _ (by omega)]
    by_cases hk1 : n * sz ≤ k
    · rw [if_pos (by omega), List.getElem?_append_right (by omega), hxl]
    · rw [if_neg (by omega), List.getElem?_append_left (by omega), ← ht, List.getElem?_take_of_lt (by omega), Array.getElem?_toList]
  have key : ∀ base sCap, s = .slice base n sCap → (n + m ≤ sCap → ∃ b, base = some ⟨b, 0, none⟩ ∧ ob = some b ∧ ∃ cs, h b = some (.cells cs e (0, 0)) ∧ sCap * sz ≤ cs.size ∧ cs.toList.take (n * sz) = xs) →
      (hwp P (Builtin.firstCells sz n s) (fun a h' => a = xs.toArray ∧ h' = h) h) → hwp P (Builtin.append_ ts ty #[s, .slice (some ⟨xb, xo, none⟩) m xc]) K h := by
    intro base sCap hs hfit hold
    subst hs
    unfold Builtin.append_
    simp only [ht0, ht1, List.getElem?_toArray, List.getElem?_cons_zero, List.getElem?_cons_succ, hwp_bind, hwp_underlying P hst, hwp_sizeOf P hsz, hwp_underlying P hxt]
    refine hwp_pure_of (b := false) (by cases dx <;> first | rfl | (simp [isIntD] at hdx)) ?_
    simp only [hwp_pure, hwp_bind, Bool.false_eq_true, if_false, Builtin.lenOf]
    refine hwp_ite' ?_ ?_
    · intro hle
      obtain ⟨b, rfl, hob, cs, hb, hc, ht⟩ := hfit hle
      simp only [Bool.not_false, if_true, Builtin.firstCells, loadCells]
      rw [hwp_bind]
      refine loadCells_ok P xb xo h _ (m * sz) 0 #[] ys hx ?_
      simp only [Array.empty_append, add_addr, Nat.zero_add, hwp_bind]
      have hmul : (n + m) * sz ≤ sCap * sz := Nat.mul_le_mul_right _ hle
      rw [Nat.add_mul] at hmul
      refine storeCells_ok P b (n * sz) e (0, 0) _ ys 0 h cs hb hys (by simp [unfr]) (by simp; omega) ?_
      simp only [Nat.add_zero, hwp_pure]
      exact hk _ _ b _ (fits b sCap cs hob rfl hb hc ht hle) rfl (.inl hob)
    · intro hnle
      have hcap : Builtin.nextslicecap (n + m) sCap * i.bytes ≤ 2 ^ 48 := by
        have := nextcap_le (need := n + m) (cap := sCap) (by omega)
        rw [hib]
        exact Nat.le_trans (Nat.mul_le_mul_right _ this) hroom
      simp only [hwp_typeInfo P hi, hwp_bind]
      have hnz : ¬ (((n + m : Nat) : Int) > IntKind.i64.max ∧ (False ∨ i.bytes = 0)) := by
        rintro ⟨_, h0 | h0⟩
        · exact h0
        · omega
      rw [if_neg hnz]
      rw [hwp_bind, hwp_typeInfo P hi, if_neg (by omega)]
      rw [hwp_bind]
      intro newCap hnc
      have hge : n + m ≤ newCap := by
        obtain ⟨t, ht⟩ : ∃ t, newCap = (Question.appendCap (n + m) sCap e).cut t := by simpa [Allowed, Question.forced] using hnc
        rw [ht]; simp only [Question.cut]; omega
      show hwp P _ K h
      rw [hwp_bind, hwp_typeInfo P hi, hwp_bind]
      have hask : ∀ {R : Unit → Hp → Prop}, R () h → hwp P (askRoom (newCap * i.bytes)) R h := by
        intro R hr
        unfold askRoom
        split <;> exact hr
      refine hask ?_
      rw [hwp_bind]
      refine hwp_mono P _ ?_ h hold
      rintro old h' ⟨rfl, rfl⟩
      simp only [Bool.not_false, if_true, Builtin.firstCells, loadCells]
      rw [hwp_bind]
      refine loadCells_ok P xb xo h' _ (m * sz) 0 #[] ys hx ?_
      rw [hwp_bind, hwp_zeroValue P hz, hwp_bind]
      intro nb hnb
      simp only [hwp_pure]
      refine hk _ _ nb _ ?_ rfl (.inr hnb)
      have hzc : (Builtin.zeroCells z.cells (newCap - (n + m))).size = (newCap - (n + m)) * sz := by simp [Builtin.zeroCells, hzs]
      refine ⟨newCap, _, rfl, upd_same _ _ _, hge, ?_, by simp [hxl, hyl, Nat.add_mul], ?_⟩
      · simp only [Array.size_append, List.size_toArray, Array.empty_append, hzc, hxl, hyl, Nat.sub_mul, Nat.add_mul]
        have := Nat.mul_le_mul_right sz hge
        rw [Nat.add_mul] at this
        omega
      · rw [Array.empty_append]
        refine take_eq_of (by simp [hxl, hyl, Nat.add_mul]) (by simp [hxl, hyl, Nat.add_mul]) ?_
        intro k hkk
        rw [Nat.add_mul] at hkk
        rw [Array.toList_append, List.getElem?_append_left (by simp [hxl, hyl]; first | done | omega)]
        simp
  cases ob with
  | none =>
    obtain ⟨rfl, rfl, rfl⟩ := ho
    refine key none 0 rfl ?_ ?_
    · intro hle
      rcases hm with h0 | h0
      · omega
      · exact absurd rfl h0
    · exact ⟨rfl, rfl⟩
  | some b =>
    obtain ⟨cap, cs, rfl, hb, hcap, hcs, hlen, htk⟩ := ho
    refine key _ cap rfl ?_ ?_
    · intro hle
      exact ⟨b, rfl, rfl, cs, hb, hcs, htk⟩
    · have hmul : n * sz ≤ cap * sz := Nat.mul_le_mul_right _ hcap
      simp only [Builtin.firstCells, loadCells]
      refine loadCells_ok P b 0 h _ (n * sz) 0 #[] xs ?_ ?_
      · rw [hb, rdN_cells _ _ (by omega)]
        simp [htk]
      · exact ⟨by simp, rfl⟩
end Go.Hx
