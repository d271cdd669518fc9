/- The rules in three bundles, so that texts stay small; written by wip/tools/mks.py. -/
import Derived.Test.YtiiglipmekeikaaHxD3
set_option linter.unusedVariables false
namespace Go.Hx
theorem bb_tt : (true == true) = true := rfl
theorem bb_tf : (true == false) = false := rfl
theorem bb_ft : (false == true) = false := rfl
theorem bb_ff : (false == false) = true := rfl
theorem bn_tt : (true != true) = false := rfl
theorem bn_tf : (true != false) = true := rfl
theorem bn_ft : (false != true) = true := rfl
theorem bn_ff : (false != false) = false := rfl
theorem ib_self (x : Int) : (x == x) = true := by simp
theorem ibn_self (x : Int) : (x != x) = false := by simp
/-- An operation's rules (ahead of what they hold). -/
theorem XA :
  ((type_of% @x_nil) ∧ (type_of% @x_guard) ∧ (type_of% @x_move) ∧ (type_of% @x_assign) ∧ (type_of% @x_pick) ∧ (type_of% @x_alloc) ∧ (type_of% @x_box) ∧ (type_of% @x_build) ∧ (type_of% @x_bsl) ∧ (type_of% @x_load) ∧ (type_of% @x_store) ∧ (type_of% @x_nilCheck) ∧ (type_of% @x_bin) ∧ (type_of% @x_un) ∧ (type_of% @x_conv) ∧ (type_of% @x_mkIf)) ∧
  ((type_of% @x_mkFn) ∧ (type_of% @x_mkMap) ∧ (type_of% @x_slice) ∧ (type_of% @x_fieldAddr) ∧ (type_of% @x_field) ∧ (type_of% @x_idxAddr) ∧ (type_of% @x_idx) ∧ (type_of% @x_lookup) ∧ (type_of% @x_mapSet) ∧ (type_of% @x_tas) ∧ (type_of% @x_extract) ∧ (type_of% @x_mkSlice) ∧ (type_of% @x_range) ∧ (type_of% @x_next) ∧ (type_of% @x_entry) ∧ (type_of% @x_callF)) ∧
  ((type_of% @x_callV) ∧ (type_of% @x_callI) ∧ (type_of% @x_len) ∧ (type_of% @x_cap) ∧ (type_of% @x_append) ∧ (type_of% @x_copy) ∧ (type_of% @x_delete) ∧ (type_of% @x_max) ∧ (type_of% @x_min) ∧ (type_of% @canL_nil) ∧ (type_of% @canL_cons) ∧ (type_of% @canTO_fin) ∧ (type_of% @canTO_op) ∧ (type_of% @canTO_both) ∧ (type_of% @stabL_nil) ∧ (type_of% @stabL_cons)) :=
  ⟨⟨@x_nil, @x_guard, @x_move, @x_assign, @x_pick, @x_alloc, @x_box, @x_build, @x_bsl, @x_load, @x_store, @x_nilCheck, @x_bin, @x_un, @x_conv, @x_mkIf⟩, ⟨@x_mkFn, @x_mkMap, @x_slice, @x_fieldAddr, @x_field, @x_idxAddr, @x_idx, @x_lookup, @x_mapSet, @x_tas, @x_extract, @x_mkSlice, @x_range, @x_next, @x_entry, @x_callF⟩, ⟨@x_callV, @x_callI, @x_len, @x_cap, @x_append, @x_copy, @x_delete, @x_max, @x_min, @canL_nil, @canL_cons, @canTO_fin, @canTO_op, @canTO_both, @stabL_nil, @stabL_cons⟩⟩

/-- Words. -/
theorem XB :
  ((type_of% @Vl_some) ∧ (type_of% @Ll_some) ∧ (type_of% @Pl_some) ∧ (type_of% @Ml_some) ∧ (type_of% @Hl_some) ∧ (type_of% @GdK_yes) ∧ (type_of% @GdK_tf) ∧ (type_of% @GdK_ft) ∧ (type_of% @GdK_un) ∧ (type_of% @FnK_plain) ∧ (type_of% @putE_some) ∧ (type_of% @putE_none) ∧ (type_of% @look_cons) ∧ (type_of% @evO_tmp) ∧ (type_of% @evO_const) ∧ (type_of% @evO_func)) ∧
  ((type_of% @evL_nil) ∧ (type_of% @evL_cons) ∧ (type_of% @evP_nil) ∧ (type_of% @evP_cons) ∧ (type_of% @gdst_lit) ∧ (type_of% @pickV_b) ∧ (type_of% @upd_apply) ∧ (type_of% @upd_upd) ∧ (type_of% @rd_cells)) :=
  ⟨⟨@Vl_some, @Ll_some, @Pl_some, @Ml_some, @Hl_some, @GdK_yes, @GdK_tf, @GdK_ft, @GdK_un, @FnK_plain, @putE_some, @putE_none, @look_cons, @evO_tmp, @evO_const, @evO_func⟩, ⟨@evL_nil, @evL_cons, @evP_nil, @evP_cons, @gdst_lit, @pickV_b, @upd_apply, @upd_upd, @rd_cells⟩⟩

/-- Plain laws. -/
theorem XC :
  ((type_of% @Dm_eq) ∧ (type_of% @Option.some.injEq.{0}) ∧ (type_of% @Option.bind_some.{0,0}) ∧ (type_of% @Option.map_some.{0,0}) ∧ (type_of% @Option.getD_some.{0}) ∧ (type_of% @Option.isNone_some.{0}) ∧ (type_of% @Option.isNone_none.{0}) ∧ (type_of% @Option.isSome_none.{0}) ∧ (type_of% @Option.isSome_some.{0}) ∧ (type_of% @Bool.and_false) ∧ (type_of% @Bool.false_and) ∧ (type_of% @List.all_cons.{0}) ∧ (type_of% @List.all_nil.{0}) ∧ (type_of% @Bool.and_true) ∧ (type_of% @Bool.true_and) ∧ (type_of% @Bool.or_true)) ∧
  ((type_of% @Bool.true_or) ∧ (type_of% @Bool.false_or) ∧ (type_of% @Bool.or_false) ∧ (type_of% @Bool.and_self) ∧ (type_of% @Bool.not_true) ∧ (type_of% @Bool.not_false) ∧ (type_of% @decide_true) ∧ (type_of% @decide_false) ∧ (type_of% @decide_eq_true_eq) ∧ (type_of% @Nat.zero_add) ∧ (type_of% @Nat.add_zero) ∧ (type_of% @true_and) ∧ (type_of% @and_true) ∧ (type_of% @false_and) ∧ (type_of% @and_false) ∧ (type_of% @true_or)) ∧
  ((type_of% @or_true) ∧ (type_of% @false_or) ∧ (type_of% @or_false) ∧ (type_of% @not_true_eq_false) ∧ (type_of% @not_false_eq_true) ∧ (type_of% @ne_eq.{1}) ∧ (type_of% @List.getElem?_cons_zero.{0}) ∧ (type_of% @List.getElem?_cons_succ.{0}) ∧ (type_of% @List.getElem?_nil.{0}) ∧ (type_of% @List.length_cons.{0}) ∧ (type_of% @List.length_nil.{0}) ∧ (type_of% @List.size_toArray.{0}) ∧ (type_of% @List.getElem?_toArray.{0}) ∧ (type_of% @List.toList_toArray.{0}) ∧ (type_of% @Bool.false_eq_true) ∧ (type_of% @Nat.le_refl)) ∧
  ((type_of% @Nat.zero_le) ∧ (type_of% @List.setIfInBounds_toArray.{0}) ∧ (type_of% @List.set_cons_zero.{0}) ∧ (type_of% @List.set_cons_succ.{0}) ∧ (type_of% @Int.natCast_nonneg) ∧ (type_of% @Int.cast_ofNat_Int) ∧ (type_of% @Int.toNat_natCast) ∧ (type_of% @Nat.mul_one) ∧ (type_of% @Nat.sub_zero) ∧ (type_of% @List.append_nil.{0}) ∧ (type_of% @List.nil_append.{0}) ∧ (type_of% @List.cons_append.{0}) ∧ (type_of% @Int.ofNat_lt) ∧ (type_of% @Int.ofNat_le) ∧ (type_of% @bb_tt) ∧ (type_of% @bb_tf)) ∧
  ((type_of% @bb_ft) ∧ (type_of% @bb_ff) ∧ (type_of% @bn_tt) ∧ (type_of% @bn_tf) ∧ (type_of% @bn_ft) ∧ (type_of% @bn_ff) ∧ (type_of% @ib_self) ∧ (type_of% @ibn_self)) :=
  ⟨⟨@Dm_eq, @Option.some.injEq.{0}, @Option.bind_some.{0,0}, @Option.map_some.{0,0}, @Option.getD_some.{0}, @Option.isNone_some.{0}, @Option.isNone_none.{0}, @Option.isSome_none.{0}, @Option.isSome_some.{0}, @Bool.and_false, @Bool.false_and, @List.all_cons.{0}, @List.all_nil.{0}, @Bool.and_true, @Bool.true_and, @Bool.or_true⟩, ⟨@Bool.true_or, @Bool.false_or, @Bool.or_false, @Bool.and_self, @Bool.not_true, @Bool.not_false, @decide_true, @decide_false, @decide_eq_true_eq, @Nat.zero_add, @Nat.add_zero, @true_and, @and_true, @false_and, @and_false, @true_or⟩, ⟨@or_true, @false_or, @or_false, @not_true_eq_false, @not_false_eq_true, @ne_eq.{1}, @List.getElem?_cons_zero.{0}, @List.getElem?_cons_succ.{0}, @List.getElem?_nil.{0}, @List.length_cons.{0}, @List.length_nil.{0}, @List.size_toArray.{0}, @List.getElem?_toArray.{0}, @List.toList_toArray.{0}, @Bool.false_eq_true, @Nat.le_refl⟩, ⟨@Nat.zero_le, @List.setIfInBounds_toArray.{0}, @List.set_cons_zero.{0}, @List.set_cons_succ.{0}, @Int.natCast_nonneg, @Int.cast_ofNat_Int, @Int.toNat_natCast, @Nat.mul_one, @Nat.sub_zero, @List.append_nil.{0}, @List.nil_append.{0}, @List.cons_append.{0}, @Int.ofNat_lt, @Int.ofNat_le, @bb_tt, @bb_tf⟩, ⟨@bb_ft, @bb_ff, @bn_tt, @bn_tf, @bn_ft, @bn_ff, @ib_self, @ibn_self⟩⟩

theorem HW.id {P : Program} {n : Nat} {c : Code} {env : Env} {h : Hp} {Q : Ex → Env → Hp → Prop} (hc : HW P n c env h Q) : HW P n c env h Q := hc
end Go.Hx
