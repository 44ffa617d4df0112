import Derived.Test.YtlacjcdhfoeekaaTv23
set_option linter.unusedSimpArgs false
set_option linter.unusedVariables false
namespace Go.TV
attribute [go_sem low] op_buildSlice
attribute [go_sem] drawK_some c_draw1 c_draw2 evOpsF_nil evOpsF_cons evOpsF_guard opsKF_some opsKF_none opsWF_true opsWF_false okF_nil okF_cons w_store foot_store foot_load w_load refs_rp refs_rs refs_tp refs_ts refs_sc refs_nil refs_agg foot_move w_move foot_assign w_assign foot_pick w_pick foot_nilCheck w_nilCheck foot_binOp w_binOp foot_unOp w_unOp foot_fieldAddr w_fieldAddr foot_field w_field foot_indexAddr w_indexAddr foot_index w_index foot_extract w_extract foot_len w_len foot_build w_build foot_makeFunc w_makeFunc foot_alloc w_alloc foot_box w_box w_call foot_call List.contains_cons List.contains_nil Bool.or_false Bool.false_or Bool.true_or Nat.reduceBEq
  evOps_nil evOps_cons evOps_guard opsK_some opsK_none opsW_true opsW_false wantedB_some guardB_bool guardB_undef val_tmp val_const val_func
  op_move op_assign op_pick pickV_bool op_alloc op_box op_build op_load op_store op_nilCheck nilV_tp nilV_rp op_binOp op_unOp op_convert op_makeFunc op_makeSlice op_slice op_fieldAddr op_field op_indexAddr op_index op_extract extV_tup
  op_call callV_clo op_len op_append norm1_some blockK_norm blockK_ret blockK_exit loopK_norm loopK_ret loopK_exit resK_norm resK_ret res_nil res_tmp1 res_tmp2 res_tmp3 res_cell1 oneOf_zero oneOf_one oneOf_two oneOf_three
  argsT_get ofVal_int ofVal_bool ofVal_string ofVal_nilp ofVal_nils ofVal_agg
  c_seq sK_norm sK_ret sK_exit c_region c_draw c_skip c_ret c_exit c_cond cK_true cK_false c_block c_loop
  evOpsQ_nil evOpsQ_cons evOpsQ_guard opsKQ_some opsKQ_none opsWQ_true opsWQ_false
  opD_move opD_assign opD_pick opD_nilCheck opD_binOp opD_unOp opD_fieldAddr opD_field opD_indexAddr opD_index opD_extract opD_len opD_build opD_makeFunc opD_alloc opD_box opD_load loadD_tp loadD_rp opD_store storeD_rp opD_call
  evLoad_tp evLoad_tpa evLoad_rp evLoad_rpa evStore_rp evStore_agg evField_tp evField_rp evField_agg evIndex_ts evIndex_rs evMake_eq evBuildSlice_eq evBuild_eq evAppend_eq evLen_ts evLen_rs evLen_nil evLen_str evIdx_str evSlice_str evSlice_ts evSlice_rs
  ev_add ev_sub ev_mul ev_quo ev_rem ev_eql ev_neq ev_lss ev_leq ev_gtr ev_geq ev_not ev_neg
  call_imm behind_nil behind_sc behind_tup2 stripL_nil stripL_cons strip_sc strip_nil strip_tp strip_ts strip_agg strip_tup strip_clo strip_rp strip_rs
  upd_same upd_ne ne_eq List.getElem?_cons_zero List.getElem?_cons_succ Option.getD_some Option.map_some Option.bind_some List.getElem?_toArray not_false_eq_true reduceCtorEq beq_self_eq_true if_true if_false Bool.false_eq_true List.map_cons List.map_nil List.nil_append List.cons_append Nat.reduceEqDiff
  decide_true decide_false Bool.true_and Bool.false_and Bool.not_true Bool.not_false Bool.and_true Bool.or_true Bool.and_false bnd and_true true_and
end Go.TV
namespace Go.TV
/-- A loop, by an invariant that counts down. -/
theorem loop_rule {body : St → Option (Ex × St)} {st0 : St} {x : Option (Ex × St)} (hL : evLoopI body st0 = x) (J : Nat → St → Prop) (post : Ex × St → Prop)
    (step : ∀ n st, J n st → (∃ st', body st = some (.norm, st') ∧ ∃ m, m < n ∧ J m st') ∨ (∃ r, body st = some r ∧ (∀ s, r ≠ (.norm, s)) ∧ post r)) (n : Nat) (h0 : J n st0) : ∃ r, x = some r ∧ post r := by
  subst hL
  induction n using Nat.strongRecOn generalizing st0 with
  | _ n ih =>
    rcases step n st0 h0 with ⟨st', h1, m, hm, hJ⟩ | ⟨r, h1, h2, h3⟩
    · obtain ⟨r, hr, hp⟩ := ih m hm hJ
      exact ⟨r, by rw [evLoopI_eq, h1]; exact hr, hp⟩
    · refine ⟨r, ?_, h3⟩
      rw [evLoopI_eq, h1]
      obtain ⟨e, s⟩ := r
      cases e with
      | norm => exact absurd rfl (h2 s)
      | exit i => rfl
      | ret => rfl
end Go.TV
