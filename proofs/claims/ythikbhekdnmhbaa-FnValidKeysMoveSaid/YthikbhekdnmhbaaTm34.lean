/- The tree machine, 34: the rules, as one set. -/
import Derived.Test.YthikbhekdnmhbaaTm33
namespace Go.TM
theorem imm_I (xs : List Int) : (xs.map eI).map imm1 = xs.map eI := by
  induction xs with
  | nil => rfl
  | cons x xs ih => simp only [List.map_cons, ih]; rfl
theorem imm_row (xs : List Pr) : (xs.flatMap ePr).map imm1 = xs.flatMap ePr := by
  induction xs with
  | nil => rfl
  | cons x xs ih => simp only [List.flatMap_cons, List.map_append, ih]; rfl
theorem imm_pgs (o : Bool) (xs : List Pg) : (xs.flatMap (ePg o)).map imm1 = xs.flatMap (ePg false) := by
  induction xs with
  | nil => rfl
  | cons x xs ih => simp only [List.flatMap_cons, List.map_append, ih]; rfl
theorem imm_iss (o : Bool) (xs : List (List Int)) : (xs.map (eIs o)).map imm1 = xs.map (eIs false) := by
  induction xs with
  | nil => rfl
  | cons x xs ih => simp only [List.map_cons, ih]; rfl
attribute [go_sem] imm_I imm_row imm_pgs imm_iss
theorem cI_e (n : Int) : cI.e n = eI n := rfl
theorem cB_e (v : Bool) : cB.e v = .b v := rfl
theorem cIs_e (o : Bool) (xs : List Int) : (cS o cI).e xs = .s o 1 xs.length (xs.map eI) := rfl
theorem cIss_e (o : Bool) (xs : List (List Int)) : (cS o (cS o cI)).e xs = .s o 1 xs.length (xs.map (eIs o)) := rfl
theorem cRow_e (o : Bool) (xs : List Pr) : (cRow o).e xs = .s o 2 xs.length (xs.flatMap ePr) := rfl
theorem cPgs_e (o : Bool) (xs : List Pg) : (cPgs o).e xs = .s o 3 xs.length (xs.flatMap (ePg o)) := rfl
theorem cTr_e (o : Bool) (t : Tr) : (cTr o).e t = .agg [eI t.root, .s o 3 t.pages.length (t.pages.flatMap (ePg o))] := rfl
theorem cInn_e (o : Bool) (x : Inn) : (cInn o).e x = .agg [.s o 1 x.keys.length (x.keys.map eI), .s o 1 x.kids.length (x.kids.map eI)] := rfl
theorem cPair_e (x : Pr) : cPair.e x = .agg [eI x.1, eI x.2] := rfl
theorem cPage_e (o : Bool) (x : Pg) : (cPage o).e x = .agg [.s o 1 x.keys.length (x.keys.map eI), .s o 1 x.kids.length (x.kids.map eI), .s o 1 x.vals.length (x.vals.map eI)] := rfl
attribute [go_sem] cI_e cB_e cIs_e cIss_e cRow_e cPgs_e cTr_e cInn_e cPair_e cPage_e
theorem sub_all {α : Type} (xs : List α) : sub xs 0 xs.length = xs := by simp [sub]
theorem sub_zero {α : Type} (xs : List α) (n : Nat) : sub xs 0 n = xs.take n := by simp [sub]
attribute [go_sem] sub_all
theorem bne_bool (b : Bool) : (b != b) = false := by cases b <;> rfl
attribute [go_sem] bne_bool eq_self

attribute [go_sem]
  W_seq_e W_block_e W_exit_e W_ret_e W_skip_e W_cond_e W_reg_f W_reg_t cond_t cond_f thenA_n thenA_r thenA_e inB_n inB_r inB_e runS_nil runS_plain
  runS_guard runKS_some runKS_pure runR_nil runR_plain runR_guard runK_some runK_pure gv opG_b opG_t GG_tt GG_ff GG_tf GG_ft upd_if drawB_nil ofConst_i
  ofConst_b ofConst_nil ev_t ev_c M1_fn M2_fn M3_fn M4_fn M5_fn M1_k M2_k M3_k M4_k M5_k M1_c M2_c M3_c M4_c M5_c cI_d cB_d cIs_d cIs_nil cIss_d cRow_d
  cRow_nil cPgs_d cPgs_nil cPair_d cTr_d cInn_d cPage_d normL_eI normL_row normL_pgs normL_iss get_I get_Is get_row0 get_row1 get_pg0 get_pg1 get_pg2
  rng_row rng_pg rng_I rng_rows rng_pgss set_I

attribute [go_sem]
  gi_true tiInt_z tiInt_s tiInt_b tiBool_z tiBool_s tiSl_z tiSl_s tiSl_b tiSt_z tiSt_s tiSt_b tiAr_z tiAr_s tiInt_k tiBool_k tiSl_k tiSt_k tiAr_k
  tiInt_f tiBool_f tiSl_f tiSt_f updH_eq node_0 node_1 nd0_some nd1_some ndc_some e_move e_assign e_pick pick_t pick_f e_len lenK_s len1_s len1_r e_max
  max2_i e_binOp bop_add bop_sub bop_mul bop_quo bop_rem bop_eql bop_neq bop_lss bop_leq bop_gtr bop_geq bop_eqlb bop_neqb e_unOp uop_not uop_neg
  e_convert cvt_i e_extract exA_t adr_s e_nilCheck nilA_p nilA_e e_fieldAddr fldA_s fldP_p fldP_e e_field fvA_s fvP_s cell1_s fvT_i fvT_b fvT_s fvT_st
  e_indexAddr ixA_s ixS_s ixA_r ixR_s ixA_p ixP_s e_load ldE_s ldT_ei ldT_eb ldT_es ldT_est ldT_pi ldT_pb ldT_ps ldP_s ldT_pst ldPS_s view_i view_b
  view_f view_t0 view_t1 viewL_n viewL_c imm1_i imm1_b imm1_s immV_a immV_i immV_b immV_s aggN_l rng_s rng_z rng_e rng_d bnd_n bnd_i e_slice slK_s slA_s
  slA_r slI_s slR_s

attribute [go_sem]
  close_i close_b close_f close_n close_r0 close_r1 cl0_s cl1_s clc_s closeL_n closeL_c clL1_s cells_a cells_i cells_b cells_s cells_r cells_p notIn_c
  e_store stT_s stP_s modP_n modP_1 modC_s setR_n setR_1 set_lz set_ls verS_i verS_b e_alloc alK_s newRoot_e e_box boxK_s fl_n fl_c flP_s okp_i okp_b
  okp_s okp_r okp_a okp_p e_build bldK_s e_buildSlice bslK_s bslT_s bslF_s bslE_s e_makeSlice mkK_s mkT_s sr_s sr_r srR_t srR_f ds_n ds_r ds0_s e_append
  apK_s apT_s apS_s apD_s disP_n disP_c nodP_c e_call caG_m caG_a caC_s caD_s caE_s caF_s evL_n evL_c mvs_n mvs_r mvs_m mvs_i mvs_l cnt_n cnt_r cnt_m
  cnt_i cnt_l cnR_s cnM_s cnI_s cnL_s snap_i snap_b snap_s snap_r snap_a snA_s snapL_n snapL_c snC_s snap1_i snap1_b snap1_s snap1_r snR_s normL_n lnV_r
  lnC_r lnC_i lnR_s lnV_a lnA_s lnCs_n lnCs_c lnK_s outs_n outs_c ouR_s ouP_s getP_n getP_1 lent_e plant_i plant_b plant_t plant_f plant_a plant_e
  plant_u pT_n pT_c p1_i p1_b p1_t p1_f p1_a pL_n pL_i pL_b pL_t pL_f finalA_e fiR_s fiV_s fiO_s ress_n ress_c rsC_s ress_l rsE_s rsE_p finV_0 finV_2 finV_i finV_b finV_s
  finV_r finV_a fnF_s fnU_s frzL_n frzL_c fzC_s fzD_s fzR_s frz_i frz_b frz_s frz_r0 frz_r1 fnL_s flatA_n flatA_c rg_n rg_a rg_i rg_b rg_s rg_r tupOf_1 tupOf_0 tupOf_2 ios_n ios_c ioC_s shs_n shs_r shs_m shs_i shs_l lnS_n lnS_t
  lnS_i

attribute [go_sem] gi_pos gd_pos wrap_id updH_ne applyH_n applyH_c endP_n endP_r true_and and_true false_and and_false or_true true_or or_false false_or not_true_eq_false not_false_eq_true Bool.not_true Bool.not_false decide_true decide_false nodP_n notIn_n initSl initHp setDst plS plL scal isScalar

attribute [go_sem]  Option.map_some Option.map_none Option.bind_some List.getElem?_cons_zero List.getElem?_cons_succ List.getElem?_toArray List.length_cons
  List.length_nil List.map_cons List.map_nil List.append_nil List.nil_append List.cons_append List.getElem?_drop List.drop_drop List.drop_zero
  Int.toNat_natCast Nat.add_zero Nat.zero_add Nat.mul_one Nat.one_mul Nat.zero_mul List.replicate_succ List.replicate_zero List.flatten_cons
  List.flatten_nil List.take_zero List.take_succ_cons List.drop_succ_cons Option.elim_some List.take_nil List.drop_nil List.all_cons List.all_nil
  Prod.mk.injEq List.append_assoc List.length_map
end Go.TM
