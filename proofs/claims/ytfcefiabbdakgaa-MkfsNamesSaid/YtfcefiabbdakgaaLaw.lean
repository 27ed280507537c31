/- Contracts of the law's functions: lives. -/
import Derived.Test.YtfcefiabbdakgaaMake
set_option linter.all false
set_option maxRecDepth 100000
set_option maxHeartbeats 400000
namespace Go.Proofs.Ytfcefiabbdakgaa
open Go.Am
variable {σ : Store} {d hm lm : Nat} {pv hv : Value} {s : DS} {Q : Value → Store → Prop}
theorem upd_fresh {F F' : List Nat} {a b c : Store} (k : Keeps a b) (h : Upd F b c F') (o : ∀ j ∈ F, a.next ≤ j) : Keeps a c :=
  ⟨Nat.le_trans k.1 h.next, fun j hj => by rw [h.same j (Nat.lt_of_lt_of_le hj k.1) (fun hx => by have := o j hx; omega), k.2 j hj]⟩
theorem read_B {m : Nat} (h : s.B m) {i : Int} : (s.read i).2.2.B m := by
  unfold DS.read
  split
  · exact h
  · split
    · exact h
    · exact ⟨⟨h.ok.n, h.ok.n2, h.ok.fuse, h.ok.fuse0, h.ok.made0, by have := h.ok.reads0; show 0 ≤ s.reads + 1; omega, h.ok.claims0, h.ok.wait, h.ok.hist, h.ok.held⟩, h.made, h.wait, h.hist⟩
theorem fuse_B {m : Nat} (h : s.B m) {x : Int} (hx : x < 2 ^ 62) : ({ s with fuse := max x (-1) } : DS).B m :=
  ⟨⟨h.ok.n, h.ok.n2, by show max x (-1) < 2 ^ 62; omega, by show -1 ≤ max x (-1); omega, h.ok.made0, h.ok.reads0, h.ok.claims0, h.ok.wait, h.ok.hist, h.ok.held⟩, h.made, h.wait, h.hist⟩
theorem gone_B {m : Nat} (h : s.B m) : s.gone.B m :=
  ⟨⟨h.ok.n, h.ok.n2, by show (-1 : Int) < 2 ^ 62; omega, by show (-1 : Int) ≤ -1; omega, h.ok.made0, h.ok.reads0, h.ok.claims0, fun p hp => (by cases hp), fun p hp => (by cases hp), h.ok.held⟩, h.made, by show 0 < 2 ^ 28 + m; omega, by show 0 < 2 ^ 28 + m; omega⟩
def S0 : DS := ⟨400, fun _ => none, [], [], -1, false, 0, 0, 0, 0⟩
def g4 : Geo := ⟨400, 32, 60⟩
theorem S0_B : S0.B 0 := ⟨⟨by decide, by decide, by decide, by decide, by decide, by decide, by decide, fun p hp => (by cases hp), fun p hp => (by cases hp), fun x b h => (by cases h)⟩, by decide, by decide, by decide⟩
theorem S0_many : S0.mkfs ⟨401, 32, 60⟩ = (2, S0) := by
  unfold DS.mkfs
  rw [if_pos]
  decide
def S1 : DS := (S0.mkfs g4).2
theorem S0_err : (S0.mkfs g4).1 = 0 := by decide +kernel
theorem S1_made : S1.made = 12 := by decide +kernel
theorem lives_ (hq : ∀ σ', Keeps σ σ' → Q (.bool true) σ') : Does Try.prog 7 [] σ Q := by
  refine d7 ?_
  simp -implicitDefEqProofs (maxSteps := 2000000) (disch := first | assumption | omega | rfl | (simp only [Store.next_push, skip_next, next_max, unrle_len, unrle_len2, unrle_len3, bc_len, zb_len, List.length_set, List.length_replicate, List.length_append, List.length_take, List.length_drop, List.length_cons, List.length_nil]; done) | (simp only [Store.next_push, skip_next, next_max, unrle_len, unrle_len2, unrle_len3, bc_len, zb_len, List.length_set, List.length_replicate, List.length_append, List.length_take, List.length_drop, List.length_cons, List.length_nil]; omega)) only [i_or8, s2a_eq, index1, beq_self_eq_true, bne_self_eq_false, Int.reduceBEq, Int.reduceBNe, Int.reduceLT, Int.reduceLE, decide_true, decide_false, Int.reduceAdd, Int.reduceSub, Int.reduceMul, sh_shr, sh_shl, i_quo, i_rem, i_neg, max2, min2, iaddrA_eq, iaddrS_eq, iaddrS_grown, wrap_i64, vop_some, nop_some, eop_some, cop_some, jop_eq, gop_tt, gop_ff, gop_tf, gop_ft, gop_gone, condH_true, condH_false, kop_some, gsel_tt, gsel_ff, gsel_tf, gsel_ft, gsel_gone, pick_true, pick_false, i_add, i_sub, i_mul, i_eql, i_neq, i_lss, i_leq, i_gtr, i_geq, i_conv, u_not, eqB_eq, eqPn_some, eqPn_none, eqSl_some, eqSl_none, eqMp_some, eqMp_none, nil_ptr, ext_0, ext_1, ext_2, faddr_eq, len_sl, len_str, ptrTo_eq, box_agg, Bool.xor_true, Bool.xor_false, Bool.not_true, Bool.not_false, Bool.true_xor, Bool.false_xor, Option.isNone_none, Option.isNone_some, Nat.zero_add, Nat.add_zero, Store.get_push_same, Store.get_put_same, Store.next_push, put_put, push_put, push_put_lt, get_push_eq, push_put_eq, push_none, skip_next, skip_get, skip_put_lt, get_push_ne, get_put_ne', List.getElem?_cons_zero, List.getElem?_cons_succ, List.set_cons_zero, List.set_cons_succ, ↓bc_flatz, ↓bc_flat16, bc_zb, bc_z16, bc_z64, zb_len, buildL_nil, buildL_step, putC_some, putD_some, as_int, as_bool, as_str, as_ptr, as_slice, as_map, as_agg, aggOf_some, sliceOf_some, unrle_len, unrle_len2, unrle_len3, Nat.reduceAdd, unrle_1, rep_1, rep_2, rep_3, rep_4, rep_5, rep_6, rep_7, rep_8, rep_9, rep_10, rep_11, rep_12, ↓agg_bytez, List.flatten_cons, List.flatten_nil, List.append_nil, List.nil_append, List.cons_append, List.length_cons, List.length_nil, load_at, load_part_at, st_int, st_bool, st_str, st_ptr, st_slice, st_map, store_all_at, rdOne_cells, rdPart_all, wrOne_cells, wrAll_cells, p7]
  refine new_ (by decide) (by decide) fun σ1 d hm lm h1 k1 o1 => ?_
  simp -implicitDefEqProofs (maxSteps := 2000000) (disch := first | assumption | omega | rfl | (simp only [Store.next_push, skip_next, next_max, unrle_len, unrle_len2, unrle_len3, bc_len, zb_len, List.length_set, List.length_replicate, List.length_append, List.length_take, List.length_drop, List.length_cons, List.length_nil]; done) | (simp only [Store.next_push, skip_next, next_max, unrle_len, unrle_len2, unrle_len3, bc_len, zb_len, List.length_set, List.length_replicate, List.length_append, List.length_take, List.length_drop, List.length_cons, List.length_nil]; omega)) only [i_or8, s2a_eq, index1, beq_self_eq_true, bne_self_eq_false, Int.reduceBEq, Int.reduceBNe, Int.reduceLT, Int.reduceLE, decide_true, decide_false, Int.reduceAdd, Int.reduceSub, Int.reduceMul, sh_shr, sh_shl, i_quo, i_rem, i_neg, max2, min2, iaddrA_eq, iaddrS_eq, iaddrS_grown, wrap_i64, vop_some, nop_some, eop_some, cop_some, jop_eq, gop_tt, gop_ff, gop_tf, gop_ft, gop_gone, condH_true, condH_false, kop_some, gsel_tt, gsel_ff, gsel_tf, gsel_ft, gsel_gone, pick_true, pick_false, i_add, i_sub, i_mul, i_eql, i_neq, i_lss, i_leq, i_gtr, i_geq, i_conv, u_not, eqB_eq, eqPn_some, eqPn_none, eqSl_some, eqSl_none, eqMp_some, eqMp_none, nil_ptr, ext_0, ext_1, ext_2, faddr_eq, len_sl, len_str, ptrTo_eq, box_agg, Bool.xor_true, Bool.xor_false, Bool.not_true, Bool.not_false, Bool.true_xor, Bool.false_xor, Option.isNone_none, Option.isNone_some, Nat.zero_add, Nat.add_zero, Store.get_push_same, Store.get_put_same, Store.next_push, put_put, push_put, push_put_lt, get_push_eq, push_put_eq, push_none, skip_next, skip_get, skip_put_lt, get_push_ne, get_put_ne', List.getElem?_cons_zero, List.getElem?_cons_succ, List.set_cons_zero, List.set_cons_succ, ↓bc_flatz, ↓bc_flat16, bc_zb, bc_z16, bc_z64, zb_len, buildL_nil, buildL_step, putC_some, putD_some, as_int, as_bool, as_str, as_ptr, as_slice, as_map, as_agg, aggOf_some, sliceOf_some, unrle_len, unrle_len2, unrle_len3, Nat.reduceAdd, unrle_1, rep_1, rep_2, rep_3, rep_4, rep_5, rep_6, rep_7, rep_8, rep_9, rep_10, rep_11, rep_12, ↓agg_bytez, List.flatten_cons, List.flatten_nil, List.append_nil, List.nil_append, List.cons_append, List.length_cons, List.length_nil, load_at, load_part_at, st_int, st_bool, st_str, st_ptr, st_slice, st_map, store_all_at, rdOne_cells, rdPart_all, wrOne_cells, wrAll_cells]
  refine make_ (s := S0) (g := g4) h1 S0_B (by decide) (by decide) (by decide) (by decide) fun σ2 pv2 hv2 h2 b2 u2 => ?_
  rw [S0_err]
  simp -implicitDefEqProofs (maxSteps := 2000000) (disch := first | assumption | omega | rfl | (simp only [Store.next_push, skip_next, next_max, unrle_len, unrle_len2, unrle_len3, bc_len, zb_len, List.length_set, List.length_replicate, List.length_append, List.length_take, List.length_drop, List.length_cons, List.length_nil]; done) | (simp only [Store.next_push, skip_next, next_max, unrle_len, unrle_len2, unrle_len3, bc_len, zb_len, List.length_set, List.length_replicate, List.length_append, List.length_take, List.length_drop, List.length_cons, List.length_nil]; omega)) only [i_or8, s2a_eq, index1, beq_self_eq_true, bne_self_eq_false, Int.reduceBEq, Int.reduceBNe, Int.reduceLT, Int.reduceLE, decide_true, decide_false, Int.reduceAdd, Int.reduceSub, Int.reduceMul, sh_shr, sh_shl, i_quo, i_rem, i_neg, max2, min2, iaddrA_eq, iaddrS_eq, iaddrS_grown, wrap_i64, vop_some, nop_some, eop_some, cop_some, jop_eq, gop_tt, gop_ff, gop_tf, gop_ft, gop_gone, condH_true, condH_false, kop_some, gsel_tt, gsel_ff, gsel_tf, gsel_ft, gsel_gone, pick_true, pick_false, i_add, i_sub, i_mul, i_eql, i_neq, i_lss, i_leq, i_gtr, i_geq, i_conv, u_not, eqB_eq, eqPn_some, eqPn_none, eqSl_some, eqSl_none, eqMp_some, eqMp_none, nil_ptr, ext_0, ext_1, ext_2, faddr_eq, len_sl, len_str, ptrTo_eq, box_agg, Bool.xor_true, Bool.xor_false, Bool.not_true, Bool.not_false, Bool.true_xor, Bool.false_xor, Option.isNone_none, Option.isNone_some, Nat.zero_add, Nat.add_zero, Store.get_push_same, Store.get_put_same, Store.next_push, put_put, push_put, push_put_lt, get_push_eq, push_put_eq, push_none, skip_next, skip_get, skip_put_lt, get_push_ne, get_put_ne', List.getElem?_cons_zero, List.getElem?_cons_succ, List.set_cons_zero, List.set_cons_succ, ↓bc_flatz, ↓bc_flat16, bc_zb, bc_z16, bc_z64, zb_len, buildL_nil, buildL_step, putC_some, putD_some, as_int, as_bool, as_str, as_ptr, as_slice, as_map, as_agg, aggOf_some, sliceOf_some, unrle_len, unrle_len2, unrle_len3, Nat.reduceAdd, unrle_1, rep_1, rep_2, rep_3, rep_4, rep_5, rep_6, rep_7, rep_8, rep_9, rep_10, rep_11, rep_12, ↓agg_bytez, List.flatten_cons, List.flatten_nil, List.append_nil, List.nil_append, List.cons_append, List.length_cons, List.length_nil, load_at, load_part_at, st_int, st_bool, st_str, st_ptr, st_slice, st_map, store_all_at, rdOne_cells, rdPart_all, wrOne_cells, wrAll_cells]
  refine made_c h2.cells b2.ok.n ?_
  rw [show (S0.mkfs g4).2.made = 12 from S1_made]
  simp -implicitDefEqProofs (maxSteps := 2000000) (disch := first | assumption | omega | rfl | (simp only [Store.next_push, skip_next, next_max, unrle_len, unrle_len2, unrle_len3, bc_len, zb_len, List.length_set, List.length_replicate, List.length_append, List.length_take, List.length_drop, List.length_cons, List.length_nil]; done) | (simp only [Store.next_push, skip_next, next_max, unrle_len, unrle_len2, unrle_len3, bc_len, zb_len, List.length_set, List.length_replicate, List.length_append, List.length_take, List.length_drop, List.length_cons, List.length_nil]; omega)) only [i_or8, s2a_eq, index1, beq_self_eq_true, bne_self_eq_false, Int.reduceBEq, Int.reduceBNe, Int.reduceLT, Int.reduceLE, decide_true, decide_false, Int.reduceAdd, Int.reduceSub, Int.reduceMul, sh_shr, sh_shl, i_quo, i_rem, i_neg, max2, min2, iaddrA_eq, iaddrS_eq, iaddrS_grown, wrap_i64, vop_some, nop_some, eop_some, cop_some, jop_eq, gop_tt, gop_ff, gop_tf, gop_ft, gop_gone, condH_true, condH_false, kop_some, gsel_tt, gsel_ff, gsel_tf, gsel_ft, gsel_gone, pick_true, pick_false, i_add, i_sub, i_mul, i_eql, i_neq, i_lss, i_leq, i_gtr, i_geq, i_conv, u_not, eqB_eq, eqPn_some, eqPn_none, eqSl_some, eqSl_none, eqMp_some, eqMp_none, nil_ptr, ext_0, ext_1, ext_2, faddr_eq, len_sl, len_str, ptrTo_eq, box_agg, Bool.xor_true, Bool.xor_false, Bool.not_true, Bool.not_false, Bool.true_xor, Bool.false_xor, Option.isNone_none, Option.isNone_some, Nat.zero_add, Nat.add_zero, Store.get_push_same, Store.get_put_same, Store.next_push, put_put, push_put, push_put_lt, get_push_eq, push_put_eq, push_none, skip_next, skip_get, skip_put_lt, get_push_ne, get_put_ne', List.getElem?_cons_zero, List.getElem?_cons_succ, List.set_cons_zero, List.set_cons_succ, ↓bc_flatz, ↓bc_flat16, bc_zb, bc_z16, bc_z64, zb_len, buildL_nil, buildL_step, putC_some, putD_some, as_int, as_bool, as_str, as_ptr, as_slice, as_map, as_agg, aggOf_some, sliceOf_some, unrle_len, unrle_len2, unrle_len3, Nat.reduceAdd, unrle_1, rep_1, rep_2, rep_3, rep_4, rep_5, rep_6, rep_7, rep_8, rep_9, rep_10, rep_11, rep_12, ↓agg_bytez, List.flatten_cons, List.flatten_nil, List.append_nil, List.nil_append, List.cons_append, List.length_cons, List.length_nil, load_at, load_part_at, st_int, st_bool, st_str, st_ptr, st_slice, st_map, store_all_at, rdOne_cells, rdPart_all, wrOne_cells, wrAll_cells]
  exact hq _ (upd_fresh k1 u2 o1)
def S2 : DS := (S1.read 33).2.2
def S3 : DS := (S2.read 37).2.2
def S4 : DS := (S3.read 38).2.2
def S5 : DS := { S4 with fuse := max 9 (-1) }
def S6 : DS := (S5.mkfs g4).2
def S7 : DS := S6.gone
def S8 : DS := (S7.read 0).2.2
theorem S1_33e : (S1.read 33).2.1 = 0 := by decide +kernel
theorem S2_37e : (S2.read 37).2.1 = 0 := by decide +kernel
theorem S3_38e : (S3.read 38).2.1 = 0 := by decide +kernel
theorem S1_b (i : Nat) (v : Int) (h : (S1.read 33).1[i]? = some v) : (bc (S1.read 33).1)[i]? = some (.int .u8 v) := by rw [bc, List.getElem?_map, h]; rfl
theorem S2_b (i : Nat) (v : Int) (h : (S2.read 37).1[i]? = some v) : (bc (S2.read 37).1)[i]? = some (.int .u8 v) := by rw [bc, List.getElem?_map, h]; rfl
theorem S3_b (i : Nat) (v : Int) (h : (S3.read 38).1[i]? = some v) : (bc (S3.read 38).1)[i]? = some (.int .u8 v) := by rw [bc, List.getElem?_map, h]; rfl
theorem b33_64 : (bc (S1.read 33).1)[64]? = some (.int .u8 2) := S1_b _ _ (by decide +kernel)
theorem b33_66 : (bc (S1.read 33).1)[66]? = some (.int .u8 2) := S1_b _ _ (by decide +kernel)
theorem b33_68 : (bc (S1.read 33).1)[68]? = some (.int .u8 32) := S1_b _ _ (by decide +kernel)
theorem b33_72 : (bc (S1.read 33).1)[72]? = some (.int .u8 1) := S1_b _ _ (by decide +kernel)
theorem b33_76 : (bc (S1.read 33).1)[76]? = some (.int .u8 38) := S1_b _ _ (by decide +kernel)
theorem b37_3 : (bc (S2.read 37).1)[3]? = some (.int .u8 255) := S2_b _ _ (by decide +kernel)
theorem b37_4 : (bc (S2.read 37).1)[4]? = some (.int .u8 127) := S2_b _ _ (by decide +kernel)
theorem b37_5 : (bc (S2.read 37).1)[5]? = some (.int .u8 0) := S2_b _ _ (by decide +kernel)
theorem b38_0 : (bc (S3.read 38).1)[0]? = some (.int .u8 1) := S3_b _ _ (by decide +kernel)
theorem b38_2 : (bc (S3.read 38).1)[2]? = some (.int .u8 46) := S3_b _ _ (by decide +kernel)
theorem b38_16 : (bc (S3.read 38).1)[16]? = some (.int .u8 1) := S3_b _ _ (by decide +kernel)
theorem b38_18 : (bc (S3.read 38).1)[18]? = some (.int .u8 46) := S3_b _ _ (by decide +kernel)
theorem b38_19 : (bc (S3.read 38).1)[19]? = some (.int .u8 46) := S3_b _ _ (by decide +kernel)
theorem b38_20 : (bc (S3.read 38).1)[20]? = some (.int .u8 0) := S3_b _ _ (by decide +kernel)
theorem S5_err : (S5.mkfs g4).1 = 3 := by decide +kernel
theorem S7_0 : (S7.read 0).1 = zb := by decide +kernel
theorem S7_0e : (S7.read 0).2.1 = 0 := by decide +kernel
theorem S8_err : (S8.mkfs ⟨300, 32, 60⟩).1 = 0 := by decide +kernel
theorem S1_dead : S1.dead = false := by decide +kernel
theorem S4_dead : S4.dead = false := by decide +kernel
theorem S1_reads : S1.reads < 2 ^ 62 := by decide +kernel
theorem S2_reads : S2.reads < 2 ^ 62 := by decide +kernel
theorem S3_reads : S3.reads < 2 ^ 62 := by decide +kernel
theorem S7_reads : S7.reads < 2 ^ 62 := by decide +kernel
theorem S5_claims : S5.claims < 2 ^ 62 := by decide +kernel
theorem S8_claims : S8.claims < 2 ^ 62 := by decide +kernel
end Go.Proofs.Ytfcefiabbdakgaa
