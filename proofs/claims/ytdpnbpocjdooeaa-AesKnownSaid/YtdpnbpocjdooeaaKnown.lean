/- The law AesApart run on the machine. -/
import Derived.Test.YtdpnbpocjdooeaaLawsC
import Derived.Test.YtdpnbpocjdooeaaLawsD
set_option linter.unusedVariables false
set_option linter.unusedSimpArgs false
section
set_option linter.unusedVariables false
set_option linter.unusedSimpArgs false
set_option maxRecDepth 100000
set_option maxHeartbeats 1000000
namespace Go.AE
variable {E : Env}
attribute [local irreducible] keysP encP blockP broughtP

theorem blockP_full {K S : List UInt8} (hK : K.length = 32) (hS : S.length = 16) : blockP K S = (encP (keysP K) S, 0) := by
  unfold blockP
  simp only [hK, hS, ne_eq, not_true_eq_false, if_false]

theorem AesApart_run (hT : Told E) {H : Heap} {K X Y : List UInt8} {Q : AV → Heap → Prop}
    (hQ : ∀ H', H.next ≤ H'.next → (∀ j, j < H.next → H'.t.get j = H.t.get j) → Q (.bool true) H') : WCall E 4 [.str K, .str X, .str Y] H Q := by
  refine WCall.func (hT.none 4 _ _ (by decide)) ((hT.funcs 4).trans rfl) ?_
  have f0 : (frameOf [.str K, .str X, .str Y] 0 .nil).get 0 = some (.str K) := rfl
  have f1 : (frameOf [.str K, .str X, .str Y] 0 .nil).get 1 = some (.str X) := rfl
  have f2 : (frameOf [.str K, .str X, .str Y] 0 .nil).get 2 = some (.str Y) := rfl
  generalize frameOf [.str K, .str X, .str Y] 0 .nil = a at f0 f1 f2
  refine W.seq (W.region ?_)
  simp only [w_mov, w_ibin, w_load1, w_loadN, w_nilCheck, w_indexArr, w_indexSl, w_indexVal, w_indexStr, w_lenStr, w_lenSl, w_store, w_alloc, w_box, w_build, w_sliceArr, w_bytesToStr, w_pick, WOps_nil, thenQ_normal, eX_t, eX_c, put_s, put_n, getset, Nat.reduceEqDiff, if_false, if_true, Option.getD_some, rd, natOf_nn, natOf_by, Option.some.injEq, exists_eq_left', Prod.mk.injEq, and_assoc, exists_and_left, true_and, Nat.zero_add, Nat.add_zero, Nat.mul_one, ble_t, mul_nn, quo_nn, rem_nn, add_nn, sub_nn, lss_nn, eql_nn, neq_nn, xor_by, k0, k1, k2, k3, k4, k5, k6, k7, k8, k12, k13, k14, k15, k16, k32, k60, k254, k256]
  refine W.seq (W.region ?_)
  simp only [w_mov, w_ibin, w_load1, w_loadN, w_nilCheck, w_indexArr, w_indexSl, w_indexVal, w_indexStr, w_lenStr, w_lenSl, w_store, w_alloc, w_box, w_build, w_sliceArr, w_bytesToStr, w_pick, WOps_nil, thenQ_normal, eX_t, eX_c, put_s, put_n, getset, Nat.reduceEqDiff, if_false, if_true, Option.getD_some, rd, natOf_nn, natOf_by, Option.some.injEq, exists_eq_left', Prod.mk.injEq, and_assoc, exists_and_left, true_and, Nat.zero_add, Nat.add_zero, Nat.mul_one, ble_t, mul_nn, quo_nn, rem_nn, add_nn, sub_nn, lss_nn, eql_nn, neq_nn, xor_by, k0, k1, k2, k3, k4, k5, k6, k7, k8, k12, k13, k14, k15, k16, k32, k60, k254, k256, f0]
  refine WOps.call (g := 11) (first := []) (captured := []) rfl ?_
  simp only [List.map_nil, List.map_cons, List.nil_append, List.append_nil, eX_t, eX_c, put_s, put_n, getset, Nat.reduceEqDiff, if_false, if_true, Option.getD_some]
  refine brought_ok hT.funcs hT.none (by omega) ?_
  intro H1 hn1 hb1
  have l1 : (broughtP K 32).length = 32 := length_broughtP K 32
  generalize broughtP K 32 = K' at l1
  simp only [w_mov, w_ibin, w_load1, w_loadN, w_nilCheck, w_indexArr, w_indexSl, w_indexVal, w_indexStr, w_lenStr, w_lenSl, w_store, w_alloc, w_box, w_build, w_sliceArr, w_bytesToStr, w_pick, WOps_nil, thenQ_normal, eX_t, eX_c, put_s, put_n, getset, Nat.reduceEqDiff, if_false, if_true, Option.getD_some, rd, natOf_nn, natOf_by, Option.some.injEq, exists_eq_left', Prod.mk.injEq, and_assoc, exists_and_left, true_and, Nat.zero_add, Nat.add_zero, Nat.mul_one, ble_t, mul_nn, quo_nn, rem_nn, add_nn, sub_nn, lss_nn, eql_nn, neq_nn, xor_by, k0, k1, k2, k3, k4, k5, k6, k7, k8, k12, k13, k14, k15, k16, k32, k60, k254, k256]
  refine W.seq (W.region ?_)
  simp only [w_mov, w_ibin, w_load1, w_loadN, w_nilCheck, w_indexArr, w_indexSl, w_indexVal, w_indexStr, w_lenStr, w_lenSl, w_store, w_alloc, w_box, w_build, w_sliceArr, w_bytesToStr, w_pick, WOps_nil, thenQ_normal, eX_t, eX_c, put_s, put_n, getset, Nat.reduceEqDiff, if_false, if_true, Option.getD_some, rd, natOf_nn, natOf_by, Option.some.injEq, exists_eq_left', Prod.mk.injEq, and_assoc, exists_and_left, true_and, Nat.zero_add, Nat.add_zero, Nat.mul_one, ble_t, mul_nn, quo_nn, rem_nn, add_nn, sub_nn, lss_nn, eql_nn, neq_nn, xor_by, k0, k1, k2, k3, k4, k5, k6, k7, k8, k12, k13, k14, k15, k16, k32, k60, k254, k256, f1]
  refine WOps.call (g := 11) (first := []) (captured := []) rfl ?_
  simp only [List.map_nil, List.map_cons, List.nil_append, List.append_nil, eX_t, eX_c, put_s, put_n, getset, Nat.reduceEqDiff, if_false, if_true, Option.getD_some]
  refine brought_ok hT.funcs hT.none (by omega) ?_
  intro H2 hn2 hb2
  have l2 : (broughtP X 16).length = 16 := length_broughtP X 16
  generalize broughtP X 16 = X' at l2
  simp only [w_mov, w_ibin, w_load1, w_loadN, w_nilCheck, w_indexArr, w_indexSl, w_indexVal, w_indexStr, w_lenStr, w_lenSl, w_store, w_alloc, w_box, w_build, w_sliceArr, w_bytesToStr, w_pick, WOps_nil, thenQ_normal, eX_t, eX_c, put_s, put_n, getset, Nat.reduceEqDiff, if_false, if_true, Option.getD_some, rd, natOf_nn, natOf_by, Option.some.injEq, exists_eq_left', Prod.mk.injEq, and_assoc, exists_and_left, true_and, Nat.zero_add, Nat.add_zero, Nat.mul_one, ble_t, mul_nn, quo_nn, rem_nn, add_nn, sub_nn, lss_nn, eql_nn, neq_nn, xor_by, k0, k1, k2, k3, k4, k5, k6, k7, k8, k12, k13, k14, k15, k16, k32, k60, k254, k256]
  refine W.seq (W.region ?_)
  simp only [w_mov, w_ibin, w_load1, w_loadN, w_nilCheck, w_indexArr, w_indexSl, w_indexVal, w_indexStr, w_lenStr, w_lenSl, w_store, w_alloc, w_box, w_build, w_sliceArr, w_bytesToStr, w_pick, WOps_nil, thenQ_normal, eX_t, eX_c, put_s, put_n, getset, Nat.reduceEqDiff, if_false, if_true, Option.getD_some, rd, natOf_nn, natOf_by, Option.some.injEq, exists_eq_left', Prod.mk.injEq, and_assoc, exists_and_left, true_and, Nat.zero_add, Nat.add_zero, Nat.mul_one, ble_t, mul_nn, quo_nn, rem_nn, add_nn, sub_nn, lss_nn, eql_nn, neq_nn, xor_by, k0, k1, k2, k3, k4, k5, k6, k7, k8, k12, k13, k14, k15, k16, k32, k60, k254, k256, f2]
  refine WOps.call (g := 11) (first := []) (captured := []) rfl ?_
  simp only [List.map_nil, List.map_cons, List.nil_append, List.append_nil, eX_t, eX_c, put_s, put_n, getset, Nat.reduceEqDiff, if_false, if_true, Option.getD_some]
  refine brought_ok hT.funcs hT.none (by omega) ?_
  intro H3 hn3 hb3
  have l3 : (broughtP Y 16).length = 16 := length_broughtP Y 16
  generalize broughtP Y 16 = Y' at l3
  simp only [w_mov, w_ibin, w_load1, w_loadN, w_nilCheck, w_indexArr, w_indexSl, w_indexVal, w_indexStr, w_lenStr, w_lenSl, w_store, w_alloc, w_box, w_build, w_sliceArr, w_bytesToStr, w_pick, WOps_nil, thenQ_normal, eX_t, eX_c, put_s, put_n, getset, Nat.reduceEqDiff, if_false, if_true, Option.getD_some, rd, natOf_nn, natOf_by, Option.some.injEq, exists_eq_left', Prod.mk.injEq, and_assoc, exists_and_left, true_and, Nat.zero_add, Nat.add_zero, Nat.mul_one, ble_t, mul_nn, quo_nn, rem_nn, add_nn, sub_nn, lss_nn, eql_nn, neq_nn, xor_by, k0, k1, k2, k3, k4, k5, k6, k7, k8, k12, k13, k14, k15, k16, k32, k60, k254, k256]
  refine W.seq (W.region ?_)
  simp only [w_mov, w_ibin, w_load1, w_loadN, w_nilCheck, w_indexArr, w_indexSl, w_indexVal, w_indexStr, w_lenStr, w_lenSl, w_store, w_alloc, w_box, w_build, w_sliceArr, w_bytesToStr, w_pick, WOps_nil, thenQ_normal, eX_t, eX_c, put_s, put_n, getset, Nat.reduceEqDiff, if_false, if_true, Option.getD_some, rd, natOf_nn, natOf_by, Option.some.injEq, exists_eq_left', Prod.mk.injEq, and_assoc, exists_and_left, true_and, Nat.zero_add, Nat.add_zero, Nat.mul_one, ble_t, mul_nn, quo_nn, rem_nn, add_nn, sub_nn, lss_nn, eql_nn, neq_nn, xor_by, k0, k1, k2, k3, k4, k5, k6, k7, k8, k12, k13, k14, k15, k16, k32, k60, k254, k256]
  refine WOps.call (g := 8) (first := []) (captured := []) rfl ?_
  simp only [List.map_nil, List.map_cons, List.nil_append, List.append_nil, eX_t, eX_c, put_s, put_n, getset, Nat.reduceEqDiff, if_false, if_true, Option.getD_some]
  refine Block_ok hT.funcs hT.none ?_
  intro H4 hn4 hb4
  rw [blockP_full l1 l2]
  simp only [w_mov, w_ibin, w_load1, w_loadN, w_nilCheck, w_indexArr, w_indexSl, w_indexVal, w_indexStr, w_lenStr, w_lenSl, w_store, w_alloc, w_box, w_build, w_sliceArr, w_bytesToStr, w_pick, WOps_nil, thenQ_normal, eX_t, eX_c, put_s, put_n, getset, Nat.reduceEqDiff, if_false, if_true, Option.getD_some, rd, natOf_nn, natOf_by, Option.some.injEq, exists_eq_left', Prod.mk.injEq, and_assoc, exists_and_left, true_and, Nat.zero_add, Nat.add_zero, Nat.mul_one, ble_t, mul_nn, quo_nn, rem_nn, add_nn, sub_nn, lss_nn, eql_nn, neq_nn, xor_by, k0, k1, k2, k3, k4, k5, k6, k7, k8, k12, k13, k14, k15, k16, k32, k60, k254, k256, w_extract, List.getElem?_cons_zero, List.getElem?_cons_succ]
  refine W.seq (W.region ?_)
  simp only [w_mov, w_ibin, w_load1, w_loadN, w_nilCheck, w_indexArr, w_indexSl, w_indexVal, w_indexStr, w_lenStr, w_lenSl, w_store, w_alloc, w_box, w_build, w_sliceArr, w_bytesToStr, w_pick, WOps_nil, thenQ_normal, eX_t, eX_c, put_s, put_n, getset, Nat.reduceEqDiff, if_false, if_true, Option.getD_some, rd, natOf_nn, natOf_by, Option.some.injEq, exists_eq_left', Prod.mk.injEq, and_assoc, exists_and_left, true_and, Nat.zero_add, Nat.add_zero, Nat.mul_one, ble_t, mul_nn, quo_nn, rem_nn, add_nn, sub_nn, lss_nn, eql_nn, neq_nn, xor_by, k0, k1, k2, k3, k4, k5, k6, k7, k8, k12, k13, k14, k15, k16, k32, k60, k254, k256]
  refine WOps.call (g := 8) (first := []) (captured := []) rfl ?_
  simp only [List.map_nil, List.map_cons, List.nil_append, List.append_nil, eX_t, eX_c, put_s, put_n, getset, Nat.reduceEqDiff, if_false, if_true, Option.getD_some]
  refine Block_ok hT.funcs hT.none ?_
  intro H5 hn5 hb5
  rw [blockP_full l1 l3]
  simp only [w_mov, w_ibin, w_load1, w_loadN, w_nilCheck, w_indexArr, w_indexSl, w_indexVal, w_indexStr, w_lenStr, w_lenSl, w_store, w_alloc, w_box, w_build, w_sliceArr, w_bytesToStr, w_pick, WOps_nil, thenQ_normal, eX_t, eX_c, put_s, put_n, getset, Nat.reduceEqDiff, if_false, if_true, Option.getD_some, rd, natOf_nn, natOf_by, Option.some.injEq, exists_eq_left', Prod.mk.injEq, and_assoc, exists_and_left, true_and, Nat.zero_add, Nat.add_zero, Nat.mul_one, ble_t, mul_nn, quo_nn, rem_nn, add_nn, sub_nn, lss_nn, eql_nn, neq_nn, xor_by, k0, k1, k2, k3, k4, k5, k6, k7, k8, k12, k13, k14, k15, k16, k32, k60, k254, k256, w_extract, List.getElem?_cons_zero, List.getElem?_cons_succ]
  have hxy : (encP (keysP K') X' == encP (keysP K') Y') = (X' == Y') := by
    rw [Bool.eq_iff_iff, beq_iff_eq, beq_iff_eq]
    exact ⟨fun h => encP_inj l2 l3 h, fun h => by rw [h]⟩
  have hle := length_encP (C := keysP K') l2
  generalize encP (keysP K') X' = A at hxy hle
  generalize encP (keysP K') Y' = B at hxy
  refine W.seq (W.region ?_)
  simp only [w_mov, w_ibin, w_load1, w_loadN, w_nilCheck, w_indexArr, w_indexSl, w_indexVal, w_indexStr, w_lenStr, w_lenSl, w_store, w_alloc, w_box, w_build, w_sliceArr, w_bytesToStr, w_pick, WOps_nil, thenQ_normal, eX_t, eX_c, put_s, put_n, getset, Nat.reduceEqDiff, if_false, if_true, Option.getD_some, rd, natOf_nn, natOf_by, Option.some.injEq, exists_eq_left', Prod.mk.injEq, and_assoc, exists_and_left, true_and, Nat.zero_add, Nat.add_zero, Nat.mul_one, ble_t, mul_nn, quo_nn, rem_nn, add_nn, sub_nn, lss_nn, eql_nn, neq_nn, xor_by, k0, k1, k2, k3, k4, k5, k6, k7, k8, k12, k13, k14, k15, k16, k32, k60, k254, k256, decide_true]
  refine WOps_want ((wantedA_some (d := 31) (b := true) rfl (by simp only [eX_t, eX_c, put_s, put_n, getset, Nat.reduceEqDiff, if_false, if_true, Option.getD_some])).trans rfl) ?_
  simp only [w_mov, w_ibin, w_load1, w_loadN, w_nilCheck, w_indexArr, w_indexSl, w_indexVal, w_indexStr, w_lenStr, w_lenSl, w_store, w_alloc, w_box, w_build, w_sliceArr, w_bytesToStr, w_pick, WOps_nil, thenQ_normal, eX_t, eX_c, put_s, put_n, getset, Nat.reduceEqDiff, if_false, if_true, Option.getD_some, rd, natOf_nn, natOf_by, Option.some.injEq, exists_eq_left', Prod.mk.injEq, and_assoc, exists_and_left, true_and, Nat.zero_add, Nat.add_zero, Nat.mul_one, ble_t, mul_nn, quo_nn, rem_nn, add_nn, sub_nn, lss_nn, eql_nn, neq_nn, xor_by, k0, k1, k2, k3, k4, k5, k6, k7, k8, k12, k13, k14, k15, k16, k32, k60, k254, k256]
  refine WOps_want ((wantedA_some (d := 31) (b := true) rfl (by simp only [eX_t, eX_c, put_s, put_n, getset, Nat.reduceEqDiff, if_false, if_true, Option.getD_some])).trans rfl) ?_
  simp only [w_mov, w_ibin, w_load1, w_loadN, w_nilCheck, w_indexArr, w_indexSl, w_indexVal, w_indexStr, w_lenStr, w_lenSl, w_store, w_alloc, w_box, w_build, w_sliceArr, w_bytesToStr, w_pick, WOps_nil, thenQ_normal, eX_t, eX_c, put_s, put_n, getset, Nat.reduceEqDiff, if_false, if_true, Option.getD_some, rd, natOf_nn, natOf_by, Option.some.injEq, exists_eq_left', Prod.mk.injEq, and_assoc, exists_and_left, true_and, Nat.zero_add, Nat.add_zero, Nat.mul_one, ble_t, mul_nn, quo_nn, rem_nn, add_nn, sub_nn, lss_nn, eql_nn, neq_nn, xor_by, k0, k1, k2, k3, k4, k5, k6, k7, k8, k12, k13, k14, k15, k16, k32, k60, k254, k256, decide_true]
  refine WOps_want ((wantedA_some (d := 35) (b := true) rfl (by simp only [eX_t, eX_c, put_s, put_n, getset, Nat.reduceEqDiff, if_false, if_true, Option.getD_some, cond_true])).trans rfl) ?_
  simp only [w_mov, w_ibin, w_load1, w_loadN, w_nilCheck, w_indexArr, w_indexSl, w_indexVal, w_indexStr, w_lenStr, w_lenSl, w_store, w_alloc, w_box, w_build, w_sliceArr, w_bytesToStr, w_pick, WOps_nil, thenQ_normal, eX_t, eX_c, put_s, put_n, getset, Nat.reduceEqDiff, if_false, if_true, Option.getD_some, rd, natOf_nn, natOf_by, Option.some.injEq, exists_eq_left', Prod.mk.injEq, and_assoc, exists_and_left, true_and, Nat.zero_add, Nat.add_zero, Nat.mul_one, ble_t, mul_nn, quo_nn, rem_nn, add_nn, sub_nn, lss_nn, eql_nn, neq_nn, xor_by, k0, k1, k2, k3, k4, k5, k6, k7, k8, k12, k13, k14, k15, k16, k32, k60, k254, k256]
  refine WOps_want ((wantedA_some (d := 35) (b := true) rfl (by simp only [eX_t, eX_c, put_s, put_n, getset, Nat.reduceEqDiff, if_false, if_true, Option.getD_some, cond_true])).trans rfl) ?_
  simp only [w_mov, w_ibin, w_load1, w_loadN, w_nilCheck, w_indexArr, w_indexSl, w_indexVal, w_indexStr, w_lenStr, w_lenSl, w_store, w_alloc, w_box, w_build, w_sliceArr, w_bytesToStr, w_pick, WOps_nil, thenQ_normal, eX_t, eX_c, put_s, put_n, getset, Nat.reduceEqDiff, if_false, if_true, Option.getD_some, rd, natOf_nn, natOf_by, Option.some.injEq, exists_eq_left', Prod.mk.injEq, and_assoc, exists_and_left, true_and, Nat.zero_add, Nat.add_zero, Nat.mul_one, ble_t, mul_nn, quo_nn, rem_nn, add_nn, sub_nn, lss_nn, eql_nn, neq_nn, xor_by, k0, k1, k2, k3, k4, k5, k6, k7, k8, k12, k13, k14, k15, k16, k32, k60, k254, k256]
  refine WOps_want ((wantedA_some (d := 35) (b := true) rfl (by simp only [eX_t, eX_c, put_s, put_n, getset, Nat.reduceEqDiff, if_false, if_true, Option.getD_some, cond_true])).trans rfl) ?_
  simp only [w_mov, w_ibin, w_load1, w_loadN, w_nilCheck, w_indexArr, w_indexSl, w_indexVal, w_indexStr, w_lenStr, w_lenSl, w_store, w_alloc, w_box, w_build, w_sliceArr, w_bytesToStr, w_pick, WOps_nil, thenQ_normal, eX_t, eX_c, put_s, put_n, getset, Nat.reduceEqDiff, if_false, if_true, Option.getD_some, rd, natOf_nn, natOf_by, Option.some.injEq, exists_eq_left', Prod.mk.injEq, and_assoc, exists_and_left, true_and, Nat.zero_add, Nat.add_zero, Nat.mul_one, ble_t, mul_nn, quo_nn, rem_nn, add_nn, sub_nn, lss_nn, eql_nn, neq_nn, xor_by, k0, k1, k2, k3, k4, k5, k6, k7, k8, k12, k13, k14, k15, k16, k32, k60, k254, k256, w_sbin, sbin_eql]
  refine WOps_want ((wantedA_some (d := 35) (b := true) rfl (by simp only [eX_t, eX_c, put_s, put_n, getset, Nat.reduceEqDiff, if_false, if_true, Option.getD_some, cond_true])).trans rfl) ?_
  simp only [w_mov, w_ibin, w_load1, w_loadN, w_nilCheck, w_indexArr, w_indexSl, w_indexVal, w_indexStr, w_lenStr, w_lenSl, w_store, w_alloc, w_box, w_build, w_sliceArr, w_bytesToStr, w_pick, WOps_nil, thenQ_normal, eX_t, eX_c, put_s, put_n, getset, Nat.reduceEqDiff, if_false, if_true, Option.getD_some, rd, natOf_nn, natOf_by, Option.some.injEq, exists_eq_left', Prod.mk.injEq, and_assoc, exists_and_left, true_and, Nat.zero_add, Nat.add_zero, Nat.mul_one, ble_t, mul_nn, quo_nn, rem_nn, add_nn, sub_nn, lss_nn, eql_nn, neq_nn, xor_by, k0, k1, k2, k3, k4, k5, k6, k7, k8, k12, k13, k14, k15, k16, k32, k60, k254, k256]
  refine WOps_want ((wantedA_some (d := 35) (b := true) rfl (by simp only [eX_t, eX_c, put_s, put_n, getset, Nat.reduceEqDiff, if_false, if_true, Option.getD_some, cond_true])).trans rfl) ?_
  simp only [w_mov, w_ibin, w_load1, w_loadN, w_nilCheck, w_indexArr, w_indexSl, w_indexVal, w_indexStr, w_lenStr, w_lenSl, w_store, w_alloc, w_box, w_build, w_sliceArr, w_bytesToStr, w_pick, WOps_nil, thenQ_normal, eX_t, eX_c, put_s, put_n, getset, Nat.reduceEqDiff, if_false, if_true, Option.getD_some, rd, natOf_nn, natOf_by, Option.some.injEq, exists_eq_left', Prod.mk.injEq, and_assoc, exists_and_left, true_and, Nat.zero_add, Nat.add_zero, Nat.mul_one, ble_t, mul_nn, quo_nn, rem_nn, add_nn, sub_nn, lss_nn, eql_nn, neq_nn, xor_by, k0, k1, k2, k3, k4, k5, k6, k7, k8, k12, k13, k14, k15, k16, k32, k60, k254, k256]
  refine WOps_want ((wantedA_some (d := 35) (b := true) rfl (by simp only [eX_t, eX_c, put_s, put_n, getset, Nat.reduceEqDiff, if_false, if_true, Option.getD_some, cond_true])).trans rfl) ?_
  simp only [w_mov, w_ibin, w_load1, w_loadN, w_nilCheck, w_indexArr, w_indexSl, w_indexVal, w_indexStr, w_lenStr, w_lenSl, w_store, w_alloc, w_box, w_build, w_sliceArr, w_bytesToStr, w_pick, WOps_nil, thenQ_normal, eX_t, eX_c, put_s, put_n, getset, Nat.reduceEqDiff, if_false, if_true, Option.getD_some, rd, natOf_nn, natOf_by, Option.some.injEq, exists_eq_left', Prod.mk.injEq, and_assoc, exists_and_left, true_and, Nat.zero_add, Nat.add_zero, Nat.mul_one, ble_t, mul_nn, quo_nn, rem_nn, add_nn, sub_nn, lss_nn, eql_nn, neq_nn, xor_by, k0, k1, k2, k3, k4, k5, k6, k7, k8, k12, k13, k14, k15, k16, k32, k60, k254, k256, w_sbin, sbin_eql]
  refine WOps_want ((wantedA_some (d := 35) (b := true) rfl (by simp only [eX_t, eX_c, put_s, put_n, getset, Nat.reduceEqDiff, if_false, if_true, Option.getD_some, cond_true])).trans rfl) ?_
  rw [w_eqv]
  refine ⟨.bool true, by simp only [rd, eX_t, eX_c, put_s, put_n, getset, Nat.reduceEqDiff, if_false, if_true, Option.getD_some, eqv, hxy, beq_self_eq_true, cond_false], ?_⟩
  simp only [w_mov, w_ibin, w_load1, w_loadN, w_nilCheck, w_indexArr, w_indexSl, w_indexVal, w_indexStr, w_lenStr, w_lenSl, w_store, w_alloc, w_box, w_build, w_sliceArr, w_bytesToStr, w_pick, WOps_nil, thenQ_normal, eX_t, eX_c, put_s, put_n, getset, Nat.reduceEqDiff, if_false, if_true, Option.getD_some, rd, natOf_nn, natOf_by, Option.some.injEq, exists_eq_left', Prod.mk.injEq, and_assoc, exists_and_left, true_and, Nat.zero_add, Nat.add_zero, Nat.mul_one, ble_t, mul_nn, quo_nn, rem_nn, add_nn, sub_nn, lss_nn, eql_nn, neq_nn, xor_by, k0, k1, k2, k3, k4, k5, k6, k7, k8, k12, k13, k14, k15, k16, k32, k60, k254, k256, cond_true]
  refine WOps_want ((wantedA_some (d := 44) (b := true) rfl (by simp only [eX_t, eX_c, put_s, put_n, getset, Nat.reduceEqDiff, if_false, if_true, Option.getD_some, cond_true])).trans rfl) ?_
  simp only [w_mov, w_ibin, w_load1, w_loadN, w_nilCheck, w_indexArr, w_indexSl, w_indexVal, w_indexStr, w_lenStr, w_lenSl, w_store, w_alloc, w_box, w_build, w_sliceArr, w_bytesToStr, w_pick, WOps_nil, thenQ_normal, eX_t, eX_c, put_s, put_n, getset, Nat.reduceEqDiff, if_false, if_true, Option.getD_some, rd, natOf_nn, natOf_by, Option.some.injEq, exists_eq_left', Prod.mk.injEq, and_assoc, exists_and_left, true_and, Nat.zero_add, Nat.add_zero, Nat.mul_one, ble_t, mul_nn, quo_nn, rem_nn, add_nn, sub_nn, lss_nn, eql_nn, neq_nn, xor_by, k0, k1, k2, k3, k4, k5, k6, k7, k8, k12, k13, k14, k15, k16, k32, k60, k254, k256]
  refine WOps_want ((wantedA_some (d := 44) (b := true) rfl (by simp only [eX_t, eX_c, put_s, put_n, getset, Nat.reduceEqDiff, if_false, if_true, Option.getD_some, cond_true])).trans rfl) ?_
  simp only [w_mov, w_ibin, w_load1, w_loadN, w_nilCheck, w_indexArr, w_indexSl, w_indexVal, w_indexStr, w_lenStr, w_lenSl, w_store, w_alloc, w_box, w_build, w_sliceArr, w_bytesToStr, w_pick, WOps_nil, thenQ_normal, eX_t, eX_c, put_s, put_n, getset, Nat.reduceEqDiff, if_false, if_true, Option.getD_some, rd, natOf_nn, natOf_by, Option.some.injEq, exists_eq_left', Prod.mk.injEq, and_assoc, exists_and_left, true_and, Nat.zero_add, Nat.add_zero, Nat.mul_one, ble_t, mul_nn, quo_nn, rem_nn, add_nn, sub_nn, lss_nn, eql_nn, neq_nn, xor_by, k0, k1, k2, k3, k4, k5, k6, k7, k8, k12, k13, k14, k15, k16, k32, k60, k254, k256, hle]
  refine WOps_want ((wantedA_some (d := 44) (b := true) rfl (by simp only [eX_t, eX_c, put_s, put_n, getset, Nat.reduceEqDiff, if_false, if_true, Option.getD_some, cond_true])).trans rfl) ?_
  rw [show ∀ n : Nat, AV.int .i64 (.ofNat n) = nn n from fun _ => rfl]
  simp only [w_mov, w_ibin, w_load1, w_loadN, w_nilCheck, w_indexArr, w_indexSl, w_indexVal, w_indexStr, w_lenStr, w_lenSl, w_store, w_alloc, w_box, w_build, w_sliceArr, w_bytesToStr, w_pick, WOps_nil, thenQ_normal, eX_t, eX_c, put_s, put_n, getset, Nat.reduceEqDiff, if_false, if_true, Option.getD_some, rd, natOf_nn, natOf_by, Option.some.injEq, exists_eq_left', Prod.mk.injEq, and_assoc, exists_and_left, true_and, Nat.zero_add, Nat.add_zero, Nat.mul_one, ble_t, mul_nn, quo_nn, rem_nn, add_nn, sub_nn, lss_nn, eql_nn, neq_nn, xor_by, k0, k1, k2, k3, k4, k5, k6, k7, k8, k12, k13, k14, k15, k16, k32, k60, k254, k256, decide_true, cond_true]
  refine WOps_want ((wantedA_some (d := 49) (b := true) rfl (by simp only [eX_t, eX_c, put_s, put_n, getset, Nat.reduceEqDiff, if_false, if_true, Option.getD_some, cond_true])).trans rfl) ?_
  refine WOps.call (g := 10) (first := []) (captured := []) rfl ?_
  simp only [List.map_nil, List.map_cons, List.nil_append, List.append_nil, eX_t, eX_c, put_s, put_n, getset, Nat.reduceEqDiff, if_false, if_true, Option.getD_some]
  refine works_ok hT ?_
  intro H6 hn6 hb6
  simp only [w_mov, w_ibin, w_load1, w_loadN, w_nilCheck, w_indexArr, w_indexSl, w_indexVal, w_indexStr, w_lenStr, w_lenSl, w_store, w_alloc, w_box, w_build, w_sliceArr, w_bytesToStr, w_pick, WOps_nil, thenQ_normal, eX_t, eX_c, put_s, put_n, getset, Nat.reduceEqDiff, if_false, if_true, Option.getD_some, rd, natOf_nn, natOf_by, Option.some.injEq, exists_eq_left', Prod.mk.injEq, and_assoc, exists_and_left, true_and, Nat.zero_add, Nat.add_zero, Nat.mul_one, ble_t, mul_nn, quo_nn, rem_nn, add_nn, sub_nn, lss_nn, eql_nn, neq_nn, xor_by, k0, k1, k2, k3, k4, k5, k6, k7, k8, k12, k13, k14, k15, k16, k32, k60, k254, k256, cond_true]
  refine W.ret ⟨.inr rfl, ?_⟩
  simp only [resultsOf, resOf, eX_t, eX_c, put_s, put_n, getset, Nat.reduceEqDiff, if_false, if_true, Option.getD_some, Option.some.injEq, exists_eq_left', oneOf]
  exact hQ _ (by omega) fun j hj => by rw [hb6 _ (by omega), hb5 _ (by omega), hb4 _ (by omega), hb3 _ (by omega), hb2 _ (by omega), hb1 _ hj]
end Go.AE
end
-- The law AesStreams run on the machine.
section
set_option linter.unusedVariables false
set_option linter.unusedSimpArgs false
set_option maxRecDepth 100000
set_option maxHeartbeats 1000000
namespace Go.AE
variable {E : Env}
attribute [local irreducible] keysP encP blockP ctrP

theorem AesStreams_run (hT : Told E) {H : Heap} {K N Tx : List UInt8} {Q : AV → Heap → Prop}
    (hQ : ∀ H', H.next ≤ H'.next → (∀ j, j < H.next → H'.t.get j = H.t.get j) → Q (.bool true) H') : WCall E 5 [.str K, .str N, .str Tx] H Q := by
  refine WCall.func (hT.none 5 _ _ (by decide)) ((hT.funcs 5).trans rfl) ?_
  have f0 : (frameOf [.str K, .str N, .str Tx] 0 .nil).get 0 = some (.str K) := rfl
  have f1 : (frameOf [.str K, .str N, .str Tx] 0 .nil).get 1 = some (.str N) := rfl
  have f2 : (frameOf [.str K, .str N, .str Tx] 0 .nil).get 2 = some (.str Tx) := rfl
  generalize frameOf [.str K, .str N, .str Tx] 0 .nil = a at f0 f1 f2
  have e32 : ∀ n : Nat, AV.int .i64 (.ofNat n) = nn n := fun _ => rfl
  refine W.seq (W.region ?_)
  simp only [w_mov, w_ibin, w_load1, w_loadN, w_nilCheck, w_indexArr, w_indexSl, w_indexVal, w_indexStr, w_lenStr, w_lenSl, w_store, w_alloc, w_box, w_build, w_sliceArr, w_bytesToStr, w_pick, WOps_nil, thenQ_normal, eX_t, eX_c, put_s, put_n, getset, Nat.reduceEqDiff, if_false, if_true, Option.getD_some, rd, natOf_nn, natOf_by, Option.some.injEq, exists_eq_left', Prod.mk.injEq, and_assoc, exists_and_left, true_and, Nat.zero_add, Nat.add_zero, Nat.mul_one, ble_t, mul_nn, quo_nn, rem_nn, add_nn, sub_nn, lss_nn, eql_nn, neq_nn, xor_by, k0, k1, k2, k3, k4, k5, k6, k7, k8, k12, k13, k14, k15, k16, k32, k60, k254, k256]
  refine W.seq (W.region ?_)
  simp only [w_mov, w_ibin, w_load1, w_loadN, w_nilCheck, w_indexArr, w_indexSl, w_indexVal, w_indexStr, w_lenStr, w_lenSl, w_store, w_alloc, w_box, w_build, w_sliceArr, w_bytesToStr, w_pick, WOps_nil, thenQ_normal, eX_t, eX_c, put_s, put_n, getset, Nat.reduceEqDiff, if_false, if_true, Option.getD_some, rd, natOf_nn, natOf_by, Option.some.injEq, exists_eq_left', Prod.mk.injEq, and_assoc, exists_and_left, true_and, Nat.zero_add, Nat.add_zero, Nat.mul_one, ble_t, mul_nn, quo_nn, rem_nn, add_nn, sub_nn, lss_nn, eql_nn, neq_nn, xor_by, k0, k1, k2, k3, k4, k5, k6, k7, k8, k12, k13, k14, k15, k16, k32, k60, k254, k256, w_minI, f2, e32, kA, List.map_cons, List.map_nil, min_nn]
  rw [w_sliceStr]
  refine ⟨.str (Tx.take (min Tx.length 1000)), ?_, ?_⟩
  · simp only [rd, eX_t, eX_c, put_s, put_n, getset, Nat.reduceEqDiff, if_false, if_true, Option.getD_some]
    rw [bounds_hi (h := min Tx.length 1000) (by simp only [eX_t, eX_c, put_s, put_n, getset, Nat.reduceEqDiff, if_false, if_true, Option.getD_some]) (by omega)]
    rfl
  generalize Tx.take (min Tx.length 1000) = Tt
  simp only [w_mov, w_ibin, w_load1, w_loadN, w_nilCheck, w_indexArr, w_indexSl, w_indexVal, w_indexStr, w_lenStr, w_lenSl, w_store, w_alloc, w_box, w_build, w_sliceArr, w_bytesToStr, w_pick, WOps_nil, thenQ_normal, eX_t, eX_c, put_s, put_n, getset, Nat.reduceEqDiff, if_false, if_true, Option.getD_some, rd, natOf_nn, natOf_by, Option.some.injEq, exists_eq_left', Prod.mk.injEq, and_assoc, exists_and_left, true_and, Nat.zero_add, Nat.add_zero, Nat.mul_one, ble_t, mul_nn, quo_nn, rem_nn, add_nn, sub_nn, lss_nn, eql_nn, neq_nn, xor_by, k0, k1, k2, k3, k4, k5, k6, k7, k8, k12, k13, k14, k15, k16, k32, k60, k254, k256]
  refine W.seq (W.region ?_)
  simp only [w_mov, w_ibin, w_load1, w_loadN, w_nilCheck, w_indexArr, w_indexSl, w_indexVal, w_indexStr, w_lenStr, w_lenSl, w_store, w_alloc, w_box, w_build, w_sliceArr, w_bytesToStr, w_pick, WOps_nil, thenQ_normal, eX_t, eX_c, put_s, put_n, getset, Nat.reduceEqDiff, if_false, if_true, Option.getD_some, rd, natOf_nn, natOf_by, Option.some.injEq, exists_eq_left', Prod.mk.injEq, and_assoc, exists_and_left, true_and, Nat.zero_add, Nat.add_zero, Nat.mul_one, ble_t, mul_nn, quo_nn, rem_nn, add_nn, sub_nn, lss_nn, eql_nn, neq_nn, xor_by, k0, k1, k2, k3, k4, k5, k6, k7, k8, k12, k13, k14, k15, k16, k32, k60, k254, k256, f0, f1]
  refine WOps.call (g := 12) (first := []) (captured := []) rfl ?_
  simp only [List.map_nil, List.map_cons, List.nil_append, List.append_nil, eX_t, eX_c, put_s, put_n, getset, Nat.reduceEqDiff, if_false, if_true, Option.getD_some]
  refine Ctr_ok hT.funcs hT.none ?_
  intro H1 hn1 hb1
  simp only [w_mov, w_ibin, w_load1, w_loadN, w_nilCheck, w_indexArr, w_indexSl, w_indexVal, w_indexStr, w_lenStr, w_lenSl, w_store, w_alloc, w_box, w_build, w_sliceArr, w_bytesToStr, w_pick, WOps_nil, thenQ_normal, eX_t, eX_c, put_s, put_n, getset, Nat.reduceEqDiff, if_false, if_true, Option.getD_some, rd, natOf_nn, natOf_by, Option.some.injEq, exists_eq_left', Prod.mk.injEq, and_assoc, exists_and_left, true_and, Nat.zero_add, Nat.add_zero, Nat.mul_one, ble_t, mul_nn, quo_nn, rem_nn, add_nn, sub_nn, lss_nn, eql_nn, neq_nn, xor_by, k0, k1, k2, k3, k4, k5, k6, k7, k8, k12, k13, k14, k15, k16, k32, k60, k254, k256, w_extract, List.getElem?_cons_zero, List.getElem?_cons_succ]
  refine W.seq (W.region ?_)
  simp only [w_mov, w_ibin, w_load1, w_loadN, w_nilCheck, w_indexArr, w_indexSl, w_indexVal, w_indexStr, w_lenStr, w_lenSl, w_store, w_alloc, w_box, w_build, w_sliceArr, w_bytesToStr, w_pick, WOps_nil, thenQ_normal, eX_t, eX_c, put_s, put_n, getset, Nat.reduceEqDiff, if_false, if_true, Option.getD_some, rd, natOf_nn, natOf_by, Option.some.injEq, exists_eq_left', Prod.mk.injEq, and_assoc, exists_and_left, true_and, Nat.zero_add, Nat.add_zero, Nat.mul_one, ble_t, mul_nn, quo_nn, rem_nn, add_nn, sub_nn, lss_nn, eql_nn, neq_nn, xor_by, k0, k1, k2, k3, k4, k5, k6, k7, k8, k12, k13, k14, k15, k16, k32, k60, k254, k256, f0, f1]
  refine WOps.call (g := 13) (first := []) (captured := []) rfl ?_
  simp only [List.map_nil, List.map_cons, List.nil_append, List.append_nil, eX_t, eX_c, put_s, put_n, getset, Nat.reduceEqDiff, if_false, if_true, Option.getD_some]
  refine rCtr_ok hT.funcs hT.none ?_
  intro H2 hn2 hb2
  generalize ctrP K N Tt = bp
  simp only [w_mov, w_ibin, w_load1, w_loadN, w_nilCheck, w_indexArr, w_indexSl, w_indexVal, w_indexStr, w_lenStr, w_lenSl, w_store, w_alloc, w_box, w_build, w_sliceArr, w_bytesToStr, w_pick, WOps_nil, thenQ_normal, eX_t, eX_c, put_s, put_n, getset, Nat.reduceEqDiff, if_false, if_true, Option.getD_some, rd, natOf_nn, natOf_by, Option.some.injEq, exists_eq_left', Prod.mk.injEq, and_assoc, exists_and_left, true_and, Nat.zero_add, Nat.add_zero, Nat.mul_one, ble_t, mul_nn, quo_nn, rem_nn, add_nn, sub_nn, lss_nn, eql_nn, neq_nn, xor_by, k0, k1, k2, k3, k4, k5, k6, k7, k8, k12, k13, k14, k15, k16, k32, k60, k254, k256, w_extract, List.getElem?_cons_zero, List.getElem?_cons_succ]
  refine W.seq (W.region ?_)
  simp only [w_mov, w_ibin, w_load1, w_loadN, w_nilCheck, w_indexArr, w_indexSl, w_indexVal, w_indexStr, w_lenStr, w_lenSl, w_store, w_alloc, w_box, w_build, w_sliceArr, w_bytesToStr, w_pick, WOps_nil, thenQ_normal, eX_t, eX_c, put_s, put_n, getset, Nat.reduceEqDiff, if_false, if_true, Option.getD_some, rd, natOf_nn, natOf_by, Option.some.injEq, exists_eq_left', Prod.mk.injEq, and_assoc, exists_and_left, true_and, Nat.zero_add, Nat.add_zero, Nat.mul_one, ble_t, mul_nn, quo_nn, rem_nn, add_nn, sub_nn, lss_nn, eql_nn, neq_nn, xor_by, k0, k1, k2, k3, k4, k5, k6, k7, k8, k12, k13, k14, k15, k16, k32, k60, k254, k256, w_sbin, sbin_eql, beq_self_eq_true]
  refine WOps_want ((wantedA_some (d := 33) (b := true) rfl (by simp only [eX_t, eX_c, put_s, put_n, getset, Nat.reduceEqDiff, if_false, if_true, Option.getD_some])).trans rfl) ?_
  simp only [w_mov, w_ibin, w_load1, w_loadN, w_nilCheck, w_indexArr, w_indexSl, w_indexVal, w_indexStr, w_lenStr, w_lenSl, w_store, w_alloc, w_box, w_build, w_sliceArr, w_bytesToStr, w_pick, WOps_nil, thenQ_normal, eX_t, eX_c, put_s, put_n, getset, Nat.reduceEqDiff, if_false, if_true, Option.getD_some, rd, natOf_nn, natOf_by, Option.some.injEq, exists_eq_left', Prod.mk.injEq, and_assoc, exists_and_left, true_and, Nat.zero_add, Nat.add_zero, Nat.mul_one, ble_t, mul_nn, quo_nn, rem_nn, add_nn, sub_nn, lss_nn, eql_nn, neq_nn, xor_by, k0, k1, k2, k3, k4, k5, k6, k7, k8, k12, k13, k14, k15, k16, k32, k60, k254, k256]
  refine WOps_want ((wantedA_some (d := 33) (b := true) rfl (by simp only [eX_t, eX_c, put_s, put_n, getset, Nat.reduceEqDiff, if_false, if_true, Option.getD_some])).trans rfl) ?_
  simp only [w_mov, w_ibin, w_load1, w_loadN, w_nilCheck, w_indexArr, w_indexSl, w_indexVal, w_indexStr, w_lenStr, w_lenSl, w_store, w_alloc, w_box, w_build, w_sliceArr, w_bytesToStr, w_pick, WOps_nil, thenQ_normal, eX_t, eX_c, put_s, put_n, getset, Nat.reduceEqDiff, if_false, if_true, Option.getD_some, rd, natOf_nn, natOf_by, Option.some.injEq, exists_eq_left', Prod.mk.injEq, and_assoc, exists_and_left, true_and, Nat.zero_add, Nat.add_zero, Nat.mul_one, ble_t, mul_nn, quo_nn, rem_nn, add_nn, sub_nn, lss_nn, eql_nn, neq_nn, xor_by, k0, k1, k2, k3, k4, k5, k6, k7, k8, k12, k13, k14, k15, k16, k32, k60, k254, k256]
  refine WOps_want ((wantedA_some (d := 33) (b := true) rfl (by simp only [eX_t, eX_c, put_s, put_n, getset, Nat.reduceEqDiff, if_false, if_true, Option.getD_some])).trans rfl) ?_
  simp only [w_mov, w_ibin, w_load1, w_loadN, w_nilCheck, w_indexArr, w_indexSl, w_indexVal, w_indexStr, w_lenStr, w_lenSl, w_store, w_alloc, w_box, w_build, w_sliceArr, w_bytesToStr, w_pick, WOps_nil, thenQ_normal, eX_t, eX_c, put_s, put_n, getset, Nat.reduceEqDiff, if_false, if_true, Option.getD_some, rd, natOf_nn, natOf_by, Option.some.injEq, exists_eq_left', Prod.mk.injEq, and_assoc, exists_and_left, true_and, Nat.zero_add, Nat.add_zero, Nat.mul_one, ble_t, mul_nn, quo_nn, rem_nn, add_nn, sub_nn, lss_nn, eql_nn, neq_nn, xor_by, k0, k1, k2, k3, k4, k5, k6, k7, k8, k12, k13, k14, k15, k16, k32, k60, k254, k256, decide_true, cond_true]
  refine WOps_want ((wantedA_some (d := 38) (b := true) rfl (by simp only [eX_t, eX_c, put_s, put_n, getset, Nat.reduceEqDiff, if_false, if_true, Option.getD_some, cond_true])).trans rfl) ?_
  refine WOps.call (g := 10) (first := []) (captured := []) rfl ?_
  simp only [List.map_nil, List.map_cons, List.nil_append, List.append_nil, eX_t, eX_c, put_s, put_n, getset, Nat.reduceEqDiff, if_false, if_true, Option.getD_some]
  refine works_ok hT ?_
  intro H3 hn3 hb3
  simp only [w_mov, w_ibin, w_load1, w_loadN, w_nilCheck, w_indexArr, w_indexSl, w_indexVal, w_indexStr, w_lenStr, w_lenSl, w_store, w_alloc, w_box, w_build, w_sliceArr, w_bytesToStr, w_pick, WOps_nil, thenQ_normal, eX_t, eX_c, put_s, put_n, getset, Nat.reduceEqDiff, if_false, if_true, Option.getD_some, rd, natOf_nn, natOf_by, Option.some.injEq, exists_eq_left', Prod.mk.injEq, and_assoc, exists_and_left, true_and, Nat.zero_add, Nat.add_zero, Nat.mul_one, ble_t, mul_nn, quo_nn, rem_nn, add_nn, sub_nn, lss_nn, eql_nn, neq_nn, xor_by, k0, k1, k2, k3, k4, k5, k6, k7, k8, k12, k13, k14, k15, k16, k32, k60, k254, k256, cond_true]
  refine W.ret ⟨.inr rfl, ?_⟩
  simp only [resultsOf, resOf, eX_t, eX_c, put_s, put_n, getset, Nat.reduceEqDiff, if_false, if_true, Option.getD_some, Option.some.injEq, exists_eq_left', oneOf]
  exact hQ _ (by omega) fun j hj => by rw [hb3 _ (by omega), hb2 _ (by omega), hb1 _ hj]
end Go.AE
end
-- The law AesBack run on the machine: the loops.
section
set_option linter.unusedVariables false
set_option linter.unusedSimpArgs false
set_option maxRecDepth 100000
set_option maxHeartbeats 1000000
namespace Go.AE
variable {E : Env}
attribute [local irreducible] keysP encP blockP ctrP stP xsP

theorem ctrP_full {K N Tx : List UInt8} (hK : K.length = 32) (hN : N.length = 12) (hT : Tx.length ≤ 1048576) : ctrP K N Tx = (xsP (keysP K) N Tx ((Tx.length + 15) / 16), 0) := by
  unfold ctrP
  simp only [hK, hN, ne_eq, not_true_eq_false, if_false]
  rw [if_neg (by omega)]

theorem xs_xs (C N Tx : List UInt8) : xsP C N (xsP C N Tx ((Tx.length + 15) / 16)) ((Tx.length + 15) / 16) = Tx := by
  refine getD_ext (by rw [length_xsP, length_xsP]) fun j hj => ?_
  rw [length_xsP, length_xsP] at hj
  rw [xsP_getD _ _ _ _ (by rw [length_xsP]; omega) _ (by rw [length_xsP]; exact hj), if_pos (by omega), xsP_getD _ _ _ _ (by omega) _ hj, if_pos (by omega), UInt8.xor_assoc, UInt8.xor_self, UInt8.xor_zero]

theorem getD_take {l : List UInt8} {n j : Nat} (h : j < n) : (l.take n).getD j 0 = l.getD j 0 := by
  rw [List.getD_eq_getElem?_getD, List.getD_eq_getElem?_getD, List.getElem?_take, if_pos h]

theorem xs_take (C N Tx : List UInt8) {c : Nat} (hc : c ≤ Tx.length) : xsP C N (Tx.take c) ((c + 15) / 16) = (xsP C N Tx ((Tx.length + 15) / 16)).take c := by
  have hl : (Tx.take c).length = c := by rw [List.length_take]; omega
  refine getD_ext (by rw [length_xsP, hl, List.length_take, length_xsP]; omega) fun j hj => ?_
  rw [length_xsP, hl] at hj
  rw [xsP_getD _ _ _ _ (by rw [hl]; omega) _ (by rw [hl]; exact hj), if_pos (by omega), getD_take hj, getD_take hj, xsP_getD _ _ _ _ (by omega) _ (by omega), if_pos (by omega)]

theorem xs_byte (C N Tx : List UInt8) {i k : Nat} (hk : 16 * i + k < Tx.length) (h : k < 16) : (xsP C N Tx ((Tx.length + 15) / 16)).getD (16 * i + k) 0 = Tx.getD (16 * i + k) 0 ^^^ (stP C N i).getD k 0 := by
  rw [xsP_getD _ _ _ _ (by omega) _ hk, if_pos (by omega), show (16 * i + k) / 16 = i by omega, show (16 * i + k) % 16 = k by omega]

theorem neq_by (a : UInt8) : ibin .neq (by' a) (by' a) = some (.bool false) := by
  simp only [by', ibin, kindEq, cond_true]
  have : ieq (Int.ofNat a.toNat) (Int.ofNat a.toNat) = true := Nat.beq_refl _
  rw [this]; rfl

def bkDraw : ADraw := (ADraw.mk [(AOper.mk (some 134) (.mov (.tmp 8)) none), (AOper.mk (some 135) (.mov (.tmp 18)) none), (AOper.mk (some 136) (.indexStr (.tmp 134) (.tmp 135)) none), (AOper.mk (some 137) (.mov (.tmp 1)) none), (AOper.mk (some 138) (.mov (.tmp 18)) none), (AOper.mk (some 139) (.indexStr (.tmp 137) (.tmp 138)) none), (AOper.mk (some 140) (.mov (.tmp 16)) none), (AOper.mk (some 141) (.mov (.tmp 18)) none), (AOper.mk (some 142) (.ibin .rem (.tmp 141) (.const (.int .i64 16))) none), (AOper.mk (some 143) (.indexStr (.tmp 140) (.tmp 142)) none), (AOper.mk (some 144) (.ibin .xor (.tmp 139) (.tmp 143)) none), (AOper.mk (some 145) (.ibin .neq (.tmp 136) (.tmp 144)) none)] [0, 1, 2, 3, 4, 5, 6, 7, 8, 9, 10, 11] [0, 0, 3, 0, 0, 24, 0, 0, 128, 448, 1016, 2047] [(0, 0), (0, 0), (0, 0), (0, 0), (0, 0), (0, 0), (0, 0), (0, 0), (0, 0), (0, 0), (0, 0), (0, 0)] false)
def bkLoop2 : ACode := (.block 2 (.loop (.seq (.seq (.region [(AOper.mk (some 121) (.mov (.tmp 18)) none), (AOper.mk (some 122) (.mov (.tmp 15)) none), (AOper.mk (some 123) (.ibin .mul (.const (.int .i64 16)) (.tmp 122)) none), (AOper.mk (some 124) (.ibin .add (.tmp 123) (.const (.int .i64 16))) none), (AOper.mk (some 125) (.ibin .lss (.tmp 121) (.tmp 124)) none), (AOper.mk (some 126) (.mov (.tmp 125)) none), (AOper.mk (some 127) (.mov (.tmp 18)) (some (5, true))), (AOper.mk (some 128) (.mov (.tmp 1)) (some (5, true))), (AOper.mk (some 129) (.lenStr (.tmp 128)) (some (5, true))), (AOper.mk (some 130) (.ibin .lss (.tmp 127) (.tmp 129)) (some (5, true))), (AOper.mk (some 131) (.pick (.tmp 126) (.tmp 130) (.const (.bool false))) none)]) (.cond (.tmp 131) .skip (.exit 2))) (.seq (.block 3 (.seq (.draw (ADraw.mk [(AOper.mk (some 134) (.mov (.tmp 8)) none), (AOper.mk (some 135) (.mov (.tmp 18)) none), (AOper.mk (some 136) (.indexStr (.tmp 134) (.tmp 135)) none), (AOper.mk (some 137) (.mov (.tmp 1)) none), (AOper.mk (some 138) (.mov (.tmp 18)) none), (AOper.mk (some 139) (.indexStr (.tmp 137) (.tmp 138)) none), (AOper.mk (some 140) (.mov (.tmp 16)) none), (AOper.mk (some 141) (.mov (.tmp 18)) none), (AOper.mk (some 142) (.ibin .rem (.tmp 141) (.const (.int .i64 16))) none), (AOper.mk (some 143) (.indexStr (.tmp 140) (.tmp 142)) none), (AOper.mk (some 144) (.ibin .xor (.tmp 139) (.tmp 143)) none), (AOper.mk (some 145) (.ibin .neq (.tmp 136) (.tmp 144)) none)] [0, 1, 2, 3, 4, 5, 6, 7, 8, 9, 10, 11] [0, 0, 3, 0, 0, 24, 0, 0, 128, 448, 1016, 2047] [(0, 0), (0, 0), (0, 0), (0, 0), (0, 0), (0, 0), (0, 0), (0, 0), (0, 0), (0, 0), (0, 0), (0, 0)] false)) (.cond (.tmp 145) (.seq (.region [(AOper.mk (some 6) (.mov (.const (.bool false))) none)]) .ret) .skip))) (.region [(AOper.mk (some 132) (.mov (.tmp 18)) none), (AOper.mk (some 133) (.ibin .add (.tmp 132) (.const (.int .i64 1))) none), (AOper.mk (some 18) (.mov (.tmp 133)) none)])))))
def bkMain : ACode := (.block 0 (.loop (.seq (.seq (.region [(AOper.mk (some 92) (.mov (.tmp 15)) none), (AOper.mk (some 93) (.ibin .mul (.const (.int .i64 16)) (.tmp 92)) none), (AOper.mk (some 94) (.mov (.tmp 1)) none), (AOper.mk (some 95) (.lenStr (.tmp 94)) none), (AOper.mk (some 96) (.ibin .lss (.tmp 93) (.tmp 95)) none)]) (.cond (.tmp 96) .skip (.exit 0))) (.seq (.block 1 (.seq (.region [(AOper.mk (some 104) (.mov (.tmp 0)) none), (AOper.mk (some 105) (.mov (.tmp 7)) none), (AOper.mk (some 106) (.mov (.tmp 15)) none), (AOper.mk (some 107) (.convInt .u64 (.tmp 106)) none), (AOper.mk (some 108) (.call (.const (.func (.func 16) [] [])) [(.tmp 105), (.const (.int .i64 4)), (.tmp 107)]) none), (AOper.mk (some 109) (.call (.const (.func (.func 8) [] [])) [(.tmp 104), (.tmp 108)]) none), (AOper.mk (some 103) (.mov (.tmp 109)) none), (AOper.mk (some 110) (.extract 0 (.tmp 103)) none), (AOper.mk (some 111) (.extract 1 (.tmp 103)) none), (AOper.mk (some 16) (.mov (.tmp 110)) none), (AOper.mk (some 17) (.mov (.tmp 111)) none)]) (.seq (.seq (.region [(AOper.mk (some 112) (.mov (.tmp 17)) none), (AOper.mk (some 113) (.ibin .neq (.tmp 112) (.const (.int .i64 0))) none), (AOper.mk (some 114) (.mov (.tmp 113)) none), (AOper.mk (some 115) (.mov (.tmp 16)) (some (2, false))), (AOper.mk (some 116) (.lenStr (.tmp 115)) (some (2, false))), (AOper.mk (some 117) (.ibin .neq (.tmp 116) (.const (.int .i64 16))) (some (2, false))), (AOper.mk (some 118) (.pick (.tmp 114) (.const (.bool true)) (.tmp 117)) none)]) (.cond (.tmp 118) (.seq (.region [(AOper.mk (some 6) (.mov (.const (.bool false))) none)]) .ret) .skip)) (.seq (.region [(AOper.mk (some 119) (.mov (.tmp 15)) none), (AOper.mk (some 120) (.ibin .mul (.const (.int .i64 16)) (.tmp 119)) none), (AOper.mk (some 18) (.mov (.tmp 120)) none)]) (.block 2 (.loop (.seq (.seq (.region [(AOper.mk (some 121) (.mov (.tmp 18)) none), (AOper.mk (some 122) (.mov (.tmp 15)) none), (AOper.mk (some 123) (.ibin .mul (.const (.int .i64 16)) (.tmp 122)) none), (AOper.mk (some 124) (.ibin .add (.tmp 123) (.const (.int .i64 16))) none), (AOper.mk (some 125) (.ibin .lss (.tmp 121) (.tmp 124)) none), (AOper.mk (some 126) (.mov (.tmp 125)) none), (AOper.mk (some 127) (.mov (.tmp 18)) (some (5, true))), (AOper.mk (some 128) (.mov (.tmp 1)) (some (5, true))), (AOper.mk (some 129) (.lenStr (.tmp 128)) (some (5, true))), (AOper.mk (some 130) (.ibin .lss (.tmp 127) (.tmp 129)) (some (5, true))), (AOper.mk (some 131) (.pick (.tmp 126) (.tmp 130) (.const (.bool false))) none)]) (.cond (.tmp 131) .skip (.exit 2))) (.seq (.block 3 (.seq (.draw (ADraw.mk [(AOper.mk (some 134) (.mov (.tmp 8)) none), (AOper.mk (some 135) (.mov (.tmp 18)) none), (AOper.mk (some 136) (.indexStr (.tmp 134) (.tmp 135)) none), (AOper.mk (some 137) (.mov (.tmp 1)) none), (AOper.mk (some 138) (.mov (.tmp 18)) none), (AOper.mk (some 139) (.indexStr (.tmp 137) (.tmp 138)) none), (AOper.mk (some 140) (.mov (.tmp 16)) none), (AOper.mk (some 141) (.mov (.tmp 18)) none), (AOper.mk (some 142) (.ibin .rem (.tmp 141) (.const (.int .i64 16))) none), (AOper.mk (some 143) (.indexStr (.tmp 140) (.tmp 142)) none), (AOper.mk (some 144) (.ibin .xor (.tmp 139) (.tmp 143)) none), (AOper.mk (some 145) (.ibin .neq (.tmp 136) (.tmp 144)) none)] [0, 1, 2, 3, 4, 5, 6, 7, 8, 9, 10, 11] [0, 0, 3, 0, 0, 24, 0, 0, 128, 448, 1016, 2047] [(0, 0), (0, 0), (0, 0), (0, 0), (0, 0), (0, 0), (0, 0), (0, 0), (0, 0), (0, 0), (0, 0), (0, 0)] false)) (.cond (.tmp 145) (.seq (.region [(AOper.mk (some 6) (.mov (.const (.bool false))) none)]) .ret) .skip))) (.region [(AOper.mk (some 132) (.mov (.tmp 18)) none), (AOper.mk (some 133) (.ibin .add (.tmp 132) (.const (.int .i64 1))) none), (AOper.mk (some 18) (.mov (.tmp 133)) none)]))))))))) (.region [(AOper.mk (some 97) (.mov (.tmp 15)) none), (AOper.mk (some 98) (.ibin .add (.tmp 97) (.const (.int .i64 1))) none), (AOper.mk (some 99) (.indexArr 2 1 (.tmp 5) (.const (.int .i64 1))) none), (AOper.mk (some 100) (.load1 (.tmp 99)) none), (AOper.mk (some 101) (.convInt .i64 (.tmp 100)) none), (AOper.mk (some 102) (.ibin .add (.tmp 98) (.tmp 101)) none), (AOper.mk (some 15) (.mov (.tmp 102)) none)])))))

theorem getS {S : List UInt8} {i : Nat} (h : i < S.length) : S[i]? = some (S.getD i 0) := by rw [List.getD_eq_getElem?_getD, List.getElem?_eq_getElem h, Option.getD_some]

theorem bk_d {a : Frm} {H : Heap} {A Tx B : List UInt8} {k : Nat} (h8 : a.get 8 = some (.str A)) (h1 : a.get 1 = some (.str Tx)) (h16 : a.get 16 = some (.str B)) (h18 : a.get 18 = some (nn k)) (hk : k < A.length) (hkT : k < Tx.length) (hB : B.length = 16)
    (he : A.getD k 0 = Tx.getD k 0 ^^^ B.getD (k % 16) 0) {Q : AExit → Frm → Heap → Prop}
    (hQ : ∀ a', a'.get 0 = a.get 0 → a'.get 1 = a.get 1 → a'.get 5 = a.get 5 → a'.get 7 = a.get 7 → a'.get 8 = a.get 8 → a'.get 15 = a.get 15 → a'.get 16 = a.get 16 → a'.get 18 = a.get 18 → a'.get 145 = some (.bool false) → Q .normal a' ⟨H.t, H.next + 12⟩) : W E (.draw bkDraw) a H Q := by
  refine W_draw (l := _) rfl (N := 12) rfl ?_
  have eb : ∀ b : UInt8, AV.int .u8 (.ofNat b.toNat) = by' b := fun _ => rfl
  simp (disch := omega) only [bkDraw, l_mov, l_ibin, l_load1, l_loadN, l_nilCheck, l_indexArr, l_indexSl, l_indexVal, l_indexStr, l_lenStr, l_lenSl, l_store, l_build, WL_nil, eX_t, eX_c, put_s, put_n, getset, Nat.reduceEqDiff, if_false, if_true, Option.getD_some, rd, natOf_nn, natOf_by, Option.some.injEq, exists_eq_left', Prod.mk.injEq, and_assoc, exists_and_left, true_and, Nat.zero_add, Nat.add_zero, Nat.mul_one, ble_t, mul_nn, quo_nn, rem_nn, add_nn, sub_nn, lss_nn, eql_nn, neq_nn, xor_by, k0, k1, k2, k3, k4, k5, k6, k7, k8, k12, k13, k14, k15, k16, k32, k60, k254, k256, h1, h8, h16, h18, getS hk, getS hkT, getS (show k % 16 < B.length by omega), eb]
  rw [he]
  simp only [neq_by, eX_t, eX_c, put_s, put_n, getset, Nat.reduceEqDiff, if_false, if_true, Option.getD_some, Option.some.injEq, exists_eq_left', WL_nil]
  refine ⟨?_, _, _, rfl, ?_⟩
  · simp only [stable_cons, stable_nil, sm_mov, sm_ibin, sm_nilCheck, sm_indexArr, sm_indexSl, sm_indexVal, sm_indexStr, sm_lenStr, sm_lenSl, sm_build, sm_store, sm_call, Bool.true_and, Bool.and_true, Bool.and_eq_true, List.reverse_cons, List.reverse_nil, List.nil_append, List.cons_append, List.drop_zero, List.drop_succ_cons, Nat.sub_zero, Nat.succ_eq_add_one, Nat.zero_add, Nat.reduceAdd, Nat.reduceSub, List.take_succ_cons, List.take_zero, List.take_nil]
  · refine hQ _ ?_ ?_ ?_ ?_ ?_ ?_ ?_ ?_ ?_ <;> simp only [getset, Nat.reduceEqDiff, if_false, if_true]

theorem bk_l2 {a : Frm} {H : Heap} {A Tx B : List UInt8} {i : Nat} (h8 : a.get 8 = some (.str A)) (h1 : a.get 1 = some (.str Tx)) (h16 : a.get 16 = some (.str B)) (h15 : a.get 15 = some (nn i)) (hA : A.length = Tx.length) (hB : B.length = 16) (hL : Tx.length < 1000000000) (hi : 16 * i < Tx.length)
    (he : ∀ k, k < 16 → 16 * i + k < Tx.length → A.getD (16 * i + k) 0 = Tx.getD (16 * i + k) 0 ^^^ B.getD k 0) {Q : AExit → Frm → Heap → Prop}
    (hQ : ∀ a' H', a'.get 0 = a.get 0 → a'.get 1 = a.get 1 → a'.get 5 = a.get 5 → a'.get 7 = a.get 7 → a'.get 8 = a.get 8 → a'.get 15 = a.get 15 → H.next ≤ H'.next → H'.t = H.t → Q .normal a' H') : W E bkLoop2 (a.set 18 (nn (16 * i))) H Q := by
  have e32 : ∀ n : Nat, AV.int .i64 (.ofNat n) = nn n := fun _ => rfl
  refine W.block ?_
  refine W.count (min 16 (Tx.length - 16 * i)) (fun k a' H' => H.next ≤ H'.next ∧ H'.t = H.t ∧ a'.get 0 = a.get 0 ∧ a'.get 1 = a.get 1 ∧ a'.get 5 = a.get 5 ∧ a'.get 7 = a.get 7 ∧ a'.get 8 = a.get 8 ∧ a'.get 15 = a.get 15 ∧ a'.get 16 = a.get 16 ∧ a'.get 18 = some (nn (16 * i + k))) ?_ ?_ 0 _ H (by omega) ?_
  · intro k a1 H1 hk ⟨hn, ht, g0, g1, g5, g7, g8, g15, g16, g18⟩
    rw [h1] at g1
    rw [h8] at g8
    rw [h15] at g15
    rw [h16] at g16
    refine W.seq (W.seq (W.region ?_))
    simp (disch := omega) only [w_mov, w_ibin, w_load1, w_loadN, w_nilCheck, w_indexArr, w_indexSl, w_indexVal, w_indexStr, w_lenStr, w_lenSl, w_store, w_alloc, w_box, w_build, w_sliceArr, w_bytesToStr, w_pick, WOps_nil, thenQ_normal, eX_t, eX_c, put_s, put_n, getset, Nat.reduceEqDiff, if_false, if_true, Option.getD_some, rd, natOf_nn, natOf_by, Option.some.injEq, exists_eq_left', Prod.mk.injEq, and_assoc, exists_and_left, true_and, Nat.zero_add, Nat.add_zero, Nat.mul_one, ble_t, mul_nn, quo_nn, rem_nn, add_nn, sub_nn, lss_nn, eql_nn, neq_nn, xor_by, k0, k1, k2, k3, k4, k5, k6, k7, k8, k12, k13, k14, k15, k16, k32, k60, k254, k256, g15, g18]
    have c1 : decide (16 * i + k < 16 * i + 16) = true := by simp; omega
    simp only [c1]
    refine WOps_want ((wantedA_some (d := 126) (b := true) rfl (by simp only [eX_t, eX_c, put_s, put_n, getset, Nat.reduceEqDiff, if_false, if_true, Option.getD_some])).trans rfl) ?_
    simp only [w_mov, w_ibin, w_load1, w_loadN, w_nilCheck, w_indexArr, w_indexSl, w_indexVal, w_indexStr, w_lenStr, w_lenSl, w_store, w_alloc, w_box, w_build, w_sliceArr, w_bytesToStr, w_pick, WOps_nil, thenQ_normal, eX_t, eX_c, put_s, put_n, getset, Nat.reduceEqDiff, if_false, if_true, Option.getD_some, rd, natOf_nn, natOf_by, Option.some.injEq, exists_eq_left', Prod.mk.injEq, and_assoc, exists_and_left, true_and, Nat.zero_add, Nat.add_zero, Nat.mul_one, ble_t, mul_nn, quo_nn, rem_nn, add_nn, sub_nn, lss_nn, eql_nn, neq_nn, xor_by, k0, k1, k2, k3, k4, k5, k6, k7, k8, k12, k13, k14, k15, k16, k32, k60, k254, k256, g18]
    refine WOps_want ((wantedA_some (d := 126) (b := true) rfl (by simp only [eX_t, eX_c, put_s, put_n, getset, Nat.reduceEqDiff, if_false, if_true, Option.getD_some])).trans rfl) ?_
    simp only [w_mov, w_ibin, w_load1, w_loadN, w_nilCheck, w_indexArr, w_indexSl, w_indexVal, w_indexStr, w_lenStr, w_lenSl, w_store, w_alloc, w_box, w_build, w_sliceArr, w_bytesToStr, w_pick, WOps_nil, thenQ_normal, eX_t, eX_c, put_s, put_n, getset, Nat.reduceEqDiff, if_false, if_true, Option.getD_some, rd, natOf_nn, natOf_by, Option.some.injEq, exists_eq_left', Prod.mk.injEq, and_assoc, exists_and_left, true_and, Nat.zero_add, Nat.add_zero, Nat.mul_one, ble_t, mul_nn, quo_nn, rem_nn, add_nn, sub_nn, lss_nn, eql_nn, neq_nn, xor_by, k0, k1, k2, k3, k4, k5, k6, k7, k8, k12, k13, k14, k15, k16, k32, k60, k254, k256, g1]
    refine WOps_want ((wantedA_some (d := 126) (b := true) rfl (by simp only [eX_t, eX_c, put_s, put_n, getset, Nat.reduceEqDiff, if_false, if_true, Option.getD_some])).trans rfl) ?_
    simp only [w_mov, w_ibin, w_load1, w_loadN, w_nilCheck, w_indexArr, w_indexSl, w_indexVal, w_indexStr, w_lenStr, w_lenSl, w_store, w_alloc, w_box, w_build, w_sliceArr, w_bytesToStr, w_pick, WOps_nil, thenQ_normal, eX_t, eX_c, put_s, put_n, getset, Nat.reduceEqDiff, if_false, if_true, Option.getD_some, rd, natOf_nn, natOf_by, Option.some.injEq, exists_eq_left', Prod.mk.injEq, and_assoc, exists_and_left, true_and, Nat.zero_add, Nat.add_zero, Nat.mul_one, ble_t, mul_nn, quo_nn, rem_nn, add_nn, sub_nn, lss_nn, eql_nn, neq_nn, xor_by, k0, k1, k2, k3, k4, k5, k6, k7, k8, k12, k13, k14, k15, k16, k32, k60, k254, k256, e32]
    refine WOps_want ((wantedA_some (d := 126) (b := true) rfl (by simp only [eX_t, eX_c, put_s, put_n, getset, Nat.reduceEqDiff, if_false, if_true, Option.getD_some])).trans rfl) ?_
    have c2 : decide (16 * i + k < Tx.length) = true := by simp; omega
    simp only [w_mov, w_ibin, w_load1, w_loadN, w_nilCheck, w_indexArr, w_indexSl, w_indexVal, w_indexStr, w_lenStr, w_lenSl, w_store, w_alloc, w_box, w_build, w_sliceArr, w_bytesToStr, w_pick, WOps_nil, thenQ_normal, eX_t, eX_c, put_s, put_n, getset, Nat.reduceEqDiff, if_false, if_true, Option.getD_some, rd, natOf_nn, natOf_by, Option.some.injEq, exists_eq_left', Prod.mk.injEq, and_assoc, exists_and_left, true_and, Nat.zero_add, Nat.add_zero, Nat.mul_one, ble_t, mul_nn, quo_nn, rem_nn, add_nn, sub_nn, lss_nn, eql_nn, neq_nn, xor_by, k0, k1, k2, k3, k4, k5, k6, k7, k8, k12, k13, k14, k15, k16, k32, k60, k254, k256, c2, cond_true]
    refine W.cond (b := true) (by simp only [eX_t, eX_c, put_s, put_n, getset, Nat.reduceEqDiff, if_false, if_true, Option.getD_some]) (W.skip ?_)
    rw [thenQ_normal]
    refine W.seq (W.block (W.seq ?_))
    refine bk_d (A := A) (Tx := Tx) (B := B) (k := 16 * i + k) (by simp only [eX_t, eX_c, put_s, put_n, getset, Nat.reduceEqDiff, if_false, if_true, Option.getD_some]; exact g8) (by simp only [eX_t, eX_c, put_s, put_n, getset, Nat.reduceEqDiff, if_false, if_true, Option.getD_some]; exact g1) (by simp only [eX_t, eX_c, put_s, put_n, getset, Nat.reduceEqDiff, if_false, if_true, Option.getD_some]; exact g16) (by simp only [eX_t, eX_c, put_s, put_n, getset, Nat.reduceEqDiff, if_false, if_true, Option.getD_some]; exact g18) (by omega) (by omega) hB (by rw [show (16 * i + k) % 16 = k by omega]; exact he k (by omega) (by omega)) ?_
    intro a' f0 f1 f5 f7 f8 f15 f16 f18 f145
    simp only [getset, Nat.reduceEqDiff, if_false] at f0 f1 f5 f7 f8 f15 f16 f18
    rw [thenQ_normal]
    refine W.cond (b := false) (by simp only [eX_t, eX_c, put_s, put_n, getset, Nat.reduceEqDiff, if_false, if_true, Option.getD_some, f145]) (W.skip ?_)
    simp only [blockQ_normal, thenQ_normal]
    refine W.region ?_
    rw [g18] at f18
    simp (disch := omega) only [w_mov, w_ibin, w_load1, w_loadN, w_nilCheck, w_indexArr, w_indexSl, w_indexVal, w_indexStr, w_lenStr, w_lenSl, w_store, w_alloc, w_box, w_build, w_sliceArr, w_bytesToStr, w_pick, WOps_nil, thenQ_normal, eX_t, eX_c, put_s, put_n, getset, Nat.reduceEqDiff, if_false, if_true, Option.getD_some, rd, natOf_nn, natOf_by, Option.some.injEq, exists_eq_left', Prod.mk.injEq, and_assoc, exists_and_left, true_and, Nat.zero_add, Nat.add_zero, Nat.mul_one, ble_t, mul_nn, quo_nn, rem_nn, add_nn, sub_nn, lss_nn, eql_nn, neq_nn, xor_by, k0, k1, k2, k3, k4, k5, k6, k7, k8, k12, k13, k14, k15, k16, k32, k60, k254, k256, f18]
    exact ⟨by omega, ht, f0.trans g0, by rw [f1, g1, h1], f5.trans g5, f7.trans g7, by rw [f8, g8, h8], by rw [f15, g15, h15], by rw [f16, g16, h16], rfl⟩
  · intro a1 H1 ⟨hn, ht, g0, g1, g5, g7, g8, g15, g16, g18⟩
    rw [h1] at g1
    rw [h15] at g15
    refine W.seq (W.seq (W.region ?_))
    simp (disch := omega) only [w_mov, w_ibin, w_load1, w_loadN, w_nilCheck, w_indexArr, w_indexSl, w_indexVal, w_indexStr, w_lenStr, w_lenSl, w_store, w_alloc, w_box, w_build, w_sliceArr, w_bytesToStr, w_pick, WOps_nil, thenQ_normal, eX_t, eX_c, put_s, put_n, getset, Nat.reduceEqDiff, if_false, if_true, Option.getD_some, rd, natOf_nn, natOf_by, Option.some.injEq, exists_eq_left', Prod.mk.injEq, and_assoc, exists_and_left, true_and, Nat.zero_add, Nat.add_zero, Nat.mul_one, ble_t, mul_nn, quo_nn, rem_nn, add_nn, sub_nn, lss_nn, eql_nn, neq_nn, xor_by, k0, k1, k2, k3, k4, k5, k6, k7, k8, k12, k13, k14, k15, k16, k32, k60, k254, k256, g15, g18]
    have fin : ∀ a2 : Frm, a2.get 0 = a1.get 0 → a2.get 1 = a1.get 1 → a2.get 5 = a1.get 5 → a2.get 7 = a1.get 7 → a2.get 8 = a1.get 8 → a2.get 15 = a1.get 15 → Q .normal a2 H1 := fun a2 q0 q1 q5 q7 q8 q15 =>
      hQ _ _ (q0.trans g0) (by rw [q1, g1, h1]) (q5.trans g5) (q7.trans g7) (q8.trans g8) (by rw [q15, g15, h15]) hn ht
    by_cases hc : 16 * i + min 16 (Tx.length - 16 * i) < 16 * i + 16
    · have c1 : decide (16 * i + min 16 (Tx.length - 16 * i) < 16 * i + 16) = true := by simp only [hc, decide_true]
      simp only [c1]
      refine WOps_want ((wantedA_some (d := 126) (b := true) rfl (by simp only [eX_t, eX_c, put_s, put_n, getset, Nat.reduceEqDiff, if_false, if_true, Option.getD_some])).trans rfl) ?_
      simp only [w_mov, w_ibin, w_load1, w_loadN, w_nilCheck, w_indexArr, w_indexSl, w_indexVal, w_indexStr, w_lenStr, w_lenSl, w_store, w_alloc, w_box, w_build, w_sliceArr, w_bytesToStr, w_pick, WOps_nil, thenQ_normal, eX_t, eX_c, put_s, put_n, getset, Nat.reduceEqDiff, if_false, if_true, Option.getD_some, rd, natOf_nn, natOf_by, Option.some.injEq, exists_eq_left', Prod.mk.injEq, and_assoc, exists_and_left, true_and, Nat.zero_add, Nat.add_zero, Nat.mul_one, ble_t, mul_nn, quo_nn, rem_nn, add_nn, sub_nn, lss_nn, eql_nn, neq_nn, xor_by, k0, k1, k2, k3, k4, k5, k6, k7, k8, k12, k13, k14, k15, k16, k32, k60, k254, k256, g18]
      refine WOps_want ((wantedA_some (d := 126) (b := true) rfl (by simp only [eX_t, eX_c, put_s, put_n, getset, Nat.reduceEqDiff, if_false, if_true, Option.getD_some])).trans rfl) ?_
      simp only [w_mov, w_ibin, w_load1, w_loadN, w_nilCheck, w_indexArr, w_indexSl, w_indexVal, w_indexStr, w_lenStr, w_lenSl, w_store, w_alloc, w_box, w_build, w_sliceArr, w_bytesToStr, w_pick, WOps_nil, thenQ_normal, eX_t, eX_c, put_s, put_n, getset, Nat.reduceEqDiff, if_false, if_true, Option.getD_some, rd, natOf_nn, natOf_by, Option.some.injEq, exists_eq_left', Prod.mk.injEq, and_assoc, exists_and_left, true_and, Nat.zero_add, Nat.add_zero, Nat.mul_one, ble_t, mul_nn, quo_nn, rem_nn, add_nn, sub_nn, lss_nn, eql_nn, neq_nn, xor_by, k0, k1, k2, k3, k4, k5, k6, k7, k8, k12, k13, k14, k15, k16, k32, k60, k254, k256, g1]
      refine WOps_want ((wantedA_some (d := 126) (b := true) rfl (by simp only [eX_t, eX_c, put_s, put_n, getset, Nat.reduceEqDiff, if_false, if_true, Option.getD_some])).trans rfl) ?_
      simp only [w_mov, w_ibin, w_load1, w_loadN, w_nilCheck, w_indexArr, w_indexSl, w_indexVal, w_indexStr, w_lenStr, w_lenSl, w_store, w_alloc, w_box, w_build, w_sliceArr, w_bytesToStr, w_pick, WOps_nil, thenQ_normal, eX_t, eX_c, put_s, put_n, getset, Nat.reduceEqDiff, if_false, if_true, Option.getD_some, rd, natOf_nn, natOf_by, Option.some.injEq, exists_eq_left', Prod.mk.injEq, and_assoc, exists_and_left, true_and, Nat.zero_add, Nat.add_zero, Nat.mul_one, ble_t, mul_nn, quo_nn, rem_nn, add_nn, sub_nn, lss_nn, eql_nn, neq_nn, xor_by, k0, k1, k2, k3, k4, k5, k6, k7, k8, k12, k13, k14, k15, k16, k32, k60, k254, k256, e32]
      refine WOps_want ((wantedA_some (d := 126) (b := true) rfl (by simp only [eX_t, eX_c, put_s, put_n, getset, Nat.reduceEqDiff, if_false, if_true, Option.getD_some])).trans rfl) ?_
      have c2 : decide (16 * i + min 16 (Tx.length - 16 * i) < Tx.length) = false := by simp; omega
      simp only [w_mov, w_ibin, w_load1, w_loadN, w_nilCheck, w_indexArr, w_indexSl, w_indexVal, w_indexStr, w_lenStr, w_lenSl, w_store, w_alloc, w_box, w_build, w_sliceArr, w_bytesToStr, w_pick, WOps_nil, thenQ_normal, eX_t, eX_c, put_s, put_n, getset, Nat.reduceEqDiff, if_false, if_true, Option.getD_some, rd, natOf_nn, natOf_by, Option.some.injEq, exists_eq_left', Prod.mk.injEq, and_assoc, exists_and_left, true_and, Nat.zero_add, Nat.add_zero, Nat.mul_one, ble_t, mul_nn, quo_nn, rem_nn, add_nn, sub_nn, lss_nn, eql_nn, neq_nn, xor_by, k0, k1, k2, k3, k4, k5, k6, k7, k8, k12, k13, k14, k15, k16, k32, k60, k254, k256, c2, cond_true]
      refine W.cond (b := false) (by simp only [eX_t, eX_c, put_s, put_n, getset, Nat.reduceEqDiff, if_false, if_true, Option.getD_some]) (W.exit ?_)
      refine ⟨nofun, ?_⟩
      simp only [blockQ_exit, Nat.beq_refl, cond_true]
      refine fin _ ?_ ?_ ?_ ?_ ?_ ?_ <;> simp only [getset, Nat.reduceEqDiff, if_false]
    · have c1 : decide (16 * i + min 16 (Tx.length - 16 * i) < 16 * i + 16) = false := by simp only [hc, decide_false]
      simp only [c1]
      refine WOps_skip ((wantedA_some (d := 126) (b := false) rfl (by simp only [eX_t, eX_c, put_s, put_n, getset, Nat.reduceEqDiff, if_false, if_true, Option.getD_some])).trans rfl) ?_
      refine WOps_skip ((wantedA_some (d := 126) (b := false) rfl (by simp only [eX_t, eX_c, put_s, put_n, getset, Nat.reduceEqDiff, if_false, if_true, Option.getD_some])).trans rfl) ?_
      refine WOps_skip ((wantedA_some (d := 126) (b := false) rfl (by simp only [eX_t, eX_c, put_s, put_n, getset, Nat.reduceEqDiff, if_false, if_true, Option.getD_some])).trans rfl) ?_
      refine WOps_skip ((wantedA_some (d := 126) (b := false) rfl (by simp only [eX_t, eX_c, put_s, put_n, getset, Nat.reduceEqDiff, if_false, if_true, Option.getD_some])).trans rfl) ?_
      simp only [w_mov, w_ibin, w_load1, w_loadN, w_nilCheck, w_indexArr, w_indexSl, w_indexVal, w_indexStr, w_lenStr, w_lenSl, w_store, w_alloc, w_box, w_build, w_sliceArr, w_bytesToStr, w_pick, WOps_nil, thenQ_normal, eX_t, eX_c, put_s, put_n, getset, Nat.reduceEqDiff, if_false, if_true, Option.getD_some, rd, natOf_nn, natOf_by, Option.some.injEq, exists_eq_left', Prod.mk.injEq, and_assoc, exists_and_left, true_and, Nat.zero_add, Nat.add_zero, Nat.mul_one, ble_t, mul_nn, quo_nn, rem_nn, add_nn, sub_nn, lss_nn, eql_nn, neq_nn, xor_by, k0, k1, k2, k3, k4, k5, k6, k7, k8, k12, k13, k14, k15, k16, k32, k60, k254, k256, cond_false]
      refine W.cond (b := false) (by simp only [eX_t, eX_c, put_s, put_n, getset, Nat.reduceEqDiff, if_false, if_true, Option.getD_some]) (W.exit ?_)
      refine ⟨nofun, ?_⟩
      simp only [blockQ_exit, Nat.beq_refl, cond_true]
      refine fin _ ?_ ?_ ?_ ?_ ?_ ?_ <;> simp only [getset, Nat.reduceEqDiff, if_false]
  · refine ⟨Nat.le_refl _, rfl, ?_, ?_, ?_, ?_, ?_, ?_, ?_, ?_⟩
    all_goals simp only [getset, Nat.reduceEqDiff, if_false, if_true, Nat.add_zero]
end Go.AE
end
-- The law AesBack run on the machine: block by block.
section
set_option linter.unusedVariables false
set_option linter.unusedSimpArgs false
set_option maxRecDepth 100000
set_option maxHeartbeats 1000000
namespace Go.AE
variable {E : Env}
attribute [local irreducible] keysP encP blockP ctrP stP xsP

def bkBody : ACode := (.seq (.seq (.region [(AOper.mk (some 92) (.mov (.tmp 15)) none), (AOper.mk (some 93) (.ibin .mul (.const (.int .i64 16)) (.tmp 92)) none), (AOper.mk (some 94) (.mov (.tmp 1)) none), (AOper.mk (some 95) (.lenStr (.tmp 94)) none), (AOper.mk (some 96) (.ibin .lss (.tmp 93) (.tmp 95)) none)]) (.cond (.tmp 96) .skip (.exit 0))) (.seq (.block 1 (.seq (.region [(AOper.mk (some 104) (.mov (.tmp 0)) none), (AOper.mk (some 105) (.mov (.tmp 7)) none), (AOper.mk (some 106) (.mov (.tmp 15)) none), (AOper.mk (some 107) (.convInt .u64 (.tmp 106)) none), (AOper.mk (some 108) (.call (.const (.func (.func 16) [] [])) [(.tmp 105), (.const (.int .i64 4)), (.tmp 107)]) none), (AOper.mk (some 109) (.call (.const (.func (.func 8) [] [])) [(.tmp 104), (.tmp 108)]) none), (AOper.mk (some 103) (.mov (.tmp 109)) none), (AOper.mk (some 110) (.extract 0 (.tmp 103)) none), (AOper.mk (some 111) (.extract 1 (.tmp 103)) none), (AOper.mk (some 16) (.mov (.tmp 110)) none), (AOper.mk (some 17) (.mov (.tmp 111)) none)]) (.seq (.seq (.region [(AOper.mk (some 112) (.mov (.tmp 17)) none), (AOper.mk (some 113) (.ibin .neq (.tmp 112) (.const (.int .i64 0))) none), (AOper.mk (some 114) (.mov (.tmp 113)) none), (AOper.mk (some 115) (.mov (.tmp 16)) (some (2, false))), (AOper.mk (some 116) (.lenStr (.tmp 115)) (some (2, false))), (AOper.mk (some 117) (.ibin .neq (.tmp 116) (.const (.int .i64 16))) (some (2, false))), (AOper.mk (some 118) (.pick (.tmp 114) (.const (.bool true)) (.tmp 117)) none)]) (.cond (.tmp 118) (.seq (.region [(AOper.mk (some 6) (.mov (.const (.bool false))) none)]) .ret) .skip)) (.seq (.region [(AOper.mk (some 119) (.mov (.tmp 15)) none), (AOper.mk (some 120) (.ibin .mul (.const (.int .i64 16)) (.tmp 119)) none), (AOper.mk (some 18) (.mov (.tmp 120)) none)]) (.block 2 (.loop (.seq (.seq (.region [(AOper.mk (some 121) (.mov (.tmp 18)) none), (AOper.mk (some 122) (.mov (.tmp 15)) none), (AOper.mk (some 123) (.ibin .mul (.const (.int .i64 16)) (.tmp 122)) none), (AOper.mk (some 124) (.ibin .add (.tmp 123) (.const (.int .i64 16))) none), (AOper.mk (some 125) (.ibin .lss (.tmp 121) (.tmp 124)) none), (AOper.mk (some 126) (.mov (.tmp 125)) none), (AOper.mk (some 127) (.mov (.tmp 18)) (some (5, true))), (AOper.mk (some 128) (.mov (.tmp 1)) (some (5, true))), (AOper.mk (some 129) (.lenStr (.tmp 128)) (some (5, true))), (AOper.mk (some 130) (.ibin .lss (.tmp 127) (.tmp 129)) (some (5, true))), (AOper.mk (some 131) (.pick (.tmp 126) (.tmp 130) (.const (.bool false))) none)]) (.cond (.tmp 131) .skip (.exit 2))) (.seq (.block 3 (.seq (.draw (ADraw.mk [(AOper.mk (some 134) (.mov (.tmp 8)) none), (AOper.mk (some 135) (.mov (.tmp 18)) none), (AOper.mk (some 136) (.indexStr (.tmp 134) (.tmp 135)) none), (AOper.mk (some 137) (.mov (.tmp 1)) none), (AOper.mk (some 138) (.mov (.tmp 18)) none), (AOper.mk (some 139) (.indexStr (.tmp 137) (.tmp 138)) none), (AOper.mk (some 140) (.mov (.tmp 16)) none), (AOper.mk (some 141) (.mov (.tmp 18)) none), (AOper.mk (some 142) (.ibin .rem (.tmp 141) (.const (.int .i64 16))) none), (AOper.mk (some 143) (.indexStr (.tmp 140) (.tmp 142)) none), (AOper.mk (some 144) (.ibin .xor (.tmp 139) (.tmp 143)) none), (AOper.mk (some 145) (.ibin .neq (.tmp 136) (.tmp 144)) none)] [0, 1, 2, 3, 4, 5, 6, 7, 8, 9, 10, 11] [0, 0, 3, 0, 0, 24, 0, 0, 128, 448, 1016, 2047] [(0, 0), (0, 0), (0, 0), (0, 0), (0, 0), (0, 0), (0, 0), (0, 0), (0, 0), (0, 0), (0, 0), (0, 0)] false)) (.cond (.tmp 145) (.seq (.region [(AOper.mk (some 6) (.mov (.const (.bool false))) none)]) .ret) .skip))) (.region [(AOper.mk (some 132) (.mov (.tmp 18)) none), (AOper.mk (some 133) (.ibin .add (.tmp 132) (.const (.int .i64 1))) none), (AOper.mk (some 18) (.mov (.tmp 133)) none)]))))))))) (.region [(AOper.mk (some 97) (.mov (.tmp 15)) none), (AOper.mk (some 98) (.ibin .add (.tmp 97) (.const (.int .i64 1))) none), (AOper.mk (some 99) (.indexArr 2 1 (.tmp 5) (.const (.int .i64 1))) none), (AOper.mk (some 100) (.load1 (.tmp 99)) none), (AOper.mk (some 101) (.convInt .i64 (.tmp 100)) none), (AOper.mk (some 102) (.ibin .add (.tmp 98) (.tmp 101)) none), (AOper.mk (some 15) (.mov (.tmp 102)) none)])))

theorem conv_u64 {a : Frm} {H : Heap} {x : AX} {n : Nat} (h : evalX a x = nn n) (hn : n < 9223372036854775808) : rd (.convInt .u64 x) a H = some (nu n) := by
  have e : fits .u64 (.ofNat n) = true := by
    simp only [fits, lo, hi, Bool.and_eq_true]
    constructor
    · show Nat.ble 0 n = true
      rw [Nat.ble_eq]; omega
    · show Nat.ble n 18446744073709551615 = true
      rw [Nat.ble_eq]; omega
  simp only [rd, h, nn, wrapK, e, cond_true, nu]
theorem conv_i64 {a : Frm} {H : Heap} {x : AX} {b : UInt8} (h : evalX a x = by' b) : rd (.convInt .i64 x) a H = some (nn b.toNat) := by
  have := b.toNat_lt
  simp only [rd, h, by', wrapK, fits_nn (show b.toNat < 9223372036854775808 by omega), cond_true, nn]

theorem bk_main (hT : Told E) {K N Tx A : List UInt8} {x0 x1 : UInt8} {b5 : Nat} {e : TypeId} (hK : K.length = 32) (hN : N.length = 12) (hL : Tx.length ≤ 2000) (hA : A = xsP (keysP K) N Tx ((Tx.length + 15) / 16)) {n0 : Nat} {T0 : T ABlk} (hb5n : b5 < n0)
    (hb5 : T0.get b5 = some (.cells (bs [x0, x1]) e false false)) {Q : AExit → Frm → Heap → Prop}
    (hQ : ∀ a' H', n0 ≤ H'.next → (∀ j, j < n0 → H'.t.get j = T0.get j) → Q (.exit 0) a' H') :
    ∀ (d i : Nat), Tx.length - 16 * i < d → i < 1000 → ∀ (a : Frm) (H : Heap), a.get 0 = some (.str K) → a.get 1 = some (.str Tx) → a.get 5 = some (.ptr (some (b5, 0))) → a.get 7 = some (.str N) → a.get 8 = some (.str A) → a.get 15 = some (nn i) →
      n0 ≤ H.next → (∀ j, j < n0 → H.t.get j = T0.get j) → W E (.loop bkBody) a H Q
  | 0, i, hd => absurd hd (by omega)
  | d + 1, i, hd => by
    intro hi a H g0 g1 g5 g7 g8 g15 hn hk
    have e32 : ∀ n : Nat, AV.int .i64 (.ofNat n) = nn n := fun _ => rfl
    refine W.loop ?_
    unfold bkBody
    refine W.seq (W.seq (W.region ?_))
    simp (disch := omega) only [w_mov, w_ibin, w_load1, w_loadN, w_nilCheck, w_indexArr, w_indexSl, w_indexVal, w_indexStr, w_lenStr, w_lenSl, w_store, w_alloc, w_box, w_build, w_sliceArr, w_bytesToStr, w_pick, WOps_nil, thenQ_normal, eX_t, eX_c, put_s, put_n, getset, Nat.reduceEqDiff, if_false, if_true, Option.getD_some, rd, natOf_nn, natOf_by, Option.some.injEq, exists_eq_left', Prod.mk.injEq, and_assoc, exists_and_left, true_and, Nat.zero_add, Nat.add_zero, Nat.mul_one, ble_t, mul_nn, quo_nn, rem_nn, add_nn, sub_nn, lss_nn, eql_nn, neq_nn, xor_by, k0, k1, k2, k3, k4, k5, k6, k7, k8, k12, k13, k14, k15, k16, k32, k60, k254, k256, g15, g1, e32]
    by_cases hc : 16 * i < Tx.length
    · refine W.cond (b := true) (by simp only [eX_t, eX_c, put_s, put_n, getset, Nat.reduceEqDiff, if_false, if_true, Option.getD_some]; simp [hc]) (W.skip ?_)
      rw [thenQ_normal]
      refine W.seq (W.block (W.seq (W.region ?_)))
      simp only [w_mov, w_ibin, w_load1, w_loadN, w_nilCheck, w_indexArr, w_indexSl, w_indexVal, w_indexStr, w_lenStr, w_lenSl, w_store, w_alloc, w_box, w_build, w_sliceArr, w_bytesToStr, w_pick, WOps_nil, thenQ_normal, eX_t, eX_c, put_s, put_n, getset, Nat.reduceEqDiff, if_false, if_true, Option.getD_some, rd, natOf_nn, natOf_by, Option.some.injEq, exists_eq_left', Prod.mk.injEq, and_assoc, exists_and_left, true_and, Nat.zero_add, Nat.add_zero, Nat.mul_one, ble_t, mul_nn, quo_nn, rem_nn, add_nn, sub_nn, lss_nn, eql_nn, neq_nn, xor_by, k0, k1, k2, k3, k4, k5, k6, k7, k8, k12, k13, k14, k15, k16, k32, k60, k254, k256, g0, g7, g15]
      rw [w_convI]
      refine ⟨_, conv_u64 (n := i) (by simp only [eX_t, eX_c, put_s, put_n, getset, Nat.reduceEqDiff, if_false, if_true, Option.getD_some]) (by omega), ?_⟩
      simp only [put_s]
      refine WOps.call (g := 16) (first := []) (captured := []) rfl ?_
      simp only [List.map_nil, List.map_cons, List.nil_append, List.append_nil, eX_t, eX_c, put_s, put_n, getset, Nat.reduceEqDiff, if_false, if_true, Option.getD_some]
      refine put_ok hT.funcs hT.none hN ?_
      intro H1 hn1 hb1
      refine WOps.call (g := 8) (first := []) (captured := []) rfl ?_
      simp only [List.map_nil, List.map_cons, List.nil_append, List.append_nil, eX_t, eX_c, put_s, put_n, getset, Nat.reduceEqDiff, if_false, if_true, Option.getD_some]
      refine Block_ok hT.funcs hT.none ?_
      intro H2 hn2 hb2
      have hst : encP (keysP K) (cntP N i) = stP (keysP K) N i := by unfold stP; rfl
      rw [blockP_full hK (length_cntP hN i), hst]
      have hsl := length_stP (C := keysP K) hN i
      have hby := fun k (h : k < 16) (hk : 16 * i + k < Tx.length) => xs_byte (keysP K) N Tx (i := i) hk h
      rw [← hA] at hby
      generalize stP (keysP K) N i = SP at hsl hby ⊢
      simp only [w_mov, w_ibin, w_load1, w_loadN, w_nilCheck, w_indexArr, w_indexSl, w_indexVal, w_indexStr, w_lenStr, w_lenSl, w_store, w_alloc, w_box, w_build, w_sliceArr, w_bytesToStr, w_pick, WOps_nil, thenQ_normal, eX_t, eX_c, put_s, put_n, getset, Nat.reduceEqDiff, if_false, if_true, Option.getD_some, rd, natOf_nn, natOf_by, Option.some.injEq, exists_eq_left', Prod.mk.injEq, and_assoc, exists_and_left, true_and, Nat.zero_add, Nat.add_zero, Nat.mul_one, ble_t, mul_nn, quo_nn, rem_nn, add_nn, sub_nn, lss_nn, eql_nn, neq_nn, xor_by, k0, k1, k2, k3, k4, k5, k6, k7, k8, k12, k13, k14, k15, k16, k32, k60, k254, k256, w_extract, List.getElem?_cons_zero, List.getElem?_cons_succ]
      refine W.seq (W.seq (W.region ?_))
      simp only [w_mov, w_ibin, w_load1, w_loadN, w_nilCheck, w_indexArr, w_indexSl, w_indexVal, w_indexStr, w_lenStr, w_lenSl, w_store, w_alloc, w_box, w_build, w_sliceArr, w_bytesToStr, w_pick, WOps_nil, thenQ_normal, eX_t, eX_c, put_s, put_n, getset, Nat.reduceEqDiff, if_false, if_true, Option.getD_some, rd, natOf_nn, natOf_by, Option.some.injEq, exists_eq_left', Prod.mk.injEq, and_assoc, exists_and_left, true_and, Nat.zero_add, Nat.add_zero, Nat.mul_one, ble_t, mul_nn, quo_nn, rem_nn, add_nn, sub_nn, lss_nn, eql_nn, neq_nn, xor_by, k0, k1, k2, k3, k4, k5, k6, k7, k8, k12, k13, k14, k15, k16, k32, k60, k254, k256, ne_eq, not_true_eq_false, decide_false]
      refine WOps_want ((wantedA_some (d := 114) (b := false) rfl (by simp only [eX_t, eX_c, put_s, put_n, getset, Nat.reduceEqDiff, if_false, if_true, Option.getD_some])).trans rfl) ?_
      simp only [w_mov, w_ibin, w_load1, w_loadN, w_nilCheck, w_indexArr, w_indexSl, w_indexVal, w_indexStr, w_lenStr, w_lenSl, w_store, w_alloc, w_box, w_build, w_sliceArr, w_bytesToStr, w_pick, WOps_nil, thenQ_normal, eX_t, eX_c, put_s, put_n, getset, Nat.reduceEqDiff, if_false, if_true, Option.getD_some, rd, natOf_nn, natOf_by, Option.some.injEq, exists_eq_left', Prod.mk.injEq, and_assoc, exists_and_left, true_and, Nat.zero_add, Nat.add_zero, Nat.mul_one, ble_t, mul_nn, quo_nn, rem_nn, add_nn, sub_nn, lss_nn, eql_nn, neq_nn, xor_by, k0, k1, k2, k3, k4, k5, k6, k7, k8, k12, k13, k14, k15, k16, k32, k60, k254, k256]
      refine WOps_want ((wantedA_some (d := 114) (b := false) rfl (by simp only [eX_t, eX_c, put_s, put_n, getset, Nat.reduceEqDiff, if_false, if_true, Option.getD_some])).trans rfl) ?_
      simp only [w_mov, w_ibin, w_load1, w_loadN, w_nilCheck, w_indexArr, w_indexSl, w_indexVal, w_indexStr, w_lenStr, w_lenSl, w_store, w_alloc, w_box, w_build, w_sliceArr, w_bytesToStr, w_pick, WOps_nil, thenQ_normal, eX_t, eX_c, put_s, put_n, getset, Nat.reduceEqDiff, if_false, if_true, Option.getD_some, rd, natOf_nn, natOf_by, Option.some.injEq, exists_eq_left', Prod.mk.injEq, and_assoc, exists_and_left, true_and, Nat.zero_add, Nat.add_zero, Nat.mul_one, ble_t, mul_nn, quo_nn, rem_nn, add_nn, sub_nn, lss_nn, eql_nn, neq_nn, xor_by, k0, k1, k2, k3, k4, k5, k6, k7, k8, k12, k13, k14, k15, k16, k32, k60, k254, k256, hsl, e32]
      refine WOps_want ((wantedA_some (d := 114) (b := false) rfl (by simp only [eX_t, eX_c, put_s, put_n, getset, Nat.reduceEqDiff, if_false, if_true, Option.getD_some])).trans rfl) ?_
      simp only [w_mov, w_ibin, w_load1, w_loadN, w_nilCheck, w_indexArr, w_indexSl, w_indexVal, w_indexStr, w_lenStr, w_lenSl, w_store, w_alloc, w_box, w_build, w_sliceArr, w_bytesToStr, w_pick, WOps_nil, thenQ_normal, eX_t, eX_c, put_s, put_n, getset, Nat.reduceEqDiff, if_false, if_true, Option.getD_some, rd, natOf_nn, natOf_by, Option.some.injEq, exists_eq_left', Prod.mk.injEq, and_assoc, exists_and_left, true_and, Nat.zero_add, Nat.add_zero, Nat.mul_one, ble_t, mul_nn, quo_nn, rem_nn, add_nn, sub_nn, lss_nn, eql_nn, neq_nn, xor_by, k0, k1, k2, k3, k4, k5, k6, k7, k8, k12, k13, k14, k15, k16, k32, k60, k254, k256, ne_eq, not_true_eq_false, decide_false, cond_false]
      refine W.cond (b := false) (by simp only [eX_t, eX_c, put_s, put_n, getset, Nat.reduceEqDiff, if_false, if_true, Option.getD_some]) (W.skip ?_)
      rw [thenQ_normal]
      refine W.seq (W.region ?_)
      simp (disch := omega) only [w_mov, w_ibin, w_load1, w_loadN, w_nilCheck, w_indexArr, w_indexSl, w_indexVal, w_indexStr, w_lenStr, w_lenSl, w_store, w_alloc, w_box, w_build, w_sliceArr, w_bytesToStr, w_pick, WOps_nil, thenQ_normal, eX_t, eX_c, put_s, put_n, getset, Nat.reduceEqDiff, if_false, if_true, Option.getD_some, rd, natOf_nn, natOf_by, Option.some.injEq, exists_eq_left', Prod.mk.injEq, and_assoc, exists_and_left, true_and, Nat.zero_add, Nat.add_zero, Nat.mul_one, ble_t, mul_nn, quo_nn, rem_nn, add_nn, sub_nn, lss_nn, eql_nn, neq_nn, xor_by, k0, k1, k2, k3, k4, k5, k6, k7, k8, k12, k13, k14, k15, k16, k32, k60, k254, k256, g15]
      refine bk_l2 (A := A) (Tx := Tx) (B := SP) (i := i) (by simp only [eX_t, eX_c, put_s, put_n, getset, Nat.reduceEqDiff, if_false, if_true, Option.getD_some]; exact g8) (by simp only [eX_t, eX_c, put_s, put_n, getset, Nat.reduceEqDiff, if_false, if_true, Option.getD_some]; exact g1) (by simp only [eX_t, eX_c, put_s, put_n, getset, Nat.reduceEqDiff, if_false, if_true, Option.getD_some]) (by simp only [eX_t, eX_c, put_s, put_n, getset, Nat.reduceEqDiff, if_false, if_true, Option.getD_some]; exact g15) (by rw [hA, length_xsP]) hsl (by omega) hc hby ?_
      intro a3 H3 f0 f1 f5 f7 f8 f15 hn3 ht3
      simp only [getset, Nat.reduceEqDiff, if_false] at f0 f1 f5 f7 f8 f15
      rw [g0] at f0
      rw [g1] at f1
      rw [g5] at f5
      rw [g7] at f7
      rw [g8] at f8
      rw [g15] at f15
      simp only [blockQ_normal, thenQ_normal]
      have hk3 : ∀ j, j < n0 → H3.t.get j = T0.get j := fun j hj => by rw [ht3, hb2 _ (by omega), hb1 _ (by omega), hk _ hj]
      have e5 : H3.load b5 (0 + 1 * 1) = some (by' x1) := by
        obtain ⟨T3, n3⟩ := H3
        rw [load_blk' (by rw [hk3 _ hb5n]; exact hb5)]
        rfl
      refine W.region ?_
      simp (disch := omega) only [w_mov, w_ibin, w_indexArr, w_load1, eX_t, eX_c, put_s, put_n, getset, Nat.reduceEqDiff, if_false, if_true, Option.getD_some, rd, natOf_nn, natOf_by, Option.some.injEq, exists_eq_left', Prod.mk.injEq, and_assoc, exists_and_left, true_and, Nat.zero_add, Nat.add_zero, Nat.mul_one, ble_t, mul_nn, quo_nn, rem_nn, add_nn, sub_nn, lss_nn, eql_nn, neq_nn, xor_by, k0, k1, k2, k3, k4, k5, k6, k7, k8, k12, k13, k14, k15, k16, k32, k60, k254, k256, f15, f5]
      simp only [Nat.zero_add, Nat.mul_one] at e5
      simp only [e5, Option.some.injEq, exists_eq_left']
      rw [w_convI]
      refine ⟨_, conv_i64 (b := x1) (by simp only [eX_t, eX_c, put_s, put_n, getset, Nat.reduceEqDiff, if_false, if_true, Option.getD_some]), ?_⟩
      have := x1.toNat_lt
      simp (disch := omega) only [w_mov, w_ibin, w_load1, w_loadN, w_nilCheck, w_indexArr, w_indexSl, w_indexVal, w_indexStr, w_lenStr, w_lenSl, w_store, w_alloc, w_box, w_build, w_sliceArr, w_bytesToStr, w_pick, WOps_nil, thenQ_normal, eX_t, eX_c, put_s, put_n, getset, Nat.reduceEqDiff, if_false, if_true, Option.getD_some, rd, natOf_nn, natOf_by, Option.some.injEq, exists_eq_left', Prod.mk.injEq, and_assoc, exists_and_left, true_and, Nat.zero_add, Nat.add_zero, Nat.mul_one, ble_t, mul_nn, quo_nn, rem_nn, add_nn, sub_nn, lss_nn, eql_nn, neq_nn, xor_by, k0, k1, k2, k3, k4, k5, k6, k7, k8, k12, k13, k14, k15, k16, k32, k60, k254, k256]
      exact bk_main hT hK hN hL hA hb5n hb5 hQ d (i + 1 + x1.toNat) (by omega) (by omega) _ H3 (by simp only [eX_t, eX_c, put_s, put_n, getset, Nat.reduceEqDiff, if_false, if_true, Option.getD_some]; exact f0) (by simp only [eX_t, eX_c, put_s, put_n, getset, Nat.reduceEqDiff, if_false, if_true, Option.getD_some]; exact f1) (by simp only [eX_t, eX_c, put_s, put_n, getset, Nat.reduceEqDiff, if_false, if_true, Option.getD_some]; exact f5) (by simp only [eX_t, eX_c, put_s, put_n, getset, Nat.reduceEqDiff, if_false, if_true, Option.getD_some]; exact f7) (by simp only [eX_t, eX_c, put_s, put_n, getset, Nat.reduceEqDiff, if_false, if_true, Option.getD_some]; exact f8) (by simp only [eX_t, eX_c, put_s, put_n, getset, Nat.reduceEqDiff, if_false, if_true, Option.getD_some]) (by omega) hk3
    · refine W.cond (b := false) (by simp only [eX_t, eX_c, put_s, put_n, getset, Nat.reduceEqDiff, if_false, if_true, Option.getD_some]; simp [hc]) (W.exit ?_)
      simp only [thenQ_exit]
      exact hQ _ _ hn hk
end Go.AE
end
-- The law AesBack run on the machine, whole.
section
set_option linter.unusedVariables false
set_option linter.unusedSimpArgs false
set_option maxRecDepth 100000
set_option maxHeartbeats 1000000
namespace Go.AE
variable {E : Env}
attribute [local irreducible] keysP encP blockP ctrP stP xsP broughtP

def bkRest : ACode := (.seq (.region [(AOper.mk (some 75) (.mov (.tmp 0)) none), (AOper.mk (some 76) (.mov (.tmp 7)) none), (AOper.mk (some 77) (.mov (.tmp 1)) none), (AOper.mk (some 78) (.mov (.tmp 12)) none), (AOper.mk (some 79) (.sliceStr (.tmp 77) none (some (.tmp 78))) none), (AOper.mk (some 80) (.call (.const (.func (.func 12) [] [])) [(.tmp 75), (.tmp 76), (.tmp 79)]) none), (AOper.mk (some 74) (.mov (.tmp 80)) none), (AOper.mk (some 81) (.extract 0 (.tmp 74)) none), (AOper.mk (some 82) (.extract 1 (.tmp 74)) none), (AOper.mk (some 13) (.mov (.tmp 81)) none), (AOper.mk (some 14) (.mov (.tmp 82)) none)]) (.seq (.seq (.region [(AOper.mk (some 83) (.mov (.tmp 14)) none), (AOper.mk (some 84) (.ibin .neq (.tmp 83) (.const (.int .i64 0))) none), (AOper.mk (some 85) (.mov (.tmp 84)) none), (AOper.mk (some 86) (.mov (.tmp 13)) (some (2, false))), (AOper.mk (some 87) (.mov (.tmp 8)) (some (2, false))), (AOper.mk (some 88) (.mov (.tmp 12)) (some (2, false))), (AOper.mk (some 89) (.sliceStr (.tmp 87) none (some (.tmp 88))) (some (2, false))), (AOper.mk (some 90) (.sbin .neq (.tmp 86) (.tmp 89)) (some (2, false))), (AOper.mk (some 91) (.pick (.tmp 85) (.const (.bool true)) (.tmp 90)) none)]) (.cond (.tmp 91) (.seq (.region [(AOper.mk (some 6) (.mov (.const (.bool false))) none)]) .ret) .skip)) (.seq (.seq (.region [(AOper.mk (some 15) (.mov (.const (.int .i64 0))) none)]) (.block 0 (.loop (.seq (.seq (.region [(AOper.mk (some 92) (.mov (.tmp 15)) none), (AOper.mk (some 93) (.ibin .mul (.const (.int .i64 16)) (.tmp 92)) none), (AOper.mk (some 94) (.mov (.tmp 1)) none), (AOper.mk (some 95) (.lenStr (.tmp 94)) none), (AOper.mk (some 96) (.ibin .lss (.tmp 93) (.tmp 95)) none)]) (.cond (.tmp 96) .skip (.exit 0))) (.seq (.block 1 (.seq (.region [(AOper.mk (some 104) (.mov (.tmp 0)) none), (AOper.mk (some 105) (.mov (.tmp 7)) none), (AOper.mk (some 106) (.mov (.tmp 15)) none), (AOper.mk (some 107) (.convInt .u64 (.tmp 106)) none), (AOper.mk (some 108) (.call (.const (.func (.func 16) [] [])) [(.tmp 105), (.const (.int .i64 4)), (.tmp 107)]) none), (AOper.mk (some 109) (.call (.const (.func (.func 8) [] [])) [(.tmp 104), (.tmp 108)]) none), (AOper.mk (some 103) (.mov (.tmp 109)) none), (AOper.mk (some 110) (.extract 0 (.tmp 103)) none), (AOper.mk (some 111) (.extract 1 (.tmp 103)) none), (AOper.mk (some 16) (.mov (.tmp 110)) none), (AOper.mk (some 17) (.mov (.tmp 111)) none)]) (.seq (.seq (.region [(AOper.mk (some 112) (.mov (.tmp 17)) none), (AOper.mk (some 113) (.ibin .neq (.tmp 112) (.const (.int .i64 0))) none), (AOper.mk (some 114) (.mov (.tmp 113)) none), (AOper.mk (some 115) (.mov (.tmp 16)) (some (2, false))), (AOper.mk (some 116) (.lenStr (.tmp 115)) (some (2, false))), (AOper.mk (some 117) (.ibin .neq (.tmp 116) (.const (.int .i64 16))) (some (2, false))), (AOper.mk (some 118) (.pick (.tmp 114) (.const (.bool true)) (.tmp 117)) none)]) (.cond (.tmp 118) (.seq (.region [(AOper.mk (some 6) (.mov (.const (.bool false))) none)]) .ret) .skip)) (.seq (.region [(AOper.mk (some 119) (.mov (.tmp 15)) none), (AOper.mk (some 120) (.ibin .mul (.const (.int .i64 16)) (.tmp 119)) none), (AOper.mk (some 18) (.mov (.tmp 120)) none)]) (.block 2 (.loop (.seq (.seq (.region [(AOper.mk (some 121) (.mov (.tmp 18)) none), (AOper.mk (some 122) (.mov (.tmp 15)) none), (AOper.mk (some 123) (.ibin .mul (.const (.int .i64 16)) (.tmp 122)) none), (AOper.mk (some 124) (.ibin .add (.tmp 123) (.const (.int .i64 16))) none), (AOper.mk (some 125) (.ibin .lss (.tmp 121) (.tmp 124)) none), (AOper.mk (some 126) (.mov (.tmp 125)) none), (AOper.mk (some 127) (.mov (.tmp 18)) (some (5, true))), (AOper.mk (some 128) (.mov (.tmp 1)) (some (5, true))), (AOper.mk (some 129) (.lenStr (.tmp 128)) (some (5, true))), (AOper.mk (some 130) (.ibin .lss (.tmp 127) (.tmp 129)) (some (5, true))), (AOper.mk (some 131) (.pick (.tmp 126) (.tmp 130) (.const (.bool false))) none)]) (.cond (.tmp 131) .skip (.exit 2))) (.seq (.block 3 (.seq (.draw (ADraw.mk [(AOper.mk (some 134) (.mov (.tmp 8)) none), (AOper.mk (some 135) (.mov (.tmp 18)) none), (AOper.mk (some 136) (.indexStr (.tmp 134) (.tmp 135)) none), (AOper.mk (some 137) (.mov (.tmp 1)) none), (AOper.mk (some 138) (.mov (.tmp 18)) none), (AOper.mk (some 139) (.indexStr (.tmp 137) (.tmp 138)) none), (AOper.mk (some 140) (.mov (.tmp 16)) none), (AOper.mk (some 141) (.mov (.tmp 18)) none), (AOper.mk (some 142) (.ibin .rem (.tmp 141) (.const (.int .i64 16))) none), (AOper.mk (some 143) (.indexStr (.tmp 140) (.tmp 142)) none), (AOper.mk (some 144) (.ibin .xor (.tmp 139) (.tmp 143)) none), (AOper.mk (some 145) (.ibin .neq (.tmp 136) (.tmp 144)) none)] [0, 1, 2, 3, 4, 5, 6, 7, 8, 9, 10, 11] [0, 0, 3, 0, 0, 24, 0, 0, 128, 448, 1016, 2047] [(0, 0), (0, 0), (0, 0), (0, 0), (0, 0), (0, 0), (0, 0), (0, 0), (0, 0), (0, 0), (0, 0), (0, 0)] false)) (.cond (.tmp 145) (.seq (.region [(AOper.mk (some 6) (.mov (.const (.bool false))) none)]) .ret) .skip))) (.region [(AOper.mk (some 132) (.mov (.tmp 18)) none), (AOper.mk (some 133) (.ibin .add (.tmp 132) (.const (.int .i64 1))) none), (AOper.mk (some 18) (.mov (.tmp 133)) none)]))))))))) (.region [(AOper.mk (some 97) (.mov (.tmp 15)) none), (AOper.mk (some 98) (.ibin .add (.tmp 97) (.const (.int .i64 1))) none), (AOper.mk (some 99) (.indexArr 2 1 (.tmp 5) (.const (.int .i64 1))) none), (AOper.mk (some 100) (.load1 (.tmp 99)) none), (AOper.mk (some 101) (.convInt .i64 (.tmp 100)) none), (AOper.mk (some 102) (.ibin .add (.tmp 98) (.tmp 101)) none), (AOper.mk (some 15) (.mov (.tmp 102)) none)])))))) (.seq (.region [(AOper.mk (some 146) (.call (.const (.func (.func 10) [] [])) []) none), (AOper.mk (some 6) (.mov (.tmp 146)) none)]) .ret))))

theorem bk_rest (hT : Told E) {K N Tx A : List UInt8} {x0 x1 : UInt8} {b5 c : Nat} {e : TypeId} (hK : K.length = 32) (hN : N.length = 12) (hL : Tx.length ≤ 2000) (hA : A = xsP (keysP K) N Tx ((Tx.length + 15) / 16)) (hc : c ≤ Tx.length) {n0 : Nat} {T0 : T ABlk} (hb5n : b5 < n0)
    (hb5 : T0.get b5 = some (.cells (bs [x0, x1]) e false false)) {Q : AV → Heap → Prop}
    (hQ : ∀ H', n0 ≤ H'.next → (∀ j, j < n0 → H'.t.get j = T0.get j) → Q (.bool true) H') {a : Frm} {H : Heap} (g0 : a.get 0 = some (.str K)) (g1 : a.get 1 = some (.str Tx)) (g5 : a.get 5 = some (.ptr (some (b5, 0)))) (g7 : a.get 7 = some (.str N)) (g8 : a.get 8 = some (.str A)) (g12 : a.get 12 = some (nn c))
    (hn : n0 ≤ H.next) (hk : ∀ j, j < n0 → H.t.get j = T0.get j) : W E bkRest a H (retQ [.tmp 6] Q) := by
  refine W.seq (W.region ?_)
  simp only [w_mov, eX_t, eX_c, put_s, put_n, getset, Nat.reduceEqDiff, if_false, if_true, Option.getD_some, g0, g1, g7, g12]
  rw [w_sliceStr]
  refine ⟨.str (Tx.take c), ?_, ?_⟩
  · simp only [rd, eX_t, eX_c, put_s, put_n, getset, Nat.reduceEqDiff, if_false, if_true, Option.getD_some]
    rw [bounds_hi (h := c) (by simp only [eX_t, eX_c, put_s, put_n, getset, Nat.reduceEqDiff, if_false, if_true, Option.getD_some]) hc]
    rfl
  simp only [put_s]
  refine WOps.call (g := 12) (first := []) (captured := []) rfl ?_
  simp only [List.map_nil, List.map_cons, List.nil_append, List.append_nil, eX_t, eX_c, put_s, put_n, getset, Nat.reduceEqDiff, if_false, if_true, Option.getD_some]
  refine Ctr_ok hT.funcs hT.none ?_
  intro H1 hn1 hb1
  have hlt : (Tx.take c).length = c := by rw [List.length_take]; omega
  rw [ctrP_full hK hN (by omega), hlt, xs_take _ _ _ hc, ← hA]
  simp only [w_mov, w_ibin, w_load1, w_loadN, w_nilCheck, w_indexArr, w_indexSl, w_indexVal, w_indexStr, w_lenStr, w_lenSl, w_store, w_alloc, w_box, w_build, w_sliceArr, w_bytesToStr, w_pick, WOps_nil, thenQ_normal, eX_t, eX_c, put_s, put_n, getset, Nat.reduceEqDiff, if_false, if_true, Option.getD_some, rd, natOf_nn, natOf_by, Option.some.injEq, exists_eq_left', Prod.mk.injEq, and_assoc, exists_and_left, true_and, Nat.zero_add, Nat.add_zero, Nat.mul_one, ble_t, mul_nn, quo_nn, rem_nn, add_nn, sub_nn, lss_nn, eql_nn, neq_nn, xor_by, k0, k1, k2, k3, k4, k5, k6, k7, k8, k12, k13, k14, k15, k16, k32, k60, k254, k256, w_extract, List.getElem?_cons_zero, List.getElem?_cons_succ]
  refine W.seq (W.seq (W.region ?_))
  simp only [w_mov, w_ibin, w_load1, w_loadN, w_nilCheck, w_indexArr, w_indexSl, w_indexVal, w_indexStr, w_lenStr, w_lenSl, w_store, w_alloc, w_box, w_build, w_sliceArr, w_bytesToStr, w_pick, WOps_nil, thenQ_normal, eX_t, eX_c, put_s, put_n, getset, Nat.reduceEqDiff, if_false, if_true, Option.getD_some, rd, natOf_nn, natOf_by, Option.some.injEq, exists_eq_left', Prod.mk.injEq, and_assoc, exists_and_left, true_and, Nat.zero_add, Nat.add_zero, Nat.mul_one, ble_t, mul_nn, quo_nn, rem_nn, add_nn, sub_nn, lss_nn, eql_nn, neq_nn, xor_by, k0, k1, k2, k3, k4, k5, k6, k7, k8, k12, k13, k14, k15, k16, k32, k60, k254, k256, ne_eq, not_true_eq_false, decide_false]
  refine WOps_want ((wantedA_some (d := 85) (b := false) rfl (by simp only [eX_t, eX_c, put_s, put_n, getset, Nat.reduceEqDiff, if_false, if_true, Option.getD_some])).trans rfl) ?_
  simp only [w_mov, w_ibin, w_load1, w_loadN, w_nilCheck, w_indexArr, w_indexSl, w_indexVal, w_indexStr, w_lenStr, w_lenSl, w_store, w_alloc, w_box, w_build, w_sliceArr, w_bytesToStr, w_pick, WOps_nil, thenQ_normal, eX_t, eX_c, put_s, put_n, getset, Nat.reduceEqDiff, if_false, if_true, Option.getD_some, rd, natOf_nn, natOf_by, Option.some.injEq, exists_eq_left', Prod.mk.injEq, and_assoc, exists_and_left, true_and, Nat.zero_add, Nat.add_zero, Nat.mul_one, ble_t, mul_nn, quo_nn, rem_nn, add_nn, sub_nn, lss_nn, eql_nn, neq_nn, xor_by, k0, k1, k2, k3, k4, k5, k6, k7, k8, k12, k13, k14, k15, k16, k32, k60, k254, k256, g8]
  refine WOps_want ((wantedA_some (d := 85) (b := false) rfl (by simp only [eX_t, eX_c, put_s, put_n, getset, Nat.reduceEqDiff, if_false, if_true, Option.getD_some])).trans rfl) ?_
  simp only [w_mov, w_ibin, w_load1, w_loadN, w_nilCheck, w_indexArr, w_indexSl, w_indexVal, w_indexStr, w_lenStr, w_lenSl, w_store, w_alloc, w_box, w_build, w_sliceArr, w_bytesToStr, w_pick, WOps_nil, thenQ_normal, eX_t, eX_c, put_s, put_n, getset, Nat.reduceEqDiff, if_false, if_true, Option.getD_some, rd, natOf_nn, natOf_by, Option.some.injEq, exists_eq_left', Prod.mk.injEq, and_assoc, exists_and_left, true_and, Nat.zero_add, Nat.add_zero, Nat.mul_one, ble_t, mul_nn, quo_nn, rem_nn, add_nn, sub_nn, lss_nn, eql_nn, neq_nn, xor_by, k0, k1, k2, k3, k4, k5, k6, k7, k8, k12, k13, k14, k15, k16, k32, k60, k254, k256, g8]
  refine WOps_want ((wantedA_some (d := 85) (b := false) rfl (by simp only [eX_t, eX_c, put_s, put_n, getset, Nat.reduceEqDiff, if_false, if_true, Option.getD_some])).trans rfl) ?_
  simp only [w_mov, w_ibin, w_load1, w_loadN, w_nilCheck, w_indexArr, w_indexSl, w_indexVal, w_indexStr, w_lenStr, w_lenSl, w_store, w_alloc, w_box, w_build, w_sliceArr, w_bytesToStr, w_pick, WOps_nil, thenQ_normal, eX_t, eX_c, put_s, put_n, getset, Nat.reduceEqDiff, if_false, if_true, Option.getD_some, rd, natOf_nn, natOf_by, Option.some.injEq, exists_eq_left', Prod.mk.injEq, and_assoc, exists_and_left, true_and, Nat.zero_add, Nat.add_zero, Nat.mul_one, ble_t, mul_nn, quo_nn, rem_nn, add_nn, sub_nn, lss_nn, eql_nn, neq_nn, xor_by, k0, k1, k2, k3, k4, k5, k6, k7, k8, k12, k13, k14, k15, k16, k32, k60, k254, k256, g12]
  refine WOps_want ((wantedA_some (d := 85) (b := false) rfl (by simp only [eX_t, eX_c, put_s, put_n, getset, Nat.reduceEqDiff, if_false, if_true, Option.getD_some])).trans rfl) ?_
  rw [w_sliceStr]
  refine ⟨.str (A.take c), ?_, ?_⟩
  · simp only [rd, eX_t, eX_c, put_s, put_n, getset, Nat.reduceEqDiff, if_false, if_true, Option.getD_some]
    rw [bounds_hi (h := c) (by simp only [eX_t, eX_c, put_s, put_n, getset, Nat.reduceEqDiff, if_false, if_true, Option.getD_some]) (by rw [hA, length_xsP]; exact hc)]
    rfl
  simp only [put_s]
  refine WOps_want ((wantedA_some (d := 85) (b := false) rfl (by simp only [eX_t, eX_c, put_s, put_n, getset, Nat.reduceEqDiff, if_false, if_true, Option.getD_some])).trans rfl) ?_
  simp only [w_mov, w_ibin, w_load1, w_loadN, w_nilCheck, w_indexArr, w_indexSl, w_indexVal, w_indexStr, w_lenStr, w_lenSl, w_store, w_alloc, w_box, w_build, w_sliceArr, w_bytesToStr, w_pick, WOps_nil, thenQ_normal, eX_t, eX_c, put_s, put_n, getset, Nat.reduceEqDiff, if_false, if_true, Option.getD_some, rd, natOf_nn, natOf_by, Option.some.injEq, exists_eq_left', Prod.mk.injEq, and_assoc, exists_and_left, true_and, Nat.zero_add, Nat.add_zero, Nat.mul_one, ble_t, mul_nn, quo_nn, rem_nn, add_nn, sub_nn, lss_nn, eql_nn, neq_nn, xor_by, k0, k1, k2, k3, k4, k5, k6, k7, k8, k12, k13, k14, k15, k16, k32, k60, k254, k256, w_sbin, sbin_neq, beq_self_eq_true, Bool.not_true, cond_false]
  refine W.cond (b := false) (by simp only [eX_t, eX_c, put_s, put_n, getset, Nat.reduceEqDiff, if_false, if_true, Option.getD_some]) (W.skip ?_)
  rw [thenQ_normal]
  refine W.seq (W.seq (W.region ?_))
  simp only [w_mov, w_ibin, w_load1, w_loadN, w_nilCheck, w_indexArr, w_indexSl, w_indexVal, w_indexStr, w_lenStr, w_lenSl, w_store, w_alloc, w_box, w_build, w_sliceArr, w_bytesToStr, w_pick, WOps_nil, thenQ_normal, eX_t, eX_c, put_s, put_n, getset, Nat.reduceEqDiff, if_false, if_true, Option.getD_some, rd, natOf_nn, natOf_by, Option.some.injEq, exists_eq_left', Prod.mk.injEq, and_assoc, exists_and_left, true_and, Nat.zero_add, Nat.add_zero, Nat.mul_one, ble_t, mul_nn, quo_nn, rem_nn, add_nn, sub_nn, lss_nn, eql_nn, neq_nn, xor_by, k0, k1, k2, k3, k4, k5, k6, k7, k8, k12, k13, k14, k15, k16, k32, k60, k254, k256]
  refine W.block ?_
  refine bk_main hT (K := K) (N := N) (Tx := Tx) (A := A) (x0 := x0) (x1 := x1) (b5 := b5) (e := e) (n0 := n0) (T0 := T0) hK hN hL hA hb5n hb5 ?_ (Tx.length + 1) 0 (by omega) (by omega) _ H1 (by simp only [eX_t, eX_c, put_s, put_n, getset, Nat.reduceEqDiff, if_false, if_true, Option.getD_some]; exact g0) (by simp only [eX_t, eX_c, put_s, put_n, getset, Nat.reduceEqDiff, if_false, if_true, Option.getD_some]; exact g1) (by simp only [eX_t, eX_c, put_s, put_n, getset, Nat.reduceEqDiff, if_false, if_true, Option.getD_some]; exact g5) (by simp only [eX_t, eX_c, put_s, put_n, getset, Nat.reduceEqDiff, if_false, if_true, Option.getD_some]; exact g7) (by simp only [eX_t, eX_c, put_s, put_n, getset, Nat.reduceEqDiff, if_false, if_true, Option.getD_some]; exact g8) (by simp only [eX_t, eX_c, put_s, put_n, getset, Nat.reduceEqDiff, if_false, if_true, Option.getD_some]) (by omega) (fun j hj => by rw [hb1 _ (by omega), hk _ hj])
  intro a2 H2 hn2 hk2
  simp only [blockQ_exit, Nat.beq_refl, cond_true, thenQ_normal]
  refine W.seq (W.region ?_)
  refine WOps.call (g := 10) (first := []) (captured := []) rfl ?_
  simp only [List.map_nil, List.map_cons, List.nil_append, List.append_nil, eX_t, eX_c, put_s, put_n, getset, Nat.reduceEqDiff, if_false, if_true, Option.getD_some]
  refine works_ok hT ?_
  intro H3 hn3 hb3
  simp only [w_mov, w_ibin, w_load1, w_loadN, w_nilCheck, w_indexArr, w_indexSl, w_indexVal, w_indexStr, w_lenStr, w_lenSl, w_store, w_alloc, w_box, w_build, w_sliceArr, w_bytesToStr, w_pick, WOps_nil, thenQ_normal, eX_t, eX_c, put_s, put_n, getset, Nat.reduceEqDiff, if_false, if_true, Option.getD_some, rd, natOf_nn, natOf_by, Option.some.injEq, exists_eq_left', Prod.mk.injEq, and_assoc, exists_and_left, true_and, Nat.zero_add, Nat.add_zero, Nat.mul_one, ble_t, mul_nn, quo_nn, rem_nn, add_nn, sub_nn, lss_nn, eql_nn, neq_nn, xor_by, k0, k1, k2, k3, k4, k5, k6, k7, k8, k12, k13, k14, k15, k16, k32, k60, k254, k256, cond_true]
  refine W.ret ⟨.inr rfl, ?_⟩
  simp only [resultsOf, resOf, eX_t, eX_c, put_s, put_n, getset, Nat.reduceEqDiff, if_false, if_true, Option.getD_some, Option.some.injEq, exists_eq_left', oneOf]
  exact hQ _ (by omega) fun j hj => by rw [hb3 _ (by omega), hk2 _ hj]

theorem AesBack_run (hT : Told E) {H : Heap} {K Tx : List UInt8} {x0 x1 : UInt8} {Q : AV → Heap → Prop}
    (hQ : ∀ H', H.next ≤ H'.next → (∀ j, j < H.next → H'.t.get j = H.t.get j) → Q (.bool true) H') : WCall E 7 [.str K, .str Tx, .agg (bs [x0, x1])] H Q := by
  refine WCall.func (hT.none 7 _ _ (by decide)) ((hT.funcs 7).trans rfl) ?_
  have f0 : (frameOf [.str K, .str Tx, .agg (bs [x0, x1])] 0 .nil).get 0 = some (.str K) := rfl
  have f1 : (frameOf [.str K, .str Tx, .agg (bs [x0, x1])] 0 .nil).get 1 = some (.str Tx) := rfl
  have f2 : (frameOf [.str K, .str Tx, .agg (bs [x0, x1])] 0 .nil).get 2 = some (.agg (bs [x0, x1])) := rfl
  generalize frameOf [.str K, .str Tx, .agg (bs [x0, x1])] 0 .nil = a at f0 f1 f2
  have e32 : ∀ n : Nat, AV.int .i64 (.ofNat n) = nn n := fun _ => rfl
  refine W.seq (W.region ?_)
  rw [w_box]
  simp only [eX_t, eX_c, put_s, put_n, getset, Nat.reduceEqDiff, if_false, if_true, Option.getD_some, f2, cells_agg]
  have hp := get_push H (.cells (bs [x0, x1]) 33 false false)
  have hpn := next_push H (.cells (bs [x0, x1]) 33 false false)
  generalize H.push (.cells (bs [x0, x1]) 33 false false) = H0 at hp hpn ⊢
  simp only [w_mov, w_ibin, w_load1, w_loadN, w_nilCheck, w_indexArr, w_indexSl, w_indexVal, w_indexStr, w_lenStr, w_lenSl, w_store, w_alloc, w_box, w_build, w_sliceArr, w_bytesToStr, w_pick, WOps_nil, thenQ_normal, eX_t, eX_c, put_s, put_n, getset, Nat.reduceEqDiff, if_false, if_true, Option.getD_some, rd, natOf_nn, natOf_by, Option.some.injEq, exists_eq_left', Prod.mk.injEq, and_assoc, exists_and_left, true_and, Nat.zero_add, Nat.add_zero, Nat.mul_one, ble_t, mul_nn, quo_nn, rem_nn, add_nn, sub_nn, lss_nn, eql_nn, neq_nn, xor_by, k0, k1, k2, k3, k4, k5, k6, k7, k8, k12, k13, k14, k15, k16, k32, k60, k254, k256]
  refine W.seq (W.region ?_)
  simp only [w_mov, w_ibin, w_load1, w_loadN, w_nilCheck, w_indexArr, w_indexSl, w_indexVal, w_indexStr, w_lenStr, w_lenSl, w_store, w_alloc, w_box, w_build, w_sliceArr, w_bytesToStr, w_pick, WOps_nil, thenQ_normal, eX_t, eX_c, put_s, put_n, getset, Nat.reduceEqDiff, if_false, if_true, Option.getD_some, rd, natOf_nn, natOf_by, Option.some.injEq, exists_eq_left', Prod.mk.injEq, and_assoc, exists_and_left, true_and, Nat.zero_add, Nat.add_zero, Nat.mul_one, ble_t, mul_nn, quo_nn, rem_nn, add_nn, sub_nn, lss_nn, eql_nn, neq_nn, xor_by, k0, k1, k2, k3, k4, k5, k6, k7, k8, k12, k13, k14, k15, k16, k32, k60, k254, k256, f0]
  refine WOps.call (g := 11) (first := []) (captured := []) rfl ?_
  simp only [List.map_nil, List.map_cons, List.nil_append, List.append_nil, eX_t, eX_c, put_s, put_n, getset, Nat.reduceEqDiff, if_false, if_true, Option.getD_some]
  refine brought_ok hT.funcs hT.none (by omega) ?_
  intro H1 hn1 hb1
  have lK : (broughtP K 32).length = 32 := length_broughtP K 32
  generalize broughtP K 32 = K' at lK
  simp only [w_mov, w_ibin, w_load1, w_loadN, w_nilCheck, w_indexArr, w_indexSl, w_indexVal, w_indexStr, w_lenStr, w_lenSl, w_store, w_alloc, w_box, w_build, w_sliceArr, w_bytesToStr, w_pick, WOps_nil, thenQ_normal, eX_t, eX_c, put_s, put_n, getset, Nat.reduceEqDiff, if_false, if_true, Option.getD_some, rd, natOf_nn, natOf_by, Option.some.injEq, exists_eq_left', Prod.mk.injEq, and_assoc, exists_and_left, true_and, Nat.zero_add, Nat.add_zero, Nat.mul_one, ble_t, mul_nn, quo_nn, rem_nn, add_nn, sub_nn, lss_nn, eql_nn, neq_nn, xor_by, k0, k1, k2, k3, k4, k5, k6, k7, k8, k12, k13, k14, k15, k16, k32, k60, k254, k256]
  refine W.seq (W.region ?_)
  have h5 : H1.t.get H.next = some (.cells (bs [x0, x1]) 33 false false) := by rw [hb1 _ (by omega), hp, if_pos rfl]
  have l5 : H1.load H.next 0 = some (by' x0) := by
    obtain ⟨T1, n1⟩ := H1
    rw [load_blk' h5]
    rfl
  simp (disch := omega) only [w_mov, w_ibin, w_load1, w_loadN, w_nilCheck, w_indexArr, w_indexSl, w_indexVal, w_indexStr, w_lenStr, w_lenSl, w_store, w_alloc, w_box, w_build, w_sliceArr, w_bytesToStr, w_pick, WOps_nil, thenQ_normal, eX_t, eX_c, put_s, put_n, getset, Nat.reduceEqDiff, if_false, if_true, Option.getD_some, rd, natOf_nn, natOf_by, Option.some.injEq, exists_eq_left', Prod.mk.injEq, and_assoc, exists_and_left, true_and, Nat.zero_add, Nat.add_zero, Nat.mul_one, ble_t, mul_nn, quo_nn, rem_nn, add_nn, sub_nn, lss_nn, eql_nn, neq_nn, xor_by, k0, k1, k2, k3, k4, k5, k6, k7, k8, k12, k13, k14, k15, k16, k32, k60, k254, k256, l5]
  refine w_build1 (b := x0) (by simp only [eX_t, eX_c, put_s, put_n, getset, Nat.reduceEqDiff, if_false, if_true, Option.getD_some]) ?_
  have hp1 := get_push H1 (.cells (bs [x0]) 5 false false)
  have hpn1 := next_push H1 (.cells (bs [x0]) 5 false false)
  generalize H1.push (.cells (bs [x0]) 5 false false) = H2 at hp1 hpn1 ⊢
  obtain ⟨T2, n2⟩ := H2
  simp only at hp1 hpn1
  rw [w_bytesToStr]
  refine ⟨_, toStr (b := H1.next) (L := 1) (cap := .known 1) (S := [x0]) (e := 5) (op := false) (ro := false) (by simp only [eX_t, eX_c, put_s, put_n, getset, Nat.reduceEqDiff, if_false, if_true, Option.getD_some]) rfl (by rw [hp1, if_pos rfl]), ?_⟩
  simp only [put_s]
  refine WOps.call (g := 11) (first := []) (captured := []) rfl ?_
  simp only [List.map_nil, List.map_cons, List.nil_append, List.append_nil, eX_t, eX_c, put_s, put_n, getset, Nat.reduceEqDiff, if_false, if_true, Option.getD_some, k0, k1, k2, k3, k4, k5, k6, k7, k8, k12, k13, k14, k15, k16, k32, k60, k254, k256]
  refine brought_ok hT.funcs hT.none (by omega) ?_
  intro H3 hn3 hb3
  simp only at hn3 hb3
  have lN : (broughtP [x0] 12).length = 12 := length_broughtP [x0] 12
  generalize broughtP [x0] 12 = N at lN
  simp only [w_mov, w_ibin, w_load1, w_loadN, w_nilCheck, w_indexArr, w_indexSl, w_indexVal, w_indexStr, w_lenStr, w_lenSl, w_store, w_alloc, w_box, w_build, w_sliceArr, w_bytesToStr, w_pick, WOps_nil, thenQ_normal, eX_t, eX_c, put_s, put_n, getset, Nat.reduceEqDiff, if_false, if_true, Option.getD_some, rd, natOf_nn, natOf_by, Option.some.injEq, exists_eq_left', Prod.mk.injEq, and_assoc, exists_and_left, true_and, Nat.zero_add, Nat.add_zero, Nat.mul_one, ble_t, mul_nn, quo_nn, rem_nn, add_nn, sub_nn, lss_nn, eql_nn, neq_nn, xor_by, k0, k1, k2, k3, k4, k5, k6, k7, k8, k12, k13, k14, k15, k16, k32, k60, k254, k256]
  refine W.seq (W.region ?_)
  simp only [w_mov, w_ibin, w_load1, w_loadN, w_nilCheck, w_indexArr, w_indexSl, w_indexVal, w_indexStr, w_lenStr, w_lenSl, w_store, w_alloc, w_box, w_build, w_sliceArr, w_bytesToStr, w_pick, WOps_nil, thenQ_normal, eX_t, eX_c, put_s, put_n, getset, Nat.reduceEqDiff, if_false, if_true, Option.getD_some, rd, natOf_nn, natOf_by, Option.some.injEq, exists_eq_left', Prod.mk.injEq, and_assoc, exists_and_left, true_and, Nat.zero_add, Nat.add_zero, Nat.mul_one, ble_t, mul_nn, quo_nn, rem_nn, add_nn, sub_nn, lss_nn, eql_nn, neq_nn, xor_by, k0, k1, k2, k3, k4, k5, k6, k7, k8, k12, k13, k14, k15, k16, k32, k60, k254, k256, w_minI, f1, e32, kB, List.map_cons, List.map_nil, min_nn]
  rw [w_sliceStr]
  refine ⟨.str (Tx.take (min Tx.length 2000)), ?_, ?_⟩
  · simp only [rd, eX_t, eX_c, put_s, put_n, getset, Nat.reduceEqDiff, if_false, if_true, Option.getD_some]
    rw [bounds_hi (h := min Tx.length 2000) (by simp only [eX_t, eX_c, put_s, put_n, getset, Nat.reduceEqDiff, if_false, if_true, Option.getD_some]) (by omega)]
    rfl
  have lT : (Tx.take (min Tx.length 2000)).length ≤ 2000 := by rw [List.length_take]; omega
  generalize Tx.take (min Tx.length 2000) = Tt at lT
  simp only [w_mov, w_ibin, w_load1, w_loadN, w_nilCheck, w_indexArr, w_indexSl, w_indexVal, w_indexStr, w_lenStr, w_lenSl, w_store, w_alloc, w_box, w_build, w_sliceArr, w_bytesToStr, w_pick, WOps_nil, thenQ_normal, eX_t, eX_c, put_s, put_n, getset, Nat.reduceEqDiff, if_false, if_true, Option.getD_some, rd, natOf_nn, natOf_by, Option.some.injEq, exists_eq_left', Prod.mk.injEq, and_assoc, exists_and_left, true_and, Nat.zero_add, Nat.add_zero, Nat.mul_one, ble_t, mul_nn, quo_nn, rem_nn, add_nn, sub_nn, lss_nn, eql_nn, neq_nn, xor_by, k0, k1, k2, k3, k4, k5, k6, k7, k8, k12, k13, k14, k15, k16, k32, k60, k254, k256]
  refine W.seq (W.region ?_)
  simp only [w_mov, w_ibin, w_load1, w_loadN, w_nilCheck, w_indexArr, w_indexSl, w_indexVal, w_indexStr, w_lenStr, w_lenSl, w_store, w_alloc, w_box, w_build, w_sliceArr, w_bytesToStr, w_pick, WOps_nil, thenQ_normal, eX_t, eX_c, put_s, put_n, getset, Nat.reduceEqDiff, if_false, if_true, Option.getD_some, rd, natOf_nn, natOf_by, Option.some.injEq, exists_eq_left', Prod.mk.injEq, and_assoc, exists_and_left, true_and, Nat.zero_add, Nat.add_zero, Nat.mul_one, ble_t, mul_nn, quo_nn, rem_nn, add_nn, sub_nn, lss_nn, eql_nn, neq_nn, xor_by, k0, k1, k2, k3, k4, k5, k6, k7, k8, k12, k13, k14, k15, k16, k32, k60, k254, k256]
  refine WOps.call (g := 12) (first := []) (captured := []) rfl ?_
  simp only [List.map_nil, List.map_cons, List.nil_append, List.append_nil, eX_t, eX_c, put_s, put_n, getset, Nat.reduceEqDiff, if_false, if_true, Option.getD_some]
  refine Ctr_ok hT.funcs hT.none ?_
  intro H4 hn4 hb4
  rw [ctrP_full lK lN (by omega)]
  have hback := xs_xs (keysP K') N Tt
  have hA : ∃ A, A = xsP (keysP K') N Tt ((Tt.length + 15) / 16) := ⟨_, rfl⟩
  obtain ⟨A, hA⟩ := hA
  rw [← hA] at hback ⊢
  have lA : A.length = Tt.length := by rw [hA, length_xsP]
  simp only [w_mov, w_ibin, w_load1, w_loadN, w_nilCheck, w_indexArr, w_indexSl, w_indexVal, w_indexStr, w_lenStr, w_lenSl, w_store, w_alloc, w_box, w_build, w_sliceArr, w_bytesToStr, w_pick, WOps_nil, thenQ_normal, eX_t, eX_c, put_s, put_n, getset, Nat.reduceEqDiff, if_false, if_true, Option.getD_some, rd, natOf_nn, natOf_by, Option.some.injEq, exists_eq_left', Prod.mk.injEq, and_assoc, exists_and_left, true_and, Nat.zero_add, Nat.add_zero, Nat.mul_one, ble_t, mul_nn, quo_nn, rem_nn, add_nn, sub_nn, lss_nn, eql_nn, neq_nn, xor_by, k0, k1, k2, k3, k4, k5, k6, k7, k8, k12, k13, k14, k15, k16, k32, k60, k254, k256, w_extract, List.getElem?_cons_zero, List.getElem?_cons_succ]
  refine W.seq (W.region ?_)
  simp only [w_mov, w_ibin, w_load1, w_loadN, w_nilCheck, w_indexArr, w_indexSl, w_indexVal, w_indexStr, w_lenStr, w_lenSl, w_store, w_alloc, w_box, w_build, w_sliceArr, w_bytesToStr, w_pick, WOps_nil, thenQ_normal, eX_t, eX_c, put_s, put_n, getset, Nat.reduceEqDiff, if_false, if_true, Option.getD_some, rd, natOf_nn, natOf_by, Option.some.injEq, exists_eq_left', Prod.mk.injEq, and_assoc, exists_and_left, true_and, Nat.zero_add, Nat.add_zero, Nat.mul_one, ble_t, mul_nn, quo_nn, rem_nn, add_nn, sub_nn, lss_nn, eql_nn, neq_nn, xor_by, k0, k1, k2, k3, k4, k5, k6, k7, k8, k12, k13, k14, k15, k16, k32, k60, k254, k256]
  refine WOps.call (g := 12) (first := []) (captured := []) rfl ?_
  simp only [List.map_nil, List.map_cons, List.nil_append, List.append_nil, eX_t, eX_c, put_s, put_n, getset, Nat.reduceEqDiff, if_false, if_true, Option.getD_some]
  refine Ctr_ok hT.funcs hT.none ?_
  intro H5 hn5 hb5
  rw [ctrP_full lK lN (by omega), lA, hback]
  simp only [w_mov, w_ibin, w_load1, w_loadN, w_nilCheck, w_indexArr, w_indexSl, w_indexVal, w_indexStr, w_lenStr, w_lenSl, w_store, w_alloc, w_box, w_build, w_sliceArr, w_bytesToStr, w_pick, WOps_nil, thenQ_normal, eX_t, eX_c, put_s, put_n, getset, Nat.reduceEqDiff, if_false, if_true, Option.getD_some, rd, natOf_nn, natOf_by, Option.some.injEq, exists_eq_left', Prod.mk.injEq, and_assoc, exists_and_left, true_and, Nat.zero_add, Nat.add_zero, Nat.mul_one, ble_t, mul_nn, quo_nn, rem_nn, add_nn, sub_nn, lss_nn, eql_nn, neq_nn, xor_by, k0, k1, k2, k3, k4, k5, k6, k7, k8, k12, k13, k14, k15, k16, k32, k60, k254, k256, w_extract, List.getElem?_cons_zero, List.getElem?_cons_succ]
  refine W.seq (W.seq (W.region ?_))
  simp only [w_mov, w_ibin, w_load1, w_loadN, w_nilCheck, w_indexArr, w_indexSl, w_indexVal, w_indexStr, w_lenStr, w_lenSl, w_store, w_alloc, w_box, w_build, w_sliceArr, w_bytesToStr, w_pick, WOps_nil, thenQ_normal, eX_t, eX_c, put_s, put_n, getset, Nat.reduceEqDiff, if_false, if_true, Option.getD_some, rd, natOf_nn, natOf_by, Option.some.injEq, exists_eq_left', Prod.mk.injEq, and_assoc, exists_and_left, true_and, Nat.zero_add, Nat.add_zero, Nat.mul_one, ble_t, mul_nn, quo_nn, rem_nn, add_nn, sub_nn, lss_nn, eql_nn, neq_nn, xor_by, k0, k1, k2, k3, k4, k5, k6, k7, k8, k12, k13, k14, k15, k16, k32, k60, k254, k256, ne_eq, not_true_eq_false, decide_false]
  refine WOps_want ((wantedA_some (d := 47) (b := false) rfl (by simp only [eX_t, eX_c, put_s, put_n, getset, Nat.reduceEqDiff, if_false, if_true, Option.getD_some])).trans rfl) ?_
  simp only [w_mov, w_ibin, w_load1, w_loadN, w_nilCheck, w_indexArr, w_indexSl, w_indexVal, w_indexStr, w_lenStr, w_lenSl, w_store, w_alloc, w_box, w_build, w_sliceArr, w_bytesToStr, w_pick, WOps_nil, thenQ_normal, eX_t, eX_c, put_s, put_n, getset, Nat.reduceEqDiff, if_false, if_true, Option.getD_some, rd, natOf_nn, natOf_by, Option.some.injEq, exists_eq_left', Prod.mk.injEq, and_assoc, exists_and_left, true_and, Nat.zero_add, Nat.add_zero, Nat.mul_one, ble_t, mul_nn, quo_nn, rem_nn, add_nn, sub_nn, lss_nn, eql_nn, neq_nn, xor_by, k0, k1, k2, k3, k4, k5, k6, k7, k8, k12, k13, k14, k15, k16, k32, k60, k254, k256]
  refine WOps_want ((wantedA_some (d := 47) (b := false) rfl (by simp only [eX_t, eX_c, put_s, put_n, getset, Nat.reduceEqDiff, if_false, if_true, Option.getD_some])).trans rfl) ?_
  simp only [w_mov, w_ibin, w_load1, w_loadN, w_nilCheck, w_indexArr, w_indexSl, w_indexVal, w_indexStr, w_lenStr, w_lenSl, w_store, w_alloc, w_box, w_build, w_sliceArr, w_bytesToStr, w_pick, WOps_nil, thenQ_normal, eX_t, eX_c, put_s, put_n, getset, Nat.reduceEqDiff, if_false, if_true, Option.getD_some, rd, natOf_nn, natOf_by, Option.some.injEq, exists_eq_left', Prod.mk.injEq, and_assoc, exists_and_left, true_and, Nat.zero_add, Nat.add_zero, Nat.mul_one, ble_t, mul_nn, quo_nn, rem_nn, add_nn, sub_nn, lss_nn, eql_nn, neq_nn, xor_by, k0, k1, k2, k3, k4, k5, k6, k7, k8, k12, k13, k14, k15, k16, k32, k60, k254, k256, ne_eq, not_true_eq_false, decide_false, cond_false]
  refine WOps_want ((wantedA_some (d := 51) (b := false) rfl (by simp only [eX_t, eX_c, put_s, put_n, getset, Nat.reduceEqDiff, if_false, if_true, Option.getD_some])).trans rfl) ?_
  simp only [w_mov, w_ibin, w_load1, w_loadN, w_nilCheck, w_indexArr, w_indexSl, w_indexVal, w_indexStr, w_lenStr, w_lenSl, w_store, w_alloc, w_box, w_build, w_sliceArr, w_bytesToStr, w_pick, WOps_nil, thenQ_normal, eX_t, eX_c, put_s, put_n, getset, Nat.reduceEqDiff, if_false, if_true, Option.getD_some, rd, natOf_nn, natOf_by, Option.some.injEq, exists_eq_left', Prod.mk.injEq, and_assoc, exists_and_left, true_and, Nat.zero_add, Nat.add_zero, Nat.mul_one, ble_t, mul_nn, quo_nn, rem_nn, add_nn, sub_nn, lss_nn, eql_nn, neq_nn, xor_by, k0, k1, k2, k3, k4, k5, k6, k7, k8, k12, k13, k14, k15, k16, k32, k60, k254, k256]
  refine WOps_want ((wantedA_some (d := 51) (b := false) rfl (by simp only [eX_t, eX_c, put_s, put_n, getset, Nat.reduceEqDiff, if_false, if_true, Option.getD_some])).trans rfl) ?_
  simp only [w_mov, w_ibin, w_load1, w_loadN, w_nilCheck, w_indexArr, w_indexSl, w_indexVal, w_indexStr, w_lenStr, w_lenSl, w_store, w_alloc, w_box, w_build, w_sliceArr, w_bytesToStr, w_pick, WOps_nil, thenQ_normal, eX_t, eX_c, put_s, put_n, getset, Nat.reduceEqDiff, if_false, if_true, Option.getD_some, rd, natOf_nn, natOf_by, Option.some.injEq, exists_eq_left', Prod.mk.injEq, and_assoc, exists_and_left, true_and, Nat.zero_add, Nat.add_zero, Nat.mul_one, ble_t, mul_nn, quo_nn, rem_nn, add_nn, sub_nn, lss_nn, eql_nn, neq_nn, xor_by, k0, k1, k2, k3, k4, k5, k6, k7, k8, k12, k13, k14, k15, k16, k32, k60, k254, k256]
  refine WOps_want ((wantedA_some (d := 51) (b := false) rfl (by simp only [eX_t, eX_c, put_s, put_n, getset, Nat.reduceEqDiff, if_false, if_true, Option.getD_some])).trans rfl) ?_
  simp only [w_mov, w_ibin, w_load1, w_loadN, w_nilCheck, w_indexArr, w_indexSl, w_indexVal, w_indexStr, w_lenStr, w_lenSl, w_store, w_alloc, w_box, w_build, w_sliceArr, w_bytesToStr, w_pick, WOps_nil, thenQ_normal, eX_t, eX_c, put_s, put_n, getset, Nat.reduceEqDiff, if_false, if_true, Option.getD_some, rd, natOf_nn, natOf_by, Option.some.injEq, exists_eq_left', Prod.mk.injEq, and_assoc, exists_and_left, true_and, Nat.zero_add, Nat.add_zero, Nat.mul_one, ble_t, mul_nn, quo_nn, rem_nn, add_nn, sub_nn, lss_nn, eql_nn, neq_nn, xor_by, k0, k1, k2, k3, k4, k5, k6, k7, k8, k12, k13, k14, k15, k16, k32, k60, k254, k256, w_sbin, sbin_neq, beq_self_eq_true, Bool.not_true, cond_false]
  refine WOps_want ((wantedA_some (d := 56) (b := false) rfl (by simp only [eX_t, eX_c, put_s, put_n, getset, Nat.reduceEqDiff, if_false, if_true, Option.getD_some])).trans rfl) ?_
  simp only [w_mov, w_ibin, w_load1, w_loadN, w_nilCheck, w_indexArr, w_indexSl, w_indexVal, w_indexStr, w_lenStr, w_lenSl, w_store, w_alloc, w_box, w_build, w_sliceArr, w_bytesToStr, w_pick, WOps_nil, thenQ_normal, eX_t, eX_c, put_s, put_n, getset, Nat.reduceEqDiff, if_false, if_true, Option.getD_some, rd, natOf_nn, natOf_by, Option.some.injEq, exists_eq_left', Prod.mk.injEq, and_assoc, exists_and_left, true_and, Nat.zero_add, Nat.add_zero, Nat.mul_one, ble_t, mul_nn, quo_nn, rem_nn, add_nn, sub_nn, lss_nn, eql_nn, neq_nn, xor_by, k0, k1, k2, k3, k4, k5, k6, k7, k8, k12, k13, k14, k15, k16, k32, k60, k254, k256]
  refine WOps_want ((wantedA_some (d := 56) (b := false) rfl (by simp only [eX_t, eX_c, put_s, put_n, getset, Nat.reduceEqDiff, if_false, if_true, Option.getD_some])).trans rfl) ?_
  simp only [w_mov, w_ibin, w_load1, w_loadN, w_nilCheck, w_indexArr, w_indexSl, w_indexVal, w_indexStr, w_lenStr, w_lenSl, w_store, w_alloc, w_box, w_build, w_sliceArr, w_bytesToStr, w_pick, WOps_nil, thenQ_normal, eX_t, eX_c, put_s, put_n, getset, Nat.reduceEqDiff, if_false, if_true, Option.getD_some, rd, natOf_nn, natOf_by, Option.some.injEq, exists_eq_left', Prod.mk.injEq, and_assoc, exists_and_left, true_and, Nat.zero_add, Nat.add_zero, Nat.mul_one, ble_t, mul_nn, quo_nn, rem_nn, add_nn, sub_nn, lss_nn, eql_nn, neq_nn, xor_by, k0, k1, k2, k3, k4, k5, k6, k7, k8, k12, k13, k14, k15, k16, k32, k60, k254, k256]
  refine WOps_want ((wantedA_some (d := 56) (b := false) rfl (by simp only [eX_t, eX_c, put_s, put_n, getset, Nat.reduceEqDiff, if_false, if_true, Option.getD_some])).trans rfl) ?_
  simp only [w_mov, w_ibin, w_load1, w_loadN, w_nilCheck, w_indexArr, w_indexSl, w_indexVal, w_indexStr, w_lenStr, w_lenSl, w_store, w_alloc, w_box, w_build, w_sliceArr, w_bytesToStr, w_pick, WOps_nil, thenQ_normal, eX_t, eX_c, put_s, put_n, getset, Nat.reduceEqDiff, if_false, if_true, Option.getD_some, rd, natOf_nn, natOf_by, Option.some.injEq, exists_eq_left', Prod.mk.injEq, and_assoc, exists_and_left, true_and, Nat.zero_add, Nat.add_zero, Nat.mul_one, ble_t, mul_nn, quo_nn, rem_nn, add_nn, sub_nn, lss_nn, eql_nn, neq_nn, xor_by, k0, k1, k2, k3, k4, k5, k6, k7, k8, k12, k13, k14, k15, k16, k32, k60, k254, k256]
  refine WOps_want ((wantedA_some (d := 56) (b := false) rfl (by simp only [eX_t, eX_c, put_s, put_n, getset, Nat.reduceEqDiff, if_false, if_true, Option.getD_some])).trans rfl) ?_
  simp only [w_mov, w_ibin, w_load1, w_loadN, w_nilCheck, w_indexArr, w_indexSl, w_indexVal, w_indexStr, w_lenStr, w_lenSl, w_store, w_alloc, w_box, w_build, w_sliceArr, w_bytesToStr, w_pick, WOps_nil, thenQ_normal, eX_t, eX_c, put_s, put_n, getset, Nat.reduceEqDiff, if_false, if_true, Option.getD_some, rd, natOf_nn, natOf_by, Option.some.injEq, exists_eq_left', Prod.mk.injEq, and_assoc, exists_and_left, true_and, Nat.zero_add, Nat.add_zero, Nat.mul_one, ble_t, mul_nn, quo_nn, rem_nn, add_nn, sub_nn, lss_nn, eql_nn, neq_nn, xor_by, k0, k1, k2, k3, k4, k5, k6, k7, k8, k12, k13, k14, k15, k16, k32, k60, k254, k256, e32, lA]
  refine WOps_want ((wantedA_some (d := 56) (b := false) rfl (by simp only [eX_t, eX_c, put_s, put_n, getset, Nat.reduceEqDiff, if_false, if_true, Option.getD_some])).trans rfl) ?_
  simp only [w_mov, w_ibin, w_load1, w_loadN, w_nilCheck, w_indexArr, w_indexSl, w_indexVal, w_indexStr, w_lenStr, w_lenSl, w_store, w_alloc, w_box, w_build, w_sliceArr, w_bytesToStr, w_pick, WOps_nil, thenQ_normal, eX_t, eX_c, put_s, put_n, getset, Nat.reduceEqDiff, if_false, if_true, Option.getD_some, rd, natOf_nn, natOf_by, Option.some.injEq, exists_eq_left', Prod.mk.injEq, and_assoc, exists_and_left, true_and, Nat.zero_add, Nat.add_zero, Nat.mul_one, ble_t, mul_nn, quo_nn, rem_nn, add_nn, sub_nn, lss_nn, eql_nn, neq_nn, xor_by, k0, k1, k2, k3, k4, k5, k6, k7, k8, k12, k13, k14, k15, k16, k32, k60, k254, k256, ne_eq, not_true_eq_false, decide_false, cond_false]
  refine W.cond (b := false) (by simp only [eX_t, eX_c, put_s, put_n, getset, Nat.reduceEqDiff, if_false, if_true, Option.getD_some]) (W.skip ?_)
  rw [thenQ_normal]
  refine W.seq (W.region ?_)
  simp only [w_mov, w_ibin, w_load1, w_loadN, w_nilCheck, w_indexArr, w_indexSl, w_indexVal, w_indexStr, w_lenStr, w_lenSl, w_store, w_alloc, w_box, w_build, w_sliceArr, w_bytesToStr, w_pick, WOps_nil, thenQ_normal, eX_t, eX_c, put_s, put_n, getset, Nat.reduceEqDiff, if_false, if_true, Option.getD_some, rd, natOf_nn, natOf_by, Option.some.injEq, exists_eq_left', Prod.mk.injEq, and_assoc, exists_and_left, true_and, Nat.zero_add, Nat.add_zero, Nat.mul_one, ble_t, mul_nn, quo_nn, rem_nn, add_nn, sub_nn, lss_nn, eql_nn, neq_nn, xor_by, k0, k1, k2, k3, k4, k5, k6, k7, k8, k12, k13, k14, k15, k16, k32, k60, k254, k256]
  have hfr : ∀ j, j < H.next + 1 → H5.t.get j = H0.t.get j := fun j hj => by rw [hb5 _ (by omega), hb4 _ (by omega), hb3 _ (by omega), hp1, if_neg (by omega), hb1 _ (by omega)]
  have h50 : H0.t.get H.next = some (.cells (bs [x0, x1]) 33 false false) := by rw [hp, if_pos rfl]
  refine W.seq (W.seq (W.region ?_))
  simp only [w_mov, w_ibin, w_load1, w_loadN, w_nilCheck, w_indexArr, w_indexSl, w_indexVal, w_indexStr, w_lenStr, w_lenSl, w_store, w_alloc, w_box, w_build, w_sliceArr, w_bytesToStr, w_pick, WOps_nil, thenQ_normal, eX_t, eX_c, put_s, put_n, getset, Nat.reduceEqDiff, if_false, if_true, Option.getD_some, rd, natOf_nn, natOf_by, Option.some.injEq, exists_eq_left', Prod.mk.injEq, and_assoc, exists_and_left, true_and, Nat.zero_add, Nat.add_zero, Nat.mul_one, ble_t, mul_nn, quo_nn, rem_nn, add_nn, sub_nn, lss_nn, eql_nn, neq_nn, xor_by, k0, k1, k2, k3, k4, k5, k6, k7, k8, k12, k13, k14, k15, k16, k32, k60, k254, k256, e32, gtr_nn]
  have fin : ∀ (c : Nat) (a6 : Frm), c ≤ Tt.length → a6.get 0 = some (.str K') → a6.get 1 = some (.str Tt) → a6.get 5 = some (.ptr (some (H.next, 0))) → a6.get 7 = some (.str N) → a6.get 8 = some (.str A) → a6.get 12 = some (nn c) → W E bkRest a6 H5 (retQ [.tmp 6] Q) := fun c a6 hc q0 q1 q5 q7 q8 q12 =>
    bk_rest hT (K := K') (N := N) (Tx := Tt) (A := A) (x0 := x0) (x1 := x1) (b5 := H.next) (c := c) (e := 33) (n0 := H.next + 1) (T0 := H0.t) lK lN lT hA hc (by omega) h50 (fun H' h1 h2 => hQ H' (by omega) fun j hj => by rw [h2 _ (by omega), hp, if_neg (by omega)]) q0 q1 q5 q7 q8 q12 (by omega) hfr
  by_cases hz : 0 < Tt.length
  · refine W.cond (b := true) (by simp only [eX_t, eX_c, put_s, put_n, getset, Nat.reduceEqDiff, if_false, if_true, Option.getD_some]; simp [hz]) ?_
    rw [cond_true]
    refine W.region ?_
    have l51 : H5.load H.next (0 + 1 * 1) = some (by' x1) := by
      have h55 : H5.t.get H.next = some (.cells (bs [x0, x1]) 33 false false) := by rw [hfr _ (by omega)]; exact h50
      obtain ⟨T5, n5⟩ := H5
      rw [load_blk' h55]
      rfl
    simp only [Nat.zero_add, Nat.mul_one] at l51
    simp (disch := omega) only [w_mov, w_ibin, w_load1, w_loadN, w_nilCheck, w_indexArr, w_indexSl, w_indexVal, w_indexStr, w_lenStr, w_lenSl, w_store, w_alloc, w_box, w_build, w_sliceArr, w_bytesToStr, w_pick, WOps_nil, thenQ_normal, eX_t, eX_c, put_s, put_n, getset, Nat.reduceEqDiff, if_false, if_true, Option.getD_some, rd, natOf_nn, natOf_by, Option.some.injEq, exists_eq_left', Prod.mk.injEq, and_assoc, exists_and_left, true_and, Nat.zero_add, Nat.add_zero, Nat.mul_one, ble_t, mul_nn, quo_nn, rem_nn, add_nn, sub_nn, lss_nn, eql_nn, neq_nn, xor_by, k0, k1, k2, k3, k4, k5, k6, k7, k8, k12, k13, k14, k15, k16, k32, k60, k254, k256, l51]
    rw [w_convI]
    refine ⟨_, conv_i64 (b := x1) (by simp only [eX_t, eX_c, put_s, put_n, getset, Nat.reduceEqDiff, if_false, if_true, Option.getD_some]), ?_⟩
    have := x1.toNat_lt
    simp (disch := omega) only [w_mov, w_ibin, w_load1, w_loadN, w_nilCheck, w_indexArr, w_indexSl, w_indexVal, w_indexStr, w_lenStr, w_lenSl, w_store, w_alloc, w_box, w_build, w_sliceArr, w_bytesToStr, w_pick, WOps_nil, thenQ_normal, eX_t, eX_c, put_s, put_n, getset, Nat.reduceEqDiff, if_false, if_true, Option.getD_some, rd, natOf_nn, natOf_by, Option.some.injEq, exists_eq_left', Prod.mk.injEq, and_assoc, exists_and_left, true_and, Nat.zero_add, Nat.add_zero, Nat.mul_one, ble_t, mul_nn, quo_nn, rem_nn, add_nn, sub_nn, lss_nn, eql_nn, neq_nn, xor_by, k0, k1, k2, k3, k4, k5, k6, k7, k8, k12, k13, k14, k15, k16, k32, k60, k254, k256, e32]
    refine fin (x1.toNat * 8 % (Tt.length + 1)) _ ?_ (by simp only [eX_t, eX_c, put_s, put_n, getset, Nat.reduceEqDiff, if_false, if_true, Option.getD_some]) (by simp only [eX_t, eX_c, put_s, put_n, getset, Nat.reduceEqDiff, if_false, if_true, Option.getD_some]) (by simp only [eX_t, eX_c, put_s, put_n, getset, Nat.reduceEqDiff, if_false, if_true, Option.getD_some]) (by simp only [eX_t, eX_c, put_s, put_n, getset, Nat.reduceEqDiff, if_false, if_true, Option.getD_some]) (by simp only [eX_t, eX_c, put_s, put_n, getset, Nat.reduceEqDiff, if_false, if_true, Option.getD_some]) (by simp only [eX_t, eX_c, put_s, put_n, getset, Nat.reduceEqDiff, if_false, if_true, Option.getD_some])
    have := Nat.mod_lt (x1.toNat * 8) (show 0 < Tt.length + 1 by omega)
    omega
  · refine W.cond (b := false) (by simp only [eX_t, eX_c, put_s, put_n, getset, Nat.reduceEqDiff, if_false, if_true, Option.getD_some]; simp [hz]) ?_
    rw [cond_false]
    refine W.skip ?_
    rw [thenQ_normal]
    exact fin 0 _ (by omega) (by simp only [eX_t, eX_c, put_s, put_n, getset, Nat.reduceEqDiff, if_false, if_true, Option.getD_some]) (by simp only [eX_t, eX_c, put_s, put_n, getset, Nat.reduceEqDiff, if_false, if_true, Option.getD_some]) (by simp only [eX_t, eX_c, put_s, put_n, getset, Nat.reduceEqDiff, if_false, if_true, Option.getD_some]) (by simp only [eX_t, eX_c, put_s, put_n, getset, Nat.reduceEqDiff, if_false, if_true, Option.getD_some]) (by simp only [eX_t, eX_c, put_s, put_n, getset, Nat.reduceEqDiff, if_false, if_true, Option.getD_some]) (by simp only [eX_t, eX_c, put_s, put_n, getset, Nat.reduceEqDiff, if_false, if_true, Option.getD_some])
end Go.AE
end
-- The law AesKnown run on the machine.
section
set_option linter.unusedVariables false
set_option linter.unusedSimpArgs false
set_option maxRecDepth 100000
set_option maxHeartbeats 1000000
namespace Go.AE
open Go.Proofs
variable {E : Env}

def ctN : List UInt8 := [97, 98, 99, 100, 101, 102, 103, 104, 105, 106, 107, 108]
def ctT : List UInt8 := [104, 101, 108, 108, 111, 44, 32, 99, 111, 117, 110, 116, 101, 114, 32, 109, 111, 100, 101, 58, 32, 109, 111, 114, 101, 32, 116, 104, 97, 110, 32, 97, 32, 98, 108, 111, 99, 107]
def ctO : List UInt8 := [0x8b, 0xf8, 0x70, 0x6e, 0x55, 0x95, 0x18, 0x4e, 0x0f, 0x02, 0xaa, 0x5f, 0xc8, 0x7b, 0x02, 0x2c, 0x67, 0x41, 0x9e, 0x8a, 0x38, 0x9b, 0x1b, 0xa9, 0xc5, 0xc0, 0xf8, 0x97, 0x27, 0x61, 0x34, 0xd9, 0xdf, 0x55, 0x1b, 0x30, 0x62, 0x88]
def ctH : List UInt8 := [56, 98, 102, 56, 55, 48, 54, 101, 53, 53, 57, 53, 49, 56, 52, 101, 48, 102, 48, 50, 97, 97, 53, 102, 99, 56, 55, 98, 48, 50, 50, 99, 54, 55, 52, 49, 57, 101, 56, 97, 51, 56, 57, 98, 49, 98, 97, 57, 99, 53, 99, 48, 102, 56, 57, 55, 50, 55, 54, 49, 51, 52, 100, 57, 100, 102, 53, 53, 49, 98, 51, 48, 54, 50, 56, 56]
theorem known_ctr : ctrP risingK ctN ctT = (ctO, 0) := by kernel_rfl
theorem run15b : valOf (acall E0 1000 15 [.str ctO] ⟨.nil, 0⟩) = some (.str ctH) := by kernel_rfl

theorem blockP_key {K S : List UInt8} (hK : K.length ≠ 32) : blockP K S = ([], 8) := by unfold blockP; rw [if_pos hK]
theorem blockP_arg {K S : List UInt8} (hK : K.length = 32) (hS : S.length ≠ 16) : blockP K S = ([], 2) := by unfold blockP; rw [if_neg (by omega), if_pos hS]
theorem ctrP_key {K N Tx : List UInt8} (hK : K.length ≠ 32) : ctrP K N Tx = ([], 8) := by unfold ctrP; rw [if_pos hK]
theorem ctrP_arg {K N Tx : List UInt8} (hK : K.length = 32) (hN : N.length ≠ 12) : ctrP K N Tx = ([], 2) := by unfold ctrP; rw [if_neg (by omega), if_pos hN]
theorem ctrP_long {K N Tx : List UInt8} (hK : K.length = 32) (hN : N.length = 12) (hT : 1048576 < Tx.length) : ctrP K N Tx = ([], 3) := by unfold ctrP; rw [if_neg (by omega), if_neg (by omega), if_pos hT]
theorem ctrP_nil {K N : List UInt8} (hK : K.length = 32) (hN : N.length = 12) : ctrP K N [] = ([], 0) := by
  rw [ctrP_full hK hN (Nat.zero_le _)]; rfl

attribute [local irreducible] keysP encP blockP ctrP stP xsP

def sums2 : CallF := fun f args H => match f, args with
  | 15, [.str s] => bif beqBytes s ctO then some (.str ctH, H) else sums1 15 [.str s] H
  | _, _ => sums1 f args H

theorem sums2_ok : CallOk Try.prog sums2 := by
  intro f args H v H' h
  unfold sums2 at h
  split at h
  · rename_i s
    cases hb : beqBytes s ctO with
    | false => rw [hb, cond_false] at h; exact sums1_ok _ _ _ _ _ h
    | true =>
      rw [beqBytes_eq] at hb
      obtain rfl := eq_of_beq hb
      simp only [beqBytes_eq, beq_self_eq_true, cond_true, Option.some.injEq, Prod.mk.injEq] at h
      obtain ⟨rfl, rfl⟩ := h
      exact lifted run15b rfl rfl H
  · exact sums1_ok _ _ _ _ _ h

def E2 : Env := { funcs := fun f => Aes.funcsT.get f, sums := sums2, ms := [] }

theorem E2_ok : EnvOk Try.prog E2 where
  mixed := by kernel_rfl
  sums := sums2_ok
  ms := fun t name f h => nomatch h
  funcs := fun f af h => Each.get Aes.funcsT_ok f af h

theorem call2_ok (n : Nat) : CallOk Try.prog (acall E2 n) := call_sound E2_ok (exec_sound E2_ok n) (next_ok E2_ok n).1

theorem special_none2 {f : Nat} (h : special f = false) (args : List AV) (H : Heap) : sums2 f args H = none := by
  unfold sums2
  split
  · exact absurd h (by decide)
  · exact special_none h args H

theorem told2 : Told E2 where
  funcs := fun f => rfl
  none := fun f args H h => special_none2 h args H
  rising := fun H => rfl
  unhex := fun H => told1.unhex H
  hex := fun H => by
    have e : E2.sums 15 [.str rawOut] H = bif beqBytes rawOut ctO then some (.str ctH, H) else sums1 15 [.str rawOut] H := rfl
    have e2 : beqBytes rawOut ctO = false := rfl
    rw [e, e2, cond_false]
    exact told1.hex H
theorem told2_hex (H : Heap) : E2.sums 15 [.str ctO] H = some (.str ctH, H) := by
  have e : E2.sums 15 [.str ctO] H = bif beqBytes ctO ctO then some (.str ctH, H) else sums1 15 [.str ctO] H := rfl
  rw [e, beqBytes_eq, beq_self_eq_true, cond_true]

theorem sm_sliceStr {d : ADraw} {a0 afin : Frm} {base i : Nat} {dst : Option Nat} {g : Option (Nat × Bool)} {hs : List Heap} {x : AX} {l h : Option AX} : sameAt d a0 afin base i ⟨dst, .sliceStr x l h, g⟩ hs = true := same_rd rfl rfl
theorem sm_extract {d : ADraw} {a0 afin : Frm} {base i : Nat} {dst : Option Nat} {g : Option (Nat × Bool)} {hs : List Heap} {k : Nat} {x : AX} : sameAt d a0 afin base i ⟨dst, .extract k x, g⟩ hs = true := same_rd rfl rfl
theorem l_sliceStr {ops : List AOper} {base i : Nat} {is : List (Nat × AOper)} {dst : Option Nat} {a : Frm} {H : Heap} {hs : List Heap} {Q : Frm → List Heap → Prop} {x : AX} {l h : Option AX} :
    WL E ops base ((i, ⟨dst, .sliceStr x l h, none⟩) :: is) a H hs Q ↔ ∃ v, rd (.sliceStr x l h) a H = some v ∧ WL E ops base is (put a dst v) H hs Q := WL_rd rfl
theorem l_extract {ops : List AOper} {base i : Nat} {is : List (Nat × AOper)} {dst : Option Nat} {a : Frm} {H : Heap} {hs : List Heap} {Q : Frm → List Heap → Prop} {k : Nat} {x : AX} :
    WL E ops base ((i, ⟨dst, .extract k x, none⟩) :: is) a H hs Q ↔ ∃ v, rd (.extract k x) a H = some v ∧ WL E ops base is (put a dst v) H hs Q := WL_rd rfl
theorem al_make {a : Frm} {x y : AX} {n : Nat} {e : TypeId} (hx : evalX a x = nn n) (hy : evalX a y = nn n) (hn : n ≤ 281474976710656) : al (.makeSlice e 1 [.int .u8 0] x y) a = some (.cells (bs (List.replicate n 0)) e false false, fun i => .slice (some (i, 0)) n (.known n)) := by
  have e1 : Nat.ble (n * 1) 281474976710656 = true := by rw [Nat.ble_eq]; omega
  have e2 : Nat.ble n 9223372036854775807 = true := by rw [Nat.ble_eq]; omega
  simp only [al, hx, hy, natOf_nn, Nat.ble_eq.mpr (Nat.le_refl n), e1, e2, Bool.and_self, cond_true, repl_zero]

def knDraw0 : ADraw := (ADraw.mk [(AOper.mk (some 23) (.call (.const (.func (.func 14) [] [])) []) none), (AOper.mk (some 24) (.sliceStr (.tmp 23) (some (.const (.int .i64 1))) none) none), (AOper.mk (some 25) (.call (.const (.func (.func 14) [] [])) []) none), (AOper.mk (some 26) (.sliceStr (.tmp 25) none (some (.const (.int .i64 16)))) none), (AOper.mk (some 27) (.call (.const (.func (.func 8) [] [])) [(.tmp 24), (.tmp 26)]) none), (AOper.mk (some 22) (.mov (.tmp 27)) none), (AOper.mk (some 28) (.extract 0 (.tmp 22)) none), (AOper.mk (some 29) (.extract 1 (.tmp 22)) none), (AOper.mk (some 3) (.mov (.tmp 28)) none), (AOper.mk (some 4) (.mov (.tmp 29)) none)] [0, 1, 2, 3, 4, 5, 6, 7, 8, 9] [0, 1, 1, 5, 15, 31, 63, 63, 127, 511] [(0, 1), (1, 2), (1, 2), (2, 2), (2, 3), (3, 3), (3, 3), (3, 3), (3, 3), (3, 3)] false)
def knDraw1 : ADraw := (ADraw.mk [(AOper.mk (some 45) (.call (.const (.func (.func 14) [] [])) []) none), (AOper.mk (some 46) (.call (.const (.func (.func 14) [] [])) []) none), (AOper.mk (some 47) (.sliceStr (.tmp 46) none (some (.const (.int .i64 12)))) none), (AOper.mk (some 48) (.makeSlice 5 1 [(.int .u8 0)] (.const (.int .i64 1048577)) (.const (.int .i64 1048577))) none), (AOper.mk (some 49) (.bytesToStr (.tmp 48)) none), (AOper.mk (some 50) (.call (.const (.func (.func 12) [] [])) [(.tmp 45), (.tmp 47), (.tmp 49)]) none), (AOper.mk (some 44) (.mov (.tmp 50)) none), (AOper.mk (some 51) (.extract 0 (.tmp 44)) none), (AOper.mk (some 52) (.extract 1 (.tmp 44)) none), (AOper.mk (some 9) (.mov (.tmp 51)) none), (AOper.mk (some 10) (.mov (.tmp 52)) none)] [3, 4, 0, 1, 2, 5, 6, 7, 8, 9, 10] [0, 1, 3, 0, 8, 31, 63, 127, 127, 255, 1023] [(0, 1), (1, 2), (2, 2), (0, 2), (0, 2), (2, 3), (3, 3), (3, 3), (3, 3), (3, 3), (3, 3)] false)
def knDraw2 : ADraw := (ADraw.mk [(AOper.mk (some 65) (.call (.const (.func (.func 14) [] [])) []) none), (AOper.mk (some 66) (.call (.const (.func (.func 14) [] [])) []) none), (AOper.mk (some 67) (.sliceStr (.tmp 66) none (some (.const (.int .i64 12)))) none), (AOper.mk (some 68) (.makeSlice 5 1 [(.int .u8 0)] (.const (.int .i64 1048576)) (.const (.int .i64 1048576))) none), (AOper.mk (some 69) (.bytesToStr (.tmp 68)) none), (AOper.mk (some 70) (.call (.const (.func (.func 12) [] [])) [(.tmp 65), (.tmp 67), (.tmp 69)]) none), (AOper.mk (some 64) (.mov (.tmp 70)) none), (AOper.mk (some 71) (.extract 0 (.tmp 64)) none), (AOper.mk (some 72) (.extract 1 (.tmp 64)) none), (AOper.mk (some 15) (.mov (.tmp 71)) none), (AOper.mk (some 16) (.mov (.tmp 72)) none)] [3, 4, 0, 1, 2, 5, 6, 7, 8, 9, 10] [0, 1, 3, 0, 8, 31, 63, 127, 127, 255, 1023] [(0, 1), (1, 2), (2, 2), (0, 2), (0, 2), (2, 3), (3, 3), (3, 3), (3, 3), (3, 3), (3, 3)] false)

theorem slice_hi {a : Frm} {H : Heap} {x y : AX} {S : List UInt8} {n : Nat} (hx : evalX a x = .str S) (hy : evalX a y = nn n) (h : n ≤ S.length) : rd (.sliceStr x none (some y)) a H = some (.str (S.take n)) := by
  simp only [rd, hx]
  rw [bounds_hi hy h]
  rfl
theorem slice_lo {a : Frm} {H : Heap} {x y : AX} {S : List UInt8} {n : Nat} (hx : evalX a x = .str S) (hy : evalX a y = nn n) (h : n ≤ S.length) : rd (.sliceStr x (some y) none) a H = some (.str (S.drop n)) := by
  simp only [rd, hx]
  rw [bounds_lo hy h]
  show some (AV.str ((S.take S.length).drop n)) = _
  rw [List.take_length]

theorem len_rising : risingK.length = 32 := rfl

theorem kn_d0 (hT : Told E) {a : Frm} {H : Heap} {Q : AExit → Frm → Heap → Prop} (hQ : ∀ a' H', a'.get 1 = a.get 1 → a'.get 2 = a.get 2 → a'.get 4 = some (nn 8) → H.next ≤ H'.next → (∀ j, j < H.next → H'.t.get j = H.t.get j) → Q .normal a' H') :
    W E (.draw knDraw0) a H Q := by
  refine W_draw (l := _) rfl (N := 10) rfl ?_
  refine WL_call rfl (WCall.told (hT.rising _) ?_)
  rw [l_sliceStr]
  refine ⟨_, slice_lo (S := risingK) (n := 1) (by simp only [eX_t, eX_c, put_s, put_n, getset, Nat.reduceEqDiff, if_false, if_true, Option.getD_some]) rfl (by rw [len_rising]; omega), ?_⟩
  refine WL_call rfl (WCall.told (hT.rising _) ?_)
  rw [l_sliceStr]
  refine ⟨_, slice_hi (S := risingK) (n := 16) (by simp only [eX_t, eX_c, put_s, put_n, getset, Nat.reduceEqDiff, if_false, if_true, Option.getD_some]) rfl (by rw [len_rising]; omega), ?_⟩
  refine WL_call rfl ?_
  simp only [List.map_cons, List.map_nil, List.nil_append, List.append_nil, eX_t, eX_c, put_s, put_n, getset, Nat.reduceEqDiff, if_false, if_true, Option.getD_some]
  refine Block_ok hT.funcs hT.none ?_
  intro H1 hn1 hb1
  simp only at hn1 hb1
  rw [blockP_key (by rw [List.length_drop, len_rising]; omega)]
  simp only [l_mov, l_ibin, l_load1, l_loadN, l_nilCheck, l_indexArr, l_indexSl, l_indexVal, l_indexStr, l_lenStr, l_lenSl, l_store, l_build, WL_nil, eX_t, eX_c, put_s, put_n, getset, Nat.reduceEqDiff, if_false, if_true, Option.getD_some, rd, natOf_nn, natOf_by, Option.some.injEq, exists_eq_left', Prod.mk.injEq, and_assoc, exists_and_left, true_and, Nat.zero_add, Nat.add_zero, Nat.mul_one, ble_t, l_extract, List.getElem?_cons_zero, List.getElem?_cons_succ]
  refine ⟨?_, _, _, rfl, ?_⟩
  · simp only [knDraw0, stable_cons, stable_nil, sm_mov, sm_ibin, sm_nilCheck, sm_indexArr, sm_indexSl, sm_indexVal, sm_indexStr, sm_lenStr, sm_lenSl, sm_build, sm_store, sm_call, Bool.true_and, Bool.and_true, Bool.and_eq_true, List.reverse_cons, List.reverse_nil, List.nil_append, List.cons_append, List.drop_zero, List.drop_succ_cons, Nat.sub_zero, Nat.succ_eq_add_one, Nat.zero_add, Nat.reduceAdd, Nat.reduceSub, List.take_succ_cons, List.take_zero, List.take_nil, sm_sliceStr, sm_extract]
  · refine hQ _ _ ?_ ?_ ?_ (by omega) (fun j hj => hb1 j (by omega)) <;> simp only [getset, Nat.reduceEqDiff, if_false, if_true]

theorem kn_d1 (hT : Told E) {a : Frm} {H : Heap} {Q : AExit → Frm → Heap → Prop} (hQ : ∀ a' H', a'.get 1 = a.get 1 → a'.get 2 = a.get 2 → a'.get 4 = a.get 4 → a'.get 6 = a.get 6 → a'.get 8 = a.get 8 → a'.get 10 = some (nn 3) → H.next ≤ H'.next → (∀ j, j < H.next → H'.t.get j = H.t.get j) → Q .normal a' H') :
    W E (.draw knDraw1) a H Q := by
  have kb : AV.int .i64 1048577 = nn 1048577 := rfl
  refine W_draw (l := _) rfl (N := 11) rfl ?_
  have lz : (List.replicate 1048577 (0 : UInt8)).length = 1048577 := List.length_replicate
  refine WL_al rfl (al_make (n := 1048577) rfl rfl (by omega)) ?_
  obtain ⟨Z, hZ⟩ : ∃ Z, Z = List.replicate 1048577 (0 : UInt8) := ⟨_, rfl⟩
  rw [← hZ] at lz ⊢
  simp only [put_s]
  have hb0 : ∀ j, j < H.next → (H.t.set (H.next + 3) (.cells (bs Z) 5 false false)).get j = H.t.get j := fun j hj => by rw [getset, if_neg (by omega)]
  have hb7 : (H.t.set (H.next + 3) (.cells (bs Z) 5 false false)).get (H.next + 3) = some (.cells (bs Z) 5 false false) := by rw [getset, if_pos rfl]
  generalize H.t.set (H.next + 3) (.cells (bs Z) 5 false false) = T0 at hb0 hb7 ⊢
  rw [l_bytesToStr]
  refine ⟨_, toStr (b := H.next + 3) (L := 1048577) (cap := .known 1048577) (S := Z) (e := 5) (op := false) (ro := false) (by simp only [eX_t, eX_c, put_s, put_n, getset, Nat.reduceEqDiff, if_false, if_true, Option.getD_some]) lz hb7, ?_⟩
  refine WL_call rfl (WCall.told (hT.rising _) ?_)
  refine WL_call rfl (WCall.told (hT.rising _) ?_)
  rw [l_sliceStr]
  refine ⟨_, slice_hi (S := risingK) (n := 12) (by simp only [eX_t, eX_c, put_s, put_n, getset, Nat.reduceEqDiff, if_false, if_true, Option.getD_some]) rfl (by rw [len_rising]; omega), ?_⟩
  refine WL_call rfl ?_
  simp only [List.map_cons, List.map_nil, List.nil_append, List.append_nil, eX_t, eX_c, put_s, put_n, getset, Nat.reduceEqDiff, if_false, if_true, Option.getD_some]
  refine Ctr_ok hT.funcs hT.none ?_
  intro H1 hn1 hb1
  simp only at hn1 hb1
  have l12 : (risingK.take 12).length = 12 := rfl
  rw [ctrP_long len_rising l12 (by omega)]
  simp only [l_mov, l_ibin, l_load1, l_loadN, l_nilCheck, l_indexArr, l_indexSl, l_indexVal, l_indexStr, l_lenStr, l_lenSl, l_store, l_build, WL_nil, eX_t, eX_c, put_s, put_n, getset, Nat.reduceEqDiff, if_false, if_true, Option.getD_some, rd, natOf_nn, natOf_by, Option.some.injEq, exists_eq_left', Prod.mk.injEq, and_assoc, exists_and_left, true_and, Nat.zero_add, Nat.add_zero, Nat.mul_one, ble_t, l_extract, List.getElem?_cons_zero, List.getElem?_cons_succ]
  refine ⟨?_, _, _, rfl, ?_⟩
  · simp only [knDraw1, stable_cons, stable_nil, sm_mov, sm_ibin, sm_nilCheck, sm_indexArr, sm_indexSl, sm_indexVal, sm_indexStr, sm_lenStr, sm_lenSl, sm_build, sm_store, sm_call, Bool.true_and, Bool.and_true, Bool.and_eq_true, List.reverse_cons, List.reverse_nil, List.nil_append, List.cons_append, List.drop_zero, List.drop_succ_cons, Nat.sub_zero, Nat.succ_eq_add_one, Nat.zero_add, Nat.reduceAdd, Nat.reduceSub, List.take_succ_cons, List.take_zero, List.take_nil, sm_sliceStr, sm_extract]
    refine ⟨sm_al rfl rfl (x := .cells (bs Z) 5 false false) (f := fun i => .slice (some (i, 0)) 1048577 (.known 1048577)) ?_ ?_, sm_rd rfl rfl rfl (v := .str Z) (by simp only [eX_t, eX_c, put_s, put_n, getset, Nat.reduceEqDiff, if_false, if_true, Option.getD_some]) ?_ (beq_str _)⟩
    · rw [al_make (n := 1048577) rfl rfl (by omega), hZ]
    · intro H' hH'
      simp only [List.mem_cons, List.not_mem_nil, or_false] at hH'
      rcases hH' with rfl | rfl | rfl <;> exact blkIs_bs hb7
    · intro H' hH'
      simp only [List.mem_cons, List.not_mem_nil, or_false] at hH'
      rcases hH' with rfl | rfl | rfl <;> exact toStr (b := H.next + 3) (L := 1048577) (cap := .known 1048577) (by simp only [eX_t, eX_c, put_s, put_n, getset, Nat.reduceEqDiff, if_false, if_true, Option.getD_some]) lz hb7
  · refine hQ _ _ ?_ ?_ ?_ ?_ ?_ ?_ (by omega) (fun j hj => by rw [hb1 _ (by omega), hb0 _ hj]) <;> simp only [getset, Nat.reduceEqDiff, if_false, if_true]

theorem kn_d2 (hT : Told E) {a : Frm} {H : Heap} {Q : AExit → Frm → Heap → Prop} (hQ : ∀ a' H', a'.get 1 = a.get 1 → a'.get 2 = a.get 2 → a'.get 4 = a.get 4 → a'.get 6 = a.get 6 → a'.get 8 = a.get 8 → a'.get 10 = a.get 10 → a'.get 12 = a.get 12 → a'.get 13 = a.get 13 → a'.get 14 = a.get 14 → (∃ X : List UInt8, X.length = 1048576 ∧ a'.get 15 = some (.str X)) → a'.get 16 = some (nn 0) → H.next ≤ H'.next → (∀ j, j < H.next → H'.t.get j = H.t.get j) → Q .normal a' H') :
    W E (.draw knDraw2) a H Q := by
  have kb : AV.int .i64 1048576 = nn 1048576 := rfl
  refine W_draw (l := _) rfl (N := 11) rfl ?_
  have lz : (List.replicate 1048576 (0 : UInt8)).length = 1048576 := List.length_replicate
  refine WL_al rfl (al_make (n := 1048576) rfl rfl (by omega)) ?_
  obtain ⟨Z, hZ⟩ : ∃ Z, Z = List.replicate 1048576 (0 : UInt8) := ⟨_, rfl⟩
  rw [← hZ] at lz ⊢
  simp only [put_s]
  have hb0 : ∀ j, j < H.next → (H.t.set (H.next + 3) (.cells (bs Z) 5 false false)).get j = H.t.get j := fun j hj => by rw [getset, if_neg (by omega)]
  have hb7 : (H.t.set (H.next + 3) (.cells (bs Z) 5 false false)).get (H.next + 3) = some (.cells (bs Z) 5 false false) := by rw [getset, if_pos rfl]
  generalize H.t.set (H.next + 3) (.cells (bs Z) 5 false false) = T0 at hb0 hb7 ⊢
  rw [l_bytesToStr]
  refine ⟨_, toStr (b := H.next + 3) (L := 1048576) (cap := .known 1048576) (S := Z) (e := 5) (op := false) (ro := false) (by simp only [eX_t, eX_c, put_s, put_n, getset, Nat.reduceEqDiff, if_false, if_true, Option.getD_some]) lz hb7, ?_⟩
  refine WL_call rfl (WCall.told (hT.rising _) ?_)
  refine WL_call rfl (WCall.told (hT.rising _) ?_)
  rw [l_sliceStr]
  refine ⟨_, slice_hi (S := risingK) (n := 12) (by simp only [eX_t, eX_c, put_s, put_n, getset, Nat.reduceEqDiff, if_false, if_true, Option.getD_some]) rfl (by rw [len_rising]; omega), ?_⟩
  refine WL_call rfl ?_
  simp only [List.map_cons, List.map_nil, List.nil_append, List.append_nil, eX_t, eX_c, put_s, put_n, getset, Nat.reduceEqDiff, if_false, if_true, Option.getD_some]
  refine Ctr_ok hT.funcs hT.none ?_
  intro H1 hn1 hb1
  simp only at hn1 hb1
  have l12 : (risingK.take 12).length = 12 := rfl
  rw [ctrP_full len_rising l12 (by omega)]
  have lX : (xsP (keysP risingK) (risingK.take 12) Z ((Z.length + 15) / 16)).length = 1048576 := (length_xsP _ _ _ _).trans lz
  generalize xsP (keysP risingK) (risingK.take 12) Z ((Z.length + 15) / 16) = X at lX ⊢
  simp only [l_mov, l_ibin, l_load1, l_loadN, l_nilCheck, l_indexArr, l_indexSl, l_indexVal, l_indexStr, l_lenStr, l_lenSl, l_store, l_build, WL_nil, eX_t, eX_c, put_s, put_n, getset, Nat.reduceEqDiff, if_false, if_true, Option.getD_some, rd, natOf_nn, natOf_by, Option.some.injEq, exists_eq_left', Prod.mk.injEq, and_assoc, exists_and_left, true_and, Nat.zero_add, Nat.add_zero, Nat.mul_one, ble_t, l_extract, List.getElem?_cons_zero, List.getElem?_cons_succ]
  refine ⟨?_, _, _, rfl, ?_⟩
  · simp only [knDraw2, stable_cons, stable_nil, sm_mov, sm_ibin, sm_nilCheck, sm_indexArr, sm_indexSl, sm_indexVal, sm_indexStr, sm_lenStr, sm_lenSl, sm_build, sm_store, sm_call, Bool.true_and, Bool.and_true, Bool.and_eq_true, List.reverse_cons, List.reverse_nil, List.nil_append, List.cons_append, List.drop_zero, List.drop_succ_cons, Nat.sub_zero, Nat.succ_eq_add_one, Nat.zero_add, Nat.reduceAdd, Nat.reduceSub, List.take_succ_cons, List.take_zero, List.take_nil, sm_sliceStr, sm_extract]
    refine ⟨sm_al rfl rfl (x := .cells (bs Z) 5 false false) (f := fun i => .slice (some (i, 0)) 1048576 (.known 1048576)) ?_ ?_, sm_rd rfl rfl rfl (v := .str Z) (by simp only [eX_t, eX_c, put_s, put_n, getset, Nat.reduceEqDiff, if_false, if_true, Option.getD_some]) ?_ (beq_str _)⟩
    · rw [al_make (n := 1048576) rfl rfl (by omega), hZ]
    · intro H' hH'
      simp only [List.mem_cons, List.not_mem_nil, or_false] at hH'
      rcases hH' with rfl | rfl | rfl <;> exact blkIs_bs hb7
    · intro H' hH'
      simp only [List.mem_cons, List.not_mem_nil, or_false] at hH'
      rcases hH' with rfl | rfl | rfl <;> exact toStr (b := H.next + 3) (L := 1048576) (cap := .known 1048576) (by simp only [eX_t, eX_c, put_s, put_n, getset, Nat.reduceEqDiff, if_false, if_true, Option.getD_some]) lz hb7
  · refine hQ _ _ ?_ ?_ ?_ ?_ ?_ ?_ ?_ ?_ ?_ ⟨X, lX, ?_⟩ ?_ (by omega) (fun j hj => by rw [hb1 _ (by omega), hb0 _ hj]) <;> simp only [getset, Nat.reduceEqDiff, if_false, if_true]

end Go.AE
end
-- The law AesKnown run on the machine, whole.
section
set_option linter.unusedVariables false
set_option linter.unusedSimpArgs false
set_option maxRecDepth 100000
set_option maxHeartbeats 1000000
namespace Go.AE
open Go.Proofs
attribute [local irreducible] keysP encP blockP ctrP stP xsP

theorem AesKnown_run {H : Heap} {Q : AV → Heap → Prop}
    (hQ : ∀ H', H.next ≤ H'.next → (∀ j, j < H.next → H'.t.get j = H.t.get j) → Q (.bool true) H') : WCall E2 6 [] H Q := by
  have hT := told2
  refine WCall.func (hT.none 6 _ _ (by decide)) ((hT.funcs 6).trans rfl) ?_
  generalize frameOf [] 0 .nil = a
  have e32 : ∀ n : Nat, AV.int .i64 (.ofNat n) = nn n := fun _ => rfl
  refine W.seq (W.region ?_)
  simp only [w_mov, w_ibin, w_load1, w_loadN, w_nilCheck, w_indexArr, w_indexSl, w_indexVal, w_indexStr, w_lenStr, w_lenSl, w_store, w_alloc, w_box, w_build, w_sliceArr, w_bytesToStr, w_pick, WOps_nil, thenQ_normal, eX_t, eX_c, put_s, put_n, getset, Nat.reduceEqDiff, if_false, if_true, Option.getD_some, rd, natOf_nn, natOf_by, Option.some.injEq, exists_eq_left', Prod.mk.injEq, and_assoc, exists_and_left, true_and, Nat.zero_add, Nat.add_zero, Nat.mul_one, ble_t, mul_nn, quo_nn, rem_nn, add_nn, sub_nn, lss_nn, eql_nn, neq_nn, xor_by, k0, k1, k2, k3, k4, k5, k6, k7, k8, k12, k13, k14, k15, k16, k32, k60, k254, k256]
  refine W.seq (W.region ?_)
  refine WOps.call (g := 14) (first := []) (captured := []) rfl (WCall.told (hT.rising _) ?_)
  refine WOps.call (g := 12) (first := []) (captured := []) rfl ?_
  simp only [List.map_nil, List.map_cons, List.nil_append, List.append_nil, eX_t, eX_c, put_s, put_n, getset, Nat.reduceEqDiff, if_false, if_true, Option.getD_some]
  refine Ctr_ok hT.funcs hT.none (N := ctN) (T := ctT) ?_
  intro H1 hn1 hb1
  rw [known_ctr]
  simp only [w_mov, w_ibin, w_load1, w_loadN, w_nilCheck, w_indexArr, w_indexSl, w_indexVal, w_indexStr, w_lenStr, w_lenSl, w_store, w_alloc, w_box, w_build, w_sliceArr, w_bytesToStr, w_pick, WOps_nil, thenQ_normal, eX_t, eX_c, put_s, put_n, getset, Nat.reduceEqDiff, if_false, if_true, Option.getD_some, rd, natOf_nn, natOf_by, Option.some.injEq, exists_eq_left', Prod.mk.injEq, and_assoc, exists_and_left, true_and, Nat.zero_add, Nat.add_zero, Nat.mul_one, ble_t, mul_nn, quo_nn, rem_nn, add_nn, sub_nn, lss_nn, eql_nn, neq_nn, xor_by, k0, k1, k2, k3, k4, k5, k6, k7, k8, k12, k13, k14, k15, k16, k32, k60, k254, k256, w_extract, List.getElem?_cons_zero, List.getElem?_cons_succ]
  refine W.seq (kn_d0 hT ?_)
  intro a2 H2 q1 q2 q4 hn2 hb2
  simp only [getset, Nat.reduceEqDiff, if_false, if_true] at q1 q2
  rw [thenQ_normal]
  refine W.seq (W.region ?_)
  refine WOps.call (g := 14) (first := []) (captured := []) rfl (WCall.told (hT.rising _) ?_)
  refine WOps.call (g := 14) (first := []) (captured := []) rfl (WCall.told (hT.rising _) ?_)
  rw [w_sliceStr]
  refine ⟨_, slice_hi (S := risingK) (n := 15) (by simp only [eX_t, eX_c, put_s, put_n, getset, Nat.reduceEqDiff, if_false, if_true, Option.getD_some]) rfl (by rw [len_rising]; omega), ?_⟩
  refine WOps.call (g := 8) (first := []) (captured := []) rfl ?_
  simp only [List.map_nil, List.map_cons, List.nil_append, List.append_nil, eX_t, eX_c, put_s, put_n, getset, Nat.reduceEqDiff, if_false, if_true, Option.getD_some]
  refine Block_ok hT.funcs hT.none ?_
  intro H3 hn3 hb3
  rw [blockP_arg len_rising (by rw [List.length_take, len_rising]; omega)]
  simp only [w_mov, w_ibin, w_load1, w_loadN, w_nilCheck, w_indexArr, w_indexSl, w_indexVal, w_indexStr, w_lenStr, w_lenSl, w_store, w_alloc, w_box, w_build, w_sliceArr, w_bytesToStr, w_pick, WOps_nil, thenQ_normal, eX_t, eX_c, put_s, put_n, getset, Nat.reduceEqDiff, if_false, if_true, Option.getD_some, rd, natOf_nn, natOf_by, Option.some.injEq, exists_eq_left', Prod.mk.injEq, and_assoc, exists_and_left, true_and, Nat.zero_add, Nat.add_zero, Nat.mul_one, ble_t, mul_nn, quo_nn, rem_nn, add_nn, sub_nn, lss_nn, eql_nn, neq_nn, xor_by, k0, k1, k2, k3, k4, k5, k6, k7, k8, k12, k13, k14, k15, k16, k32, k60, k254, k256, w_extract, List.getElem?_cons_zero, List.getElem?_cons_succ]
  refine W.seq (W.region ?_)
  refine WOps.call (g := 14) (first := []) (captured := []) rfl (WCall.told (hT.rising _) ?_)
  refine WOps.call (g := 14) (first := []) (captured := []) rfl (WCall.told (hT.rising _) ?_)
  rw [w_sliceStr]
  refine ⟨_, slice_hi (S := risingK) (n := 11) (by simp only [eX_t, eX_c, put_s, put_n, getset, Nat.reduceEqDiff, if_false, if_true, Option.getD_some]) rfl (by rw [len_rising]; omega), ?_⟩
  refine WOps.call (g := 12) (first := []) (captured := []) rfl ?_
  simp only [List.map_nil, List.map_cons, List.nil_append, List.append_nil, eX_t, eX_c, put_s, put_n, getset, Nat.reduceEqDiff, if_false, if_true, Option.getD_some]
  refine Ctr_ok hT.funcs hT.none ?_
  intro H4 hn4 hb4
  rw [ctrP_arg len_rising (by rw [List.length_take, len_rising]; omega)]
  simp only [w_mov, w_ibin, w_load1, w_loadN, w_nilCheck, w_indexArr, w_indexSl, w_indexVal, w_indexStr, w_lenStr, w_lenSl, w_store, w_alloc, w_box, w_build, w_sliceArr, w_bytesToStr, w_pick, WOps_nil, thenQ_normal, eX_t, eX_c, put_s, put_n, getset, Nat.reduceEqDiff, if_false, if_true, Option.getD_some, rd, natOf_nn, natOf_by, Option.some.injEq, exists_eq_left', Prod.mk.injEq, and_assoc, exists_and_left, true_and, Nat.zero_add, Nat.add_zero, Nat.mul_one, ble_t, mul_nn, quo_nn, rem_nn, add_nn, sub_nn, lss_nn, eql_nn, neq_nn, xor_by, k0, k1, k2, k3, k4, k5, k6, k7, k8, k12, k13, k14, k15, k16, k32, k60, k254, k256, w_extract, List.getElem?_cons_zero, List.getElem?_cons_succ]
  refine W.seq (kn_d1 hT ?_)
  intro a5 H5 p1 p2 p4 p6 p8 p10 hn5 hb5
  simp only [getset, Nat.reduceEqDiff, if_false, if_true] at p1 p2 p4 p6 p8
  rw [q1] at p1
  rw [q2] at p2
  rw [q4] at p4
  rw [thenQ_normal]
  refine W.seq (W.region ?_)
  refine WOps.call (g := 12) (first := []) (captured := []) rfl ?_
  simp only [List.map_nil, List.map_cons, List.nil_append, List.append_nil, eX_t, eX_c, put_s, put_n, getset, Nat.reduceEqDiff, if_false, if_true, Option.getD_some]
  refine Ctr_ok hT.funcs hT.none ?_
  intro H6 hn6 hb6
  rw [ctrP_key (by decide)]
  simp only [w_mov, w_ibin, w_load1, w_loadN, w_nilCheck, w_indexArr, w_indexSl, w_indexVal, w_indexStr, w_lenStr, w_lenSl, w_store, w_alloc, w_box, w_build, w_sliceArr, w_bytesToStr, w_pick, WOps_nil, thenQ_normal, eX_t, eX_c, put_s, put_n, getset, Nat.reduceEqDiff, if_false, if_true, Option.getD_some, rd, natOf_nn, natOf_by, Option.some.injEq, exists_eq_left', Prod.mk.injEq, and_assoc, exists_and_left, true_and, Nat.zero_add, Nat.add_zero, Nat.mul_one, ble_t, mul_nn, quo_nn, rem_nn, add_nn, sub_nn, lss_nn, eql_nn, neq_nn, xor_by, k0, k1, k2, k3, k4, k5, k6, k7, k8, k12, k13, k14, k15, k16, k32, k60, k254, k256, w_extract, List.getElem?_cons_zero, List.getElem?_cons_succ]
  refine W.seq (W.region ?_)
  refine WOps.call (g := 14) (first := []) (captured := []) rfl (WCall.told (hT.rising _) ?_)
  refine WOps.call (g := 14) (first := []) (captured := []) rfl (WCall.told (hT.rising _) ?_)
  rw [w_sliceStr]
  refine ⟨_, slice_hi (S := risingK) (n := 12) (by simp only [eX_t, eX_c, put_s, put_n, getset, Nat.reduceEqDiff, if_false, if_true, Option.getD_some]) rfl (by rw [len_rising]; omega), ?_⟩
  refine WOps.call (g := 12) (first := []) (captured := []) rfl ?_
  simp only [List.map_nil, List.map_cons, List.nil_append, List.append_nil, eX_t, eX_c, put_s, put_n, getset, Nat.reduceEqDiff, if_false, if_true, Option.getD_some]
  refine Ctr_ok hT.funcs hT.none ?_
  intro H7 hn7 hb7
  rw [ctrP_nil len_rising rfl]
  simp only [w_mov, w_ibin, w_load1, w_loadN, w_nilCheck, w_indexArr, w_indexSl, w_indexVal, w_indexStr, w_lenStr, w_lenSl, w_store, w_alloc, w_box, w_build, w_sliceArr, w_bytesToStr, w_pick, WOps_nil, thenQ_normal, eX_t, eX_c, put_s, put_n, getset, Nat.reduceEqDiff, if_false, if_true, Option.getD_some, rd, natOf_nn, natOf_by, Option.some.injEq, exists_eq_left', Prod.mk.injEq, and_assoc, exists_and_left, true_and, Nat.zero_add, Nat.add_zero, Nat.mul_one, ble_t, mul_nn, quo_nn, rem_nn, add_nn, sub_nn, lss_nn, eql_nn, neq_nn, xor_by, k0, k1, k2, k3, k4, k5, k6, k7, k8, k12, k13, k14, k15, k16, k32, k60, k254, k256, w_extract, List.getElem?_cons_zero, List.getElem?_cons_succ]
  refine W.seq (kn_d2 hT ?_)
  intro a8 H8 r1 r2 r4 r6 r8 r10 r12 r13 r14 ⟨X, lX, r15⟩ r16 hn8 hb8
  simp only [getset, Nat.reduceEqDiff, if_false, if_true] at r1 r2 r4 r6 r8 r10 r12 r13 r14
  rw [p1] at r1
  rw [p2] at r2
  rw [p4] at r4
  rw [p6] at r6
  rw [p8] at r8
  rw [p10] at r10
  rw [thenQ_normal]
  refine W.seq (W.seq (W.region ?_))
  simp only [w_mov, w_ibin, w_load1, w_loadN, w_nilCheck, w_indexArr, w_indexSl, w_indexVal, w_indexStr, w_lenStr, w_lenSl, w_store, w_alloc, w_box, w_build, w_sliceArr, w_bytesToStr, w_pick, WOps_nil, thenQ_normal, eX_t, eX_c, put_s, put_n, getset, Nat.reduceEqDiff, if_false, if_true, Option.getD_some, rd, natOf_nn, natOf_by, Option.some.injEq, exists_eq_left', Prod.mk.injEq, and_assoc, exists_and_left, true_and, Nat.zero_add, Nat.add_zero, Nat.mul_one, ble_t, mul_nn, quo_nn, rem_nn, add_nn, sub_nn, lss_nn, eql_nn, neq_nn, xor_by, k0, k1, k2, k3, k4, k5, k6, k7, k8, k12, k13, k14, k15, k16, k32, k60, k254, k256, r16, ne_eq, not_true_eq_false, decide_false]
  refine WOps_want ((wantedA_some (d := 75) (b := false) rfl (by simp only [eX_t, eX_c, put_s, put_n, getset, Nat.reduceEqDiff, if_false, if_true, Option.getD_some])).trans rfl) ?_
  simp only [w_mov, w_ibin, w_load1, w_loadN, w_nilCheck, w_indexArr, w_indexSl, w_indexVal, w_indexStr, w_lenStr, w_lenSl, w_store, w_alloc, w_box, w_build, w_sliceArr, w_bytesToStr, w_pick, WOps_nil, thenQ_normal, eX_t, eX_c, put_s, put_n, getset, Nat.reduceEqDiff, if_false, if_true, Option.getD_some, rd, natOf_nn, natOf_by, Option.some.injEq, exists_eq_left', Prod.mk.injEq, and_assoc, exists_and_left, true_and, Nat.zero_add, Nat.add_zero, Nat.mul_one, ble_t, mul_nn, quo_nn, rem_nn, add_nn, sub_nn, lss_nn, eql_nn, neq_nn, xor_by, k0, k1, k2, k3, k4, k5, k6, k7, k8, k12, k13, k14, k15, k16, k32, k60, k254, k256, r15]
  refine WOps_want ((wantedA_some (d := 75) (b := false) rfl (by simp only [eX_t, eX_c, put_s, put_n, getset, Nat.reduceEqDiff, if_false, if_true, Option.getD_some])).trans rfl) ?_
  simp only [w_mov, w_ibin, w_load1, w_loadN, w_nilCheck, w_indexArr, w_indexSl, w_indexVal, w_indexStr, w_lenStr, w_lenSl, w_store, w_alloc, w_box, w_build, w_sliceArr, w_bytesToStr, w_pick, WOps_nil, thenQ_normal, eX_t, eX_c, put_s, put_n, getset, Nat.reduceEqDiff, if_false, if_true, Option.getD_some, rd, natOf_nn, natOf_by, Option.some.injEq, exists_eq_left', Prod.mk.injEq, and_assoc, exists_and_left, true_and, Nat.zero_add, Nat.add_zero, Nat.mul_one, ble_t, mul_nn, quo_nn, rem_nn, add_nn, sub_nn, lss_nn, eql_nn, neq_nn, xor_by, k0, k1, k2, k3, k4, k5, k6, k7, k8, k12, k13, k14, k15, k16, k32, k60, k254, k256, e32, lX]
  refine WOps_want ((wantedA_some (d := 75) (b := false) rfl (by simp only [eX_t, eX_c, put_s, put_n, getset, Nat.reduceEqDiff, if_false, if_true, Option.getD_some])).trans rfl) ?_
  simp only [w_mov, w_ibin, w_load1, w_loadN, w_nilCheck, w_indexArr, w_indexSl, w_indexVal, w_indexStr, w_lenStr, w_lenSl, w_store, w_alloc, w_box, w_build, w_sliceArr, w_bytesToStr, w_pick, WOps_nil, thenQ_normal, eX_t, eX_c, put_s, put_n, getset, Nat.reduceEqDiff, if_false, if_true, Option.getD_some, rd, natOf_nn, natOf_by, Option.some.injEq, exists_eq_left', Prod.mk.injEq, and_assoc, exists_and_left, true_and, Nat.zero_add, Nat.add_zero, Nat.mul_one, ble_t, mul_nn, quo_nn, rem_nn, add_nn, sub_nn, lss_nn, eql_nn, neq_nn, xor_by, k0, k1, k2, k3, k4, k5, k6, k7, k8, k12, k13, k14, k15, k16, k32, k60, k254, k256, kM, ne_eq, not_true_eq_false, decide_false, cond_false]
  refine W.cond (b := false) (by simp only [eX_t, eX_c, put_s, put_n, getset, Nat.reduceEqDiff, if_false, if_true, Option.getD_some]) (W.skip ?_)
  rw [thenQ_normal]
  refine W.seq (W.region ?_)
  simp only [w_mov, w_ibin, w_load1, w_loadN, w_nilCheck, w_indexArr, w_indexSl, w_indexVal, w_indexStr, w_lenStr, w_lenSl, w_store, w_alloc, w_box, w_build, w_sliceArr, w_bytesToStr, w_pick, WOps_nil, thenQ_normal, eX_t, eX_c, put_s, put_n, getset, Nat.reduceEqDiff, if_false, if_true, Option.getD_some, rd, natOf_nn, natOf_by, Option.some.injEq, exists_eq_left', Prod.mk.injEq, and_assoc, exists_and_left, true_and, Nat.zero_add, Nat.add_zero, Nat.mul_one, ble_t, mul_nn, quo_nn, rem_nn, add_nn, sub_nn, lss_nn, eql_nn, neq_nn, xor_by, k0, k1, k2, k3, k4, k5, k6, k7, k8, k12, k13, k14, k15, k16, k32, k60, k254, k256, r2, decide_true]
  refine WOps_want ((wantedA_some (d := 82) (b := true) rfl (by simp only [eX_t, eX_c, put_s, put_n, getset, Nat.reduceEqDiff, if_false, if_true, Option.getD_some])).trans rfl) ?_
  simp only [w_mov, w_ibin, w_load1, w_loadN, w_nilCheck, w_indexArr, w_indexSl, w_indexVal, w_indexStr, w_lenStr, w_lenSl, w_store, w_alloc, w_box, w_build, w_sliceArr, w_bytesToStr, w_pick, WOps_nil, thenQ_normal, eX_t, eX_c, put_s, put_n, getset, Nat.reduceEqDiff, if_false, if_true, Option.getD_some, rd, natOf_nn, natOf_by, Option.some.injEq, exists_eq_left', Prod.mk.injEq, and_assoc, exists_and_left, true_and, Nat.zero_add, Nat.add_zero, Nat.mul_one, ble_t, mul_nn, quo_nn, rem_nn, add_nn, sub_nn, lss_nn, eql_nn, neq_nn, xor_by, k0, k1, k2, k3, k4, k5, k6, k7, k8, k12, k13, k14, k15, k16, k32, k60, k254, k256, r1]
  refine WOps_want ((wantedA_some (d := 82) (b := true) rfl (by simp only [eX_t, eX_c, put_s, put_n, getset, Nat.reduceEqDiff, if_false, if_true, Option.getD_some])).trans rfl) ?_
  refine WOps.call (g := 15) (first := []) (captured := []) rfl ?_
  simp only [List.map_nil, List.map_cons, List.nil_append, List.append_nil, eX_t, eX_c, put_s, put_n, getset, Nat.reduceEqDiff, if_false, if_true, Option.getD_some]
  refine WCall.told (told2_hex H8) ?_
  refine WOps_want ((wantedA_some (d := 82) (b := true) rfl (by simp only [eX_t, eX_c, put_s, put_n, getset, Nat.reduceEqDiff, if_false, if_true, Option.getD_some])).trans rfl) ?_
  simp only [w_sbin, eX_t, eX_c, put_s, put_n, getset, Nat.reduceEqDiff, if_false, if_true, Option.getD_some, sbin_eql]
  refine ⟨.bool true, by kernel_rfl, ?_⟩
  simp only [w_mov, w_ibin, w_load1, w_loadN, w_nilCheck, w_indexArr, w_indexSl, w_indexVal, w_indexStr, w_lenStr, w_lenSl, w_store, w_alloc, w_box, w_build, w_sliceArr, w_bytesToStr, w_pick, WOps_nil, thenQ_normal, eX_t, eX_c, put_s, put_n, getset, Nat.reduceEqDiff, if_false, if_true, Option.getD_some, rd, natOf_nn, natOf_by, Option.some.injEq, exists_eq_left', Prod.mk.injEq, and_assoc, exists_and_left, true_and, Nat.zero_add, Nat.add_zero, Nat.mul_one, ble_t, mul_nn, quo_nn, rem_nn, add_nn, sub_nn, lss_nn, eql_nn, neq_nn, xor_by, k0, k1, k2, k3, k4, k5, k6, k7, k8, k12, k13, k14, k15, k16, k32, k60, k254, k256, cond_true]
  refine WOps_want ((wantedA_some (d := 87) (b := true) rfl (by simp only [eX_t, eX_c, put_s, put_n, getset, Nat.reduceEqDiff, if_false, if_true, Option.getD_some, cond_true])).trans rfl) ?_
  simp only [w_mov, w_ibin, w_load1, w_loadN, w_nilCheck, w_indexArr, w_indexSl, w_indexVal, w_indexStr, w_lenStr, w_lenSl, w_store, w_alloc, w_box, w_build, w_sliceArr, w_bytesToStr, w_pick, WOps_nil, thenQ_normal, eX_t, eX_c, put_s, put_n, getset, Nat.reduceEqDiff, if_false, if_true, Option.getD_some, rd, natOf_nn, natOf_by, Option.some.injEq, exists_eq_left', Prod.mk.injEq, and_assoc, exists_and_left, true_and, Nat.zero_add, Nat.add_zero, Nat.mul_one, ble_t, mul_nn, quo_nn, rem_nn, add_nn, sub_nn, lss_nn, eql_nn, neq_nn, xor_by, k0, k1, k2, k3, k4, k5, k6, k7, k8, k12, k13, k14, k15, k16, k32, k60, k254, k256, r4]
  refine WOps_want ((wantedA_some (d := 87) (b := true) rfl (by simp only [eX_t, eX_c, put_s, put_n, getset, Nat.reduceEqDiff, if_false, if_true, Option.getD_some, cond_true])).trans rfl) ?_
  simp only [w_mov, w_ibin, w_load1, w_loadN, w_nilCheck, w_indexArr, w_indexSl, w_indexVal, w_indexStr, w_lenStr, w_lenSl, w_store, w_alloc, w_box, w_build, w_sliceArr, w_bytesToStr, w_pick, WOps_nil, thenQ_normal, eX_t, eX_c, put_s, put_n, getset, Nat.reduceEqDiff, if_false, if_true, Option.getD_some, rd, natOf_nn, natOf_by, Option.some.injEq, exists_eq_left', Prod.mk.injEq, and_assoc, exists_and_left, true_and, Nat.zero_add, Nat.add_zero, Nat.mul_one, ble_t, mul_nn, quo_nn, rem_nn, add_nn, sub_nn, lss_nn, eql_nn, neq_nn, xor_by, k0, k1, k2, k3, k4, k5, k6, k7, k8, k12, k13, k14, k15, k16, k32, k60, k254, k256, decide_true, cond_true]
  refine WOps_want ((wantedA_some (d := 91) (b := true) rfl (by simp only [eX_t, eX_c, put_s, put_n, getset, Nat.reduceEqDiff, if_false, if_true, Option.getD_some, cond_true])).trans rfl) ?_
  simp only [w_mov, w_ibin, w_load1, w_loadN, w_nilCheck, w_indexArr, w_indexSl, w_indexVal, w_indexStr, w_lenStr, w_lenSl, w_store, w_alloc, w_box, w_build, w_sliceArr, w_bytesToStr, w_pick, WOps_nil, thenQ_normal, eX_t, eX_c, put_s, put_n, getset, Nat.reduceEqDiff, if_false, if_true, Option.getD_some, rd, natOf_nn, natOf_by, Option.some.injEq, exists_eq_left', Prod.mk.injEq, and_assoc, exists_and_left, true_and, Nat.zero_add, Nat.add_zero, Nat.mul_one, ble_t, mul_nn, quo_nn, rem_nn, add_nn, sub_nn, lss_nn, eql_nn, neq_nn, xor_by, k0, k1, k2, k3, k4, k5, k6, k7, k8, k12, k13, k14, k15, k16, k32, k60, k254, k256, r6]
  refine WOps_want ((wantedA_some (d := 91) (b := true) rfl (by simp only [eX_t, eX_c, put_s, put_n, getset, Nat.reduceEqDiff, if_false, if_true, Option.getD_some, cond_true])).trans rfl) ?_
  simp only [w_mov, w_ibin, w_load1, w_loadN, w_nilCheck, w_indexArr, w_indexSl, w_indexVal, w_indexStr, w_lenStr, w_lenSl, w_store, w_alloc, w_box, w_build, w_sliceArr, w_bytesToStr, w_pick, WOps_nil, thenQ_normal, eX_t, eX_c, put_s, put_n, getset, Nat.reduceEqDiff, if_false, if_true, Option.getD_some, rd, natOf_nn, natOf_by, Option.some.injEq, exists_eq_left', Prod.mk.injEq, and_assoc, exists_and_left, true_and, Nat.zero_add, Nat.add_zero, Nat.mul_one, ble_t, mul_nn, quo_nn, rem_nn, add_nn, sub_nn, lss_nn, eql_nn, neq_nn, xor_by, k0, k1, k2, k3, k4, k5, k6, k7, k8, k12, k13, k14, k15, k16, k32, k60, k254, k256, decide_true, cond_true]
  refine WOps_want ((wantedA_some (d := 95) (b := true) rfl (by simp only [eX_t, eX_c, put_s, put_n, getset, Nat.reduceEqDiff, if_false, if_true, Option.getD_some, cond_true])).trans rfl) ?_
  simp only [w_mov, w_ibin, w_load1, w_loadN, w_nilCheck, w_indexArr, w_indexSl, w_indexVal, w_indexStr, w_lenStr, w_lenSl, w_store, w_alloc, w_box, w_build, w_sliceArr, w_bytesToStr, w_pick, WOps_nil, thenQ_normal, eX_t, eX_c, put_s, put_n, getset, Nat.reduceEqDiff, if_false, if_true, Option.getD_some, rd, natOf_nn, natOf_by, Option.some.injEq, exists_eq_left', Prod.mk.injEq, and_assoc, exists_and_left, true_and, Nat.zero_add, Nat.add_zero, Nat.mul_one, ble_t, mul_nn, quo_nn, rem_nn, add_nn, sub_nn, lss_nn, eql_nn, neq_nn, xor_by, k0, k1, k2, k3, k4, k5, k6, k7, k8, k12, k13, k14, k15, k16, k32, k60, k254, k256, r8]
  refine WOps_want ((wantedA_some (d := 95) (b := true) rfl (by simp only [eX_t, eX_c, put_s, put_n, getset, Nat.reduceEqDiff, if_false, if_true, Option.getD_some, cond_true])).trans rfl) ?_
  simp only [w_mov, w_ibin, w_load1, w_loadN, w_nilCheck, w_indexArr, w_indexSl, w_indexVal, w_indexStr, w_lenStr, w_lenSl, w_store, w_alloc, w_box, w_build, w_sliceArr, w_bytesToStr, w_pick, WOps_nil, thenQ_normal, eX_t, eX_c, put_s, put_n, getset, Nat.reduceEqDiff, if_false, if_true, Option.getD_some, rd, natOf_nn, natOf_by, Option.some.injEq, exists_eq_left', Prod.mk.injEq, and_assoc, exists_and_left, true_and, Nat.zero_add, Nat.add_zero, Nat.mul_one, ble_t, mul_nn, quo_nn, rem_nn, add_nn, sub_nn, lss_nn, eql_nn, neq_nn, xor_by, k0, k1, k2, k3, k4, k5, k6, k7, k8, k12, k13, k14, k15, k16, k32, k60, k254, k256, decide_true, cond_true]
  refine WOps_want ((wantedA_some (d := 99) (b := true) rfl (by simp only [eX_t, eX_c, put_s, put_n, getset, Nat.reduceEqDiff, if_false, if_true, Option.getD_some, cond_true])).trans rfl) ?_
  simp only [w_mov, w_ibin, w_load1, w_loadN, w_nilCheck, w_indexArr, w_indexSl, w_indexVal, w_indexStr, w_lenStr, w_lenSl, w_store, w_alloc, w_box, w_build, w_sliceArr, w_bytesToStr, w_pick, WOps_nil, thenQ_normal, eX_t, eX_c, put_s, put_n, getset, Nat.reduceEqDiff, if_false, if_true, Option.getD_some, rd, natOf_nn, natOf_by, Option.some.injEq, exists_eq_left', Prod.mk.injEq, and_assoc, exists_and_left, true_and, Nat.zero_add, Nat.add_zero, Nat.mul_one, ble_t, mul_nn, quo_nn, rem_nn, add_nn, sub_nn, lss_nn, eql_nn, neq_nn, xor_by, k0, k1, k2, k3, k4, k5, k6, k7, k8, k12, k13, k14, k15, k16, k32, k60, k254, k256, r10]
  refine WOps_want ((wantedA_some (d := 99) (b := true) rfl (by simp only [eX_t, eX_c, put_s, put_n, getset, Nat.reduceEqDiff, if_false, if_true, Option.getD_some, cond_true])).trans rfl) ?_
  simp only [w_mov, w_ibin, w_load1, w_loadN, w_nilCheck, w_indexArr, w_indexSl, w_indexVal, w_indexStr, w_lenStr, w_lenSl, w_store, w_alloc, w_box, w_build, w_sliceArr, w_bytesToStr, w_pick, WOps_nil, thenQ_normal, eX_t, eX_c, put_s, put_n, getset, Nat.reduceEqDiff, if_false, if_true, Option.getD_some, rd, natOf_nn, natOf_by, Option.some.injEq, exists_eq_left', Prod.mk.injEq, and_assoc, exists_and_left, true_and, Nat.zero_add, Nat.add_zero, Nat.mul_one, ble_t, mul_nn, quo_nn, rem_nn, add_nn, sub_nn, lss_nn, eql_nn, neq_nn, xor_by, k0, k1, k2, k3, k4, k5, k6, k7, k8, k12, k13, k14, k15, k16, k32, k60, k254, k256, decide_true, cond_true]
  refine WOps_want ((wantedA_some (d := 103) (b := true) rfl (by simp only [eX_t, eX_c, put_s, put_n, getset, Nat.reduceEqDiff, if_false, if_true, Option.getD_some, cond_true])).trans rfl) ?_
  simp only [w_mov, w_ibin, w_load1, w_loadN, w_nilCheck, w_indexArr, w_indexSl, w_indexVal, w_indexStr, w_lenStr, w_lenSl, w_store, w_alloc, w_box, w_build, w_sliceArr, w_bytesToStr, w_pick, WOps_nil, thenQ_normal, eX_t, eX_c, put_s, put_n, getset, Nat.reduceEqDiff, if_false, if_true, Option.getD_some, rd, natOf_nn, natOf_by, Option.some.injEq, exists_eq_left', Prod.mk.injEq, and_assoc, exists_and_left, true_and, Nat.zero_add, Nat.add_zero, Nat.mul_one, ble_t, mul_nn, quo_nn, rem_nn, add_nn, sub_nn, lss_nn, eql_nn, neq_nn, xor_by, k0, k1, k2, k3, k4, k5, k6, k7, k8, k12, k13, k14, k15, k16, k32, k60, k254, k256, r12]
  refine WOps_want ((wantedA_some (d := 103) (b := true) rfl (by simp only [eX_t, eX_c, put_s, put_n, getset, Nat.reduceEqDiff, if_false, if_true, Option.getD_some, cond_true])).trans rfl) ?_
  simp only [w_mov, w_ibin, w_load1, w_loadN, w_nilCheck, w_indexArr, w_indexSl, w_indexVal, w_indexStr, w_lenStr, w_lenSl, w_store, w_alloc, w_box, w_build, w_sliceArr, w_bytesToStr, w_pick, WOps_nil, thenQ_normal, eX_t, eX_c, put_s, put_n, getset, Nat.reduceEqDiff, if_false, if_true, Option.getD_some, rd, natOf_nn, natOf_by, Option.some.injEq, exists_eq_left', Prod.mk.injEq, and_assoc, exists_and_left, true_and, Nat.zero_add, Nat.add_zero, Nat.mul_one, ble_t, mul_nn, quo_nn, rem_nn, add_nn, sub_nn, lss_nn, eql_nn, neq_nn, xor_by, k0, k1, k2, k3, k4, k5, k6, k7, k8, k12, k13, k14, k15, k16, k32, k60, k254, k256, decide_true, cond_true]
  refine WOps_want ((wantedA_some (d := 107) (b := true) rfl (by simp only [eX_t, eX_c, put_s, put_n, getset, Nat.reduceEqDiff, if_false, if_true, Option.getD_some, cond_true])).trans rfl) ?_
  simp only [w_mov, w_ibin, w_load1, w_loadN, w_nilCheck, w_indexArr, w_indexSl, w_indexVal, w_indexStr, w_lenStr, w_lenSl, w_store, w_alloc, w_box, w_build, w_sliceArr, w_bytesToStr, w_pick, WOps_nil, thenQ_normal, eX_t, eX_c, put_s, put_n, getset, Nat.reduceEqDiff, if_false, if_true, Option.getD_some, rd, natOf_nn, natOf_by, Option.some.injEq, exists_eq_left', Prod.mk.injEq, and_assoc, exists_and_left, true_and, Nat.zero_add, Nat.add_zero, Nat.mul_one, ble_t, mul_nn, quo_nn, rem_nn, add_nn, sub_nn, lss_nn, eql_nn, neq_nn, xor_by, k0, k1, k2, k3, k4, k5, k6, k7, k8, k12, k13, k14, k15, k16, k32, k60, k254, k256, r14]
  refine WOps_want ((wantedA_some (d := 107) (b := true) rfl (by simp only [eX_t, eX_c, put_s, put_n, getset, Nat.reduceEqDiff, if_false, if_true, Option.getD_some, cond_true])).trans rfl) ?_
  simp only [w_mov, w_ibin, w_load1, w_loadN, w_nilCheck, w_indexArr, w_indexSl, w_indexVal, w_indexStr, w_lenStr, w_lenSl, w_store, w_alloc, w_box, w_build, w_sliceArr, w_bytesToStr, w_pick, WOps_nil, thenQ_normal, eX_t, eX_c, put_s, put_n, getset, Nat.reduceEqDiff, if_false, if_true, Option.getD_some, rd, natOf_nn, natOf_by, Option.some.injEq, exists_eq_left', Prod.mk.injEq, and_assoc, exists_and_left, true_and, Nat.zero_add, Nat.add_zero, Nat.mul_one, ble_t, mul_nn, quo_nn, rem_nn, add_nn, sub_nn, lss_nn, eql_nn, neq_nn, xor_by, k0, k1, k2, k3, k4, k5, k6, k7, k8, k12, k13, k14, k15, k16, k32, k60, k254, k256, decide_true, cond_true]
  refine WOps_want ((wantedA_some (d := 111) (b := true) rfl (by simp only [eX_t, eX_c, put_s, put_n, getset, Nat.reduceEqDiff, if_false, if_true, Option.getD_some, cond_true])).trans rfl) ?_
  simp only [w_mov, w_ibin, w_load1, w_loadN, w_nilCheck, w_indexArr, w_indexSl, w_indexVal, w_indexStr, w_lenStr, w_lenSl, w_store, w_alloc, w_box, w_build, w_sliceArr, w_bytesToStr, w_pick, WOps_nil, thenQ_normal, eX_t, eX_c, put_s, put_n, getset, Nat.reduceEqDiff, if_false, if_true, Option.getD_some, rd, natOf_nn, natOf_by, Option.some.injEq, exists_eq_left', Prod.mk.injEq, and_assoc, exists_and_left, true_and, Nat.zero_add, Nat.add_zero, Nat.mul_one, ble_t, mul_nn, quo_nn, rem_nn, add_nn, sub_nn, lss_nn, eql_nn, neq_nn, xor_by, k0, k1, k2, k3, k4, k5, k6, k7, k8, k12, k13, k14, k15, k16, k32, k60, k254, k256, r13]
  refine WOps_want ((wantedA_some (d := 111) (b := true) rfl (by simp only [eX_t, eX_c, put_s, put_n, getset, Nat.reduceEqDiff, if_false, if_true, Option.getD_some, cond_true])).trans rfl) ?_
  simp only [w_mov, w_ibin, w_load1, w_loadN, w_nilCheck, w_indexArr, w_indexSl, w_indexVal, w_indexStr, w_lenStr, w_lenSl, w_store, w_alloc, w_box, w_build, w_sliceArr, w_bytesToStr, w_pick, WOps_nil, thenQ_normal, eX_t, eX_c, put_s, put_n, getset, Nat.reduceEqDiff, if_false, if_true, Option.getD_some, rd, natOf_nn, natOf_by, Option.some.injEq, exists_eq_left', Prod.mk.injEq, and_assoc, exists_and_left, true_and, Nat.zero_add, Nat.add_zero, Nat.mul_one, ble_t, mul_nn, quo_nn, rem_nn, add_nn, sub_nn, lss_nn, eql_nn, neq_nn, xor_by, k0, k1, k2, k3, k4, k5, k6, k7, k8, k12, k13, k14, k15, k16, k32, k60, k254, k256, w_sbin, sbin_eql, beq_self_eq_true, decide_true, cond_true]
  refine WOps_want ((wantedA_some (d := 115) (b := true) rfl (by simp only [eX_t, eX_c, put_s, put_n, getset, Nat.reduceEqDiff, if_false, if_true, Option.getD_some, cond_true])).trans rfl) ?_
  refine WOps.call (g := 10) (first := []) (captured := []) rfl ?_
  simp only [List.map_nil, List.map_cons, List.nil_append, List.append_nil, eX_t, eX_c, put_s, put_n, getset, Nat.reduceEqDiff, if_false, if_true, Option.getD_some]
  refine works_ok hT ?_
  intro H9 hn9 hb9
  simp only [w_mov, w_ibin, w_load1, w_loadN, w_nilCheck, w_indexArr, w_indexSl, w_indexVal, w_indexStr, w_lenStr, w_lenSl, w_store, w_alloc, w_box, w_build, w_sliceArr, w_bytesToStr, w_pick, WOps_nil, thenQ_normal, eX_t, eX_c, put_s, put_n, getset, Nat.reduceEqDiff, if_false, if_true, Option.getD_some, rd, natOf_nn, natOf_by, Option.some.injEq, exists_eq_left', Prod.mk.injEq, and_assoc, exists_and_left, true_and, Nat.zero_add, Nat.add_zero, Nat.mul_one, ble_t, mul_nn, quo_nn, rem_nn, add_nn, sub_nn, lss_nn, eql_nn, neq_nn, xor_by, k0, k1, k2, k3, k4, k5, k6, k7, k8, k12, k13, k14, k15, k16, k32, k60, k254, k256, cond_true]
  refine W.ret ⟨.inr rfl, ?_⟩
  simp only [resultsOf, resOf, eX_t, eX_c, put_s, put_n, getset, Nat.reduceEqDiff, if_false, if_true, Option.getD_some, Option.some.injEq, exists_eq_left', oneOf]
  exact hQ _ (by omega) fun j hj => by rw [hb9 _ (by omega), hb8 _ (by omega), hb7 _ (by omega), hb6 _ (by omega), hb5 _ (by omega), hb4 _ (by omega), hb3 _ (by omega), hb2 _ (by omega), hb1 _ hj]
end Go.AE
end
-- The law AesKnown: the chapter's examples.
section
set_option linter.unusedVariables false
set_option linter.unusedSimpArgs false
set_option maxRecDepth 100000
namespace Go.Proofs.Ytdpnbpocjdooeaa
open Go.Proofs Go.ChangeShapes Go.WideShapes Go.ChangeAt Go.RowKit Go.AE

theorem aesKnown_own : ownKnob Try.prog.godebug = none := by kernel_rfl

theorem law_calls2 {f : Nat} {args : List AV} {args' : Array Value} {W : World} (h : WCall E2 f args ⟨.nil, 0⟩ fun v _ => v = .bool true) (hr : rels Ren.none args args'.toList) :
    Calls Try.prog f args' W fun e W' => e = .returned (.bool true) ∧ Below W.heap.size W W' := by
  obtain ⟨n, v, H', h1, rfl⟩ := h
  refine (((call2_ok n) _ _ _ _ _ (h1 n (Nat.le_refl _))).2.2 W.heap.size Ren.none W args' (Sim.none W 0) hr).mono fun e W' he => ?_
  obtain ⟨r', v', rfl, hS, hT, hv⟩ := he
  simp only [rel] at hv
  subst hv
  exact ⟨rfl, hT.os, hT.tape, hT.output, hT.size, fun k hk => hT.frame k hk fun b hb => nomatch hb⟩

theorem aesKnown_walk (W : World) : Calls Try.prog 6 #[] W fun e W' => e = .returned (.bool true) ∧ Below W.heap.size W W' :=
  law_calls2 (args := []) (AesKnown_run fun _ _ _ => rfl) (by simp [rels])

theorem aesKnown_lifted (os : Os) (started : os.Started) (H : Type) (enc : TypeId × Value → H) :
    ReturnsInHanded {} Try.checked os 6 .any (Rows.aesKnownSpec.pre6 enc Try.prog Try.f6 Rows.aesKnownRow.domain false) (Rows.aesKnownSpec.post enc Try.prog Try.f6 false true false false) := by
  refine returnsInHanded_of_change (C := Try.checked) aesKnown_own started (by kernel_rfl) Try.func6
    (ChangeSpec.witness6 (enc := enc) (C := Try.checked) false ⟨#[], #[], []⟩ 8 (by kernel_rfl) (by kernel_rfl) (by kernel_rfl) (by kernel_rfl)) ?_
  intro W base args ds gs before hval0 hW hcnd0 _
  clear hcnd0
  have hW' := hW
  obtain ⟨p, q, hA0, hV, rfl, _, _⟩ := hW
  have hA : DataW.TrodAll enc Try.prog W 0 (fun _ => true) true Try.f6.params.toList args.toList ds p := hA0
  rw [Try.params6] at hA
  obtain ⟨ha, rfl, rfl⟩ := trodAll_nil hA
  obtain rfl : args = #[] := by cases args; simp_all
  obtain ⟨rfl, rfl⟩ := trodVars_none hV
  clear hA0 hval0
  simp only [List.append_nil] at hW'
  refine (aesKnown_walk W).mono fun e W' ⟨he, hw⟩ => ?_
  subst he
  exact ⟨_, rfl, post_of_below (pa := []) (pv := []) hW' (fun _ _ _ => trodAll_mk1 (shut_bool Try.underlying4 _)) (fun sp _ => trodAll_mk0) (fun _ _ => rfl) rfl hw
    (ok_one (by kernel_rfl) rfl (okWide_bool_mk Try.underlying4 _))⟩

theorem aesKnown_holds : Rows.AesKnownSaid :=
  OpenClaim.holds_of_wide 6 Try.f6 rfl rfl rfl rfl rfl rfl rfl ⟨rfl, rfl, rfl, rfl, rfl⟩ rfl rfl rfl rfl rfl (by kernel_rfl) Try.func6 (by kernel_rfl)
    (of_decide_eq_true (by kernel_rfl)) (by unfold Func.isWrapper; first | (rw [if_pos (by decide +kernel)]; kernel_rfl) | (rw [if_neg (by decide +kernel)]; exact ⟨rfl, rfl⟩))
    (fun os started H enc _ => aesKnown_lifted os started H enc)

#print axioms aesKnown_holds
end Go.Proofs.Ytdpnbpocjdooeaa
end
