/- The law AesApart run on the machine. -/
import Derived.Test.YtdpnbpocjdooeaaLawsC
import Derived.Test.YtdpnbpocjdooeaaLawsD
set_option linter.unusedVariables false
set_option linter.unusedSimpArgs false
section
set_option linter.unusedVariables false
set_option linter.unusedSimpArgs false
set_option maxRecDepth 100000
set_option maxHeartbeats 1000000
namespace Go.AE
variable {E : Env}
attribute [local irreducible] keysP encP blockP broughtP

theorem blockP_full {K S : List UInt8} (hK : K.length = 32) (hS : S.length = 16) : blockP K S = (encP (keysP K) S, 0) := by
  unfold blockP
  simp only [hK, hS, ne_eq, not_true_eq_false, if_false]

theorem AesApart_run (hT : Told E) {H : Heap} {K X Y : List UInt8} {Q : AV → Heap → Prop}
    (hQ : ∀ H', H.next ≤ H'.next → (∀ j, j < H.next → H'.t.get j = H.t.get j) → Q (.bool true) H') : WCall E 4 [.str K, .str X, .str Y] H Q := by
  refine WCall.func (hT.none 4 _ _ (by decide)) ((hT.funcs 4).trans rfl) ?_
  have f0 : (frameOf [.str K, .str X, .str Y] 0 .nil).get 0 = some (.str K) := rfl
  have f1 : (frameOf [.str K, .str X, .str Y] 0 .nil).get 1 = some (.str X) := rfl
  have f2 : (frameOf [.str K, .str X, .str Y] 0 .nil).get 2 = some (.str Y) := rfl
  generalize frameOf [.str K, .str X, .str Y] 0 .nil = a at f0 f1 f2
  refine W.seq (W.region ?_)
  simp only [w_mov, w_ibin, w_load1, w_loadN, w_nilCheck, w_indexArr, w_indexSl, w_indexVal, w_indexStr, w_lenStr, w_lenSl, w_store, w_alloc, w_box, w_build, w_sliceArr, w_bytesToStr, w_pick, WOps_nil, thenQ_normal, eX_t, eX_c, put_s, put_n, getset, Nat.reduceEqDiff, if_false, if_true, Option.getD_some, rd, natOf_nn, natOf_by, Option.some.injEq, exists_eq_left', Prod.mk.injEq, and_assoc, exists_and_left, true_and, Nat.zero_add, Nat.add_zero, Nat.mul_one, ble_t, mul_nn, quo_nn, rem_nn, add_nn, sub_nn, lss_nn, eql_nn, neq_nn, xor_by, k0, k1, k2, k3, k4, k5, k6, k7, k8, k12, k13, k14, k15, k16, k32, k60, k254, k256]
  refine W.seq (W.region ?_)
  simp only [w_mov, w_ibin, w_load1, w_loadN, w_nilCheck, w_indexArr, w_indexSl, w_indexVal, w_indexStr, w_lenStr, w_lenSl, w_store, w_alloc, w_box, w_build, w_sliceArr, w_bytesToStr, w_pick, WOps_nil, thenQ_normal, eX_t, eX_c, put_s, put_n, getset, Nat.reduceEqDiff, if_false, if_true, Option.getD_some, rd, natOf_nn, natOf_by, Option.some.injEq, exists_eq_left', Prod.mk.injEq, and_assoc, exists_and_left, true_and, Nat.zero_add, Nat.add_zero, Nat.mul_one, ble_t, mul_nn, quo_nn, rem_nn, add_nn, sub_nn, lss_nn, eql_nn, neq_nn, xor_by, k0, k1, k2, k3, k4, k5, k6, k7, k8, k12, k13, k14, k15, k16, k32, k60, k254, k256, f0]
  refine WOps.call (g := 11) (first := []) (captured := []) rfl ?_
  simp only [List.map_nil, List.map_cons, List.nil_append, List.append_nil, eX_t, eX_c, put_s, put_n, getset, Nat.reduceEqDiff, if_false, if_true, Option.getD_some]
  refine brought_ok hT.funcs hT.none (by omega) ?_
  intro H1 hn1 hb1
  have l1 : (broughtP K 32).length = 32 := length_broughtP K 32
  generalize broughtP K 32 = K' at l1
  simp only [w_mov, w_ibin, w_load1, w_loadN, w_nilCheck, w_indexArr, w_indexSl, w_indexVal, w_indexStr, w_lenStr, w_lenSl, w_store, w_alloc, w_box, w_build, w_sliceArr, w_bytesToStr, w_pick, WOps_nil, thenQ_normal, eX_t, eX_c, put_s, put_n, getset, Nat.reduceEqDiff, if_false, if_true, Option.getD_some, rd, natOf_nn, natOf_by, Option.some.injEq, exists_eq_left', Prod.mk.injEq, and_assoc, exists_and_left, true_and, Nat.zero_add, Nat.add_zero, Nat.mul_one, ble_t, mul_nn, quo_nn, rem_nn, add_nn, sub_nn, lss_nn, eql_nn, neq_nn, xor_by, k0, k1, k2, k3, k4, k5, k6, k7, k8, k12, k13, k14, k15, k16, k32, k60, k254, k256]
  refine W.seq (W.region ?_)
  simp only [w_mov, w_ibin, w_load1, w_loadN, w_nilCheck, w_indexArr, w_indexSl, w_indexVal, w_indexStr, w_lenStr, w_lenSl, w_store, w_alloc, w_box, w_build, w_sliceArr, w_bytesToStr, w_pick, WOps_nil, thenQ_normal, eX_t, eX_c, put_s, put_n, getset, Nat.reduceEqDiff, if_false, if_true, Option.getD_some, rd, natOf_nn, natOf_by, Option.some.injEq, exists_eq_left', Prod.mk.injEq, and_assoc, exists_and_left, true_and, Nat.zero_add, Nat.add_zero, Nat.mul_one, ble_t, mul_nn, quo_nn, rem_nn, add_nn, sub_nn, lss_nn, eql_nn, neq_nn, xor_by, k0, k1, k2, k3, k4, k5, k6, k7, k8, k12, k13, k14, k15, k16, k32, k60, k254, k256, f1]
  refine WOps.call (g := 11) (first := []) (captured := []) rfl ?_
  simp only [List.map_nil, List.map_cons, List.nil_append, List.append_nil, eX_t, eX_c, put_s, put_n, getset, Nat.reduceEqDiff, if_false, if_true, Option.getD_some]
  refine brought_ok hT.funcs hT.none (by omega) ?_
  intro H2 hn2 hb2
  have l2 : (broughtP X 16).length = 16 := length_broughtP X 16
  generalize broughtP X 16 = X' at l2
  simp only [w_mov, w_ibin, w_load1, w_loadN, w_nilCheck, w_indexArr, w_indexSl, w_indexVal, w_indexStr, w_lenStr, w_lenSl, w_store, w_alloc, w_box, w_build, w_sliceArr, w_bytesToStr, w_pick, WOps_nil, thenQ_normal, eX_t, eX_c, put_s, put_n, getset, Nat.reduceEqDiff, if_false, if_true, Option.getD_some, rd, natOf_nn, natOf_by, Option.some.injEq, exists_eq_left', Prod.mk.injEq, and_assoc, exists_and_left, true_and, Nat.zero_add, Nat.add_zero, Nat.mul_one, ble_t, mul_nn, quo_nn, rem_nn, add_nn, sub_nn, lss_nn, eql_nn, neq_nn, xor_by, k0, k1, k2, k3, k4, k5, k6, k7, k8, k12, k13, k14, k15, k16, k32, k60, k254, k256]
  refine W.seq (W.region ?_)
  simp only [w_mov, w_ibin, w_load1, w_loadN, w_nilCheck, w_indexArr, w_indexSl, w_indexVal, w_indexStr, w_lenStr, w_lenSl, w_store, w_alloc, w_box, w_build, w_sliceArr, w_bytesToStr, w_pick, WOps_nil, thenQ_normal, eX_t, eX_c, put_s, put_n, getset, Nat.reduceEqDiff, if_false, if_true, Option.getD_some, rd, natOf_nn, natOf_by, Option.some.injEq, exists_eq_left', Prod.mk.injEq, and_assoc, exists_and_left, true_and, Nat.zero_add, Nat.add_zero, Nat.mul_one, ble_t, mul_nn, quo_nn, rem_nn, add_nn, sub_nn, lss_nn, eql_nn, neq_nn, xor_by, k0, k1, k2, k3, k4, k5, k6, k7, k8, k12, k13, k14, k15, k16, k32, k60, k254, k256, f2]
  refine WOps.call (g := 11) (first := []) (captured := []) rfl ?_
  simp only [List.map_nil, List.map_cons, List.nil_append, List.append_nil, eX_t, eX_c, put_s, put_n, getset, Nat.reduceEqDiff, if_false, if_true, Option.getD_some]
  refine brought_ok hT.funcs hT.none (by omega) ?_
  intro H3 hn3 hb3
  have l3 : (broughtP Y 16).length = 16 := length_broughtP Y 16
  generalize broughtP Y 16 = Y' at l3
  simp only [w_mov, w_ibin, w_load1, w_loadN, w_nilCheck, w_indexArr, w_indexSl, w_indexVal, w_indexStr, w_lenStr, w_lenSl, w_store, w_alloc, w_box, w_build, w_sliceArr, w_bytesToStr, w_pick, WOps_nil, thenQ_normal, eX_t, eX_c, put_s, put_n, getset, Nat.reduceEqDiff, if_false, if_true, Option.getD_some, rd, natOf_nn, natOf_by, Option.some.injEq, exists_eq_left', Prod.mk.injEq, and_assoc, exists_and_left, true_and, Nat.zero_add, Nat.add_zero, Nat.mul_one, ble_t, mul_nn, quo_nn, rem_nn, add_nn, sub_nn, lss_nn, eql_nn, neq_nn, xor_by, k0, k1, k2, k3, k4, k5, k6, k7, k8, k12, k13, k14, k15, k16, k32, k60, k254, k256]
  refine W.seq (W.region ?_)
  simp only [w_mov, w_ibin, w_load1, w_loadN, w_nilCheck, w_indexArr, w_indexSl, w_indexVal, w_indexStr, w_lenStr, w_lenSl, w_store, w_alloc, w_box, w_build, w_sliceArr, w_bytesToStr, w_pick, WOps_nil, thenQ_normal, eX_t, eX_c, put_s, put_n, getset, Nat.reduceEqDiff, if_false, if_true, Option.getD_some, rd, natOf_nn, natOf_by, Option.some.injEq, exists_eq_left', Prod.mk.injEq, and_assoc, exists_and_left, true_and, Nat.zero_add, Nat.add_zero, Nat.mul_one, ble_t, mul_nn, quo_nn, rem_nn, add_nn, sub_nn, lss_nn, eql_nn, neq_nn, xor_by, k0, k1, k2, k3, k4, k5, k6, k7, k8, k12, k13, k14, k15, k16, k32, k60, k254, k256]
  refine WOps.call (g := 8) (first := []) (captured := []) rfl ?_
  simp only [List.map_nil, List.map_cons, List.nil_append, List.append_nil, eX_t, eX_c, put_s, put_n, getset, Nat.reduceEqDiff, if_false, if_true, Option.getD_some]
  refine Block_ok hT.funcs hT.none ?_
  intro H4 hn4 hb4
  rw [blockP_full l1 l2]
  simp only [w_mov, w_ibin, w_load1, w_loadN, w_nilCheck, w_indexArr, w_indexSl, w_indexVal, w_indexStr, w_lenStr, w_lenSl, w_store, w_alloc, w_box, w_build, w_sliceArr, w_bytesToStr, w_pick, WOps_nil, thenQ_normal, eX_t, eX_c, put_s, put_n, getset, Nat.reduceEqDiff, if_false, if_true, Option.getD_some, rd, natOf_nn, natOf_by, Option.some.injEq, exists_eq_left', Prod.mk.injEq, and_assoc, exists_and_left, true_and, Nat.zero_add, Nat.add_zero, Nat.mul_one, ble_t, mul_nn, quo_nn, rem_nn, add_nn, sub_nn, lss_nn, eql_nn, neq_nn, xor_by, k0, k1, k2, k3, k4, k5, k6, k7, k8, k12, k13, k14, k15, k16, k32, k60, k254, k256, w_extract, List.getElem?_cons_zero, List.getElem?_cons_succ]
  refine W.seq (W.region ?_)
  simp only [w_mov, w_ibin, w_load1, w_loadN, w_nilCheck, w_indexArr, w_indexSl, w_indexVal, w_indexStr, w_lenStr, w_lenSl, w_store, w_alloc, w_box, w_build, w_sliceArr, w_bytesToStr, w_pick, WOps_nil, thenQ_normal, eX_t, eX_c, put_s, put_n, getset, Nat.reduceEqDiff, if_false, if_true, Option.getD_some, rd, natOf_nn, natOf_by, Option.some.injEq, exists_eq_left', Prod.mk.injEq, and_assoc, exists_and_left, true_and, Nat.zero_add, Nat.add_zero, Nat.mul_one, ble_t, mul_nn, quo_nn, rem_nn, add_nn, sub_nn, lss_nn, eql_nn, neq_nn, xor_by, k0, k1, k2, k3, k4, k5, k6, k7, k8, k12, k13, k14, k15, k16, k32, k60, k254, k256]
  refine WOps.call (g := 8) (first := []) (captured := []) rfl ?_
  simp only [List.map_nil, List.map_cons, List.nil_append, List.append_nil, eX_t, eX_c, put_s, put_n, getset, Nat.reduceEqDiff, if_false, if_true, Option.getD_some]
  refine Block_ok hT.funcs hT.none ?_
  intro H5 hn5 hb5
  rw [blockP_full l1 l3]
  simp only [w_mov, w_ibin, w_load1, w_loadN, w_nilCheck, w_indexArr, w_indexSl, w_indexVal, w_indexStr, w_lenStr, w_lenSl, w_store, w_alloc, w_box, w_build, w_sliceArr, w_bytesToStr, w_pick, WOps_nil, thenQ_normal, eX_t, eX_c, put_s, put_n, getset, Nat.reduceEqDiff, if_false, if_true, Option.getD_some, rd, natOf_nn, natOf_by, Option.some.injEq, exists_eq_left', Prod.mk.injEq, and_assoc, exists_and_left, true_and, Nat.zero_add, Nat.add_zero, Nat.mul_one, ble_t, mul_nn, quo_nn, rem_nn, add_nn, sub_nn, lss_nn, eql_nn, neq_nn, xor_by, k0, k1, k2, k3, k4, k5, k6, k7, k8, k12, k13, k14, k15, k16, k32, k60, k254, k256, w_extract, List.getElem?_cons_zero, List.getElem?_cons_succ]
  have hxy : (encP (keysP K') X' == encP (keysP K') Y') = (X' == Y') := by
    rw [Bool.eq_iff_iff, beq_iff_eq, beq_iff_eq]
    exact ⟨fun h => encP_inj l2 l3 h, fun h => by rw [h]⟩
  have hle := length_encP (C := keysP K') l2
  generalize encP (keysP K') X' = A at hxy hle
  generalize encP (keysP K') Y' = B at hxy
  refine W.seq (W.region ?_)
  simp only [w_mov, w_ibin, w_load1, w_loadN, w_nilCheck, w_indexArr, w_indexSl, w_indexVal, w_indexStr, w_lenStr, w_lenSl, w_store, w_alloc, w_box, w_build, w_sliceArr, w_bytesToStr, w_pick, WOps_nil, thenQ_normal, eX_t, eX_c, put_s, put_n, getset, Nat.reduceEqDiff, if_false, if_true, Option.getD_some, rd, natOf_nn, natOf_by, Option.some.injEq, exists_eq_left', Prod.mk.injEq, and_assoc, exists_and_left, true_and, Nat.zero_add, Nat.add_zero, Nat.mul_one, ble_t, mul_nn, quo_nn, rem_nn, add_nn, sub_nn, lss_nn, eql_nn, neq_nn, xor_by, k0, k1, k2, k3, k4, k5, k6, k7, k8, k12, k13, k14, k15, k16, k32, k60, k254, k256, decide_true]
  refine WOps_want ((wantedA_some (d := 31) (b := true) rfl (by simp only [eX_t, eX_c, put_s, put_n, getset, Nat.reduceEqDiff, if_false, if_true, Option.getD_some])).trans rfl) ?_
  simp only [w_mov, w_ibin, w_load1, w_loadN, w_nilCheck, w_indexArr, w_indexSl, w_indexVal, w_indexStr, w_lenStr, w_lenSl, w_store, w_alloc, w_box, w_build, w_sliceArr, w_bytesToStr, w_pick, WOps_nil, thenQ_normal, eX_t, eX_c, put_s, put_n, getset, Nat.reduceEqDiff, if_false, if_true, Option.getD_some, rd, natOf_nn, natOf_by, Option.some.injEq, exists_eq_left', Prod.mk.injEq, and_assoc, exists_and_left, true_and, Nat.zero_add, Nat.add_zero, Nat.mul_one, ble_t, mul_nn, quo_nn, rem_nn, add_nn, sub_nn, lss_nn, eql_nn, neq_nn, xor_by, k0, k1, k2, k3, k4, k5, k6, k7, k8, k12, k13, k14, k15, k16, k32, k60, k254, k256]
  refine WOps_want ((wantedA_some (d := 31) (b := true) rfl (by simp only [eX_t, eX_c, put_s, put_n, getset, Nat.reduceEqDiff, if_false, if_true, Option.getD_some])).trans rfl) ?_
  simp only [w_mov, w_ibin, w_load1, w_loadN, w_nilCheck, w_indexArr, w_indexSl, w_indexVal, w_indexStr, w_lenStr, w_lenSl, w_store, w_alloc, w_box, w_build, w_sliceArr, w_bytesToStr, w_pick, WOps_nil, thenQ_normal, eX_t, eX_c, put_s, put_n, getset, Nat.reduceEqDiff, if_false, if_true, Option.getD_some, rd, natOf_nn, natOf_by, Option.some.injEq, exists_eq_left', Prod.mk.injEq, and_assoc, exists_and_left, true_and, Nat.zero_add, Nat.add_zero, Nat.mul_one, ble_t, mul_nn, quo_nn, rem_nn, add_nn, sub_nn, lss_nn, eql_nn, neq_nn, xor_by, k0, k1, k2, k3, k4, k5, k6, k7, k8, k12, k13, k14, k15, k16, k32, k60, k254, k256, decide_true]
  refine WOps_want ((wantedA_some (d := 35) (b := true) rfl (by simp only [eX_t, eX_c, put_s, put_n, getset, Nat.reduceEqDiff, if_false, if_true, Option.getD_some, cond_true])).trans rfl) ?_
  simp only [w_mov, w_ibin, w_load1, w_loadN, w_nilCheck, w_indexArr, w_indexSl, w_indexVal, w_indexStr, w_lenStr, w_lenSl, w_store, w_alloc, w_box, w_build, w_sliceArr, w_bytesToStr, w_pick, WOps_nil, thenQ_normal, eX_t, eX_c, put_s, put_n, getset, Nat.reduceEqDiff, if_false, if_true, Option.getD_some, rd, natOf_nn, natOf_by, Option.some.injEq, exists_eq_left', Prod.mk.injEq, and_assoc, exists_and_left, true_and, Nat.zero_add, Nat.add_zero, Nat.mul_one, ble_t, mul_nn, quo_nn, rem_nn, add_nn, sub_nn, lss_nn, eql_nn, neq_nn, xor_by, k0, k1, k2, k3, k4, k5, k6, k7, k8, k12, k13, k14, k15, k16, k32, k60, k254, k256]
  refine WOps_want ((wantedA_some (d := 35) (b := true) rfl (by simp only [eX_t, eX_c, put_s, put_n, getset, Nat.reduceEqDiff, if_false, if_true, Option.getD_some, cond_true])).trans rfl) ?_
  simp only [w_mov, w_ibin, w_load1, w_loadN, w_nilCheck, w_indexArr, w_indexSl, w_indexVal, w_indexStr, w_lenStr, w_lenSl, w_store, w_alloc, w_box, w_build, w_sliceArr, w_bytesToStr, w_pick, WOps_nil, thenQ_normal, eX_t, eX_c, put_s, put_n, getset, Nat.reduceEqDiff, if_false, if_true, Option.getD_some, rd, natOf_nn, natOf_by, Option.some.injEq, exists_eq_left', Prod.mk.injEq, and_assoc, exists_and_left, true_and, Nat.zero_add, Nat.add_zero, Nat.mul_one, ble_t, mul_nn, quo_nn, rem_nn, add_nn, sub_nn, lss_nn, eql_nn, neq_nn, xor_by, k0, k1, k2, k3, k4, k5, k6, k7, k8, k12, k13, k14, k15, k16, k32, k60, k254, k256]
  refine WOps_want ((wantedA_some (d := 35) (b := true) rfl (by simp only [eX_t, eX_c, put_s, put_n, getset, Nat.reduceEqDiff, if_false, if_true, Option.getD_some, cond_true])).trans rfl) ?_
  simp only [w_mov, w_ibin, w_load1, w_loadN, w_nilCheck, w_indexArr, w_indexSl, w_indexVal, w_indexStr, w_lenStr, w_lenSl, w_store, w_alloc, w_box, w_build, w_sliceArr, w_bytesToStr, w_pick, WOps_nil, thenQ_normal, eX_t, eX_c, put_s, put_n, getset, Nat.reduceEqDiff, if_false, if_true, Option.getD_some, rd, natOf_nn, natOf_by, Option.some.injEq, exists_eq_left', Prod.mk.injEq, and_assoc, exists_and_left, true_and, Nat.zero_add, Nat.add_zero, Nat.mul_one, ble_t, mul_nn, quo_nn, rem_nn, add_nn, sub_nn, lss_nn, eql_nn, neq_nn, xor_by, k0, k1, k2, k3, k4, k5, k6, k7, k8, k12, k13, k14, k15, k16, k32, k60, k254, k256, w_sbin, sbin_eql]
  refine WOps_want ((wantedA_some (d := 35) (b := true) rfl (by simp only [eX_t, eX_c, put_s, put_n, getset, Nat.reduceEqDiff, if_false, if_true, Option.getD_some, cond_true])).trans rfl) ?_
  simp only [w_mov, w_ibin, w_load1, w_loadN, w_nilCheck, w_indexArr, w_indexSl, w_indexVal, w_indexStr, w_lenStr, w_lenSl, w_store, w_alloc, w_box, w_build, w_sliceArr, w_bytesToStr, w_pick, WOps_nil, thenQ_normal, eX_t, eX_c, put_s, put_n, getset, Nat.reduceEqDiff, if_false, if_true, Option.getD_some, rd, natOf_nn, natOf_by, Option.some.injEq, exists_eq_left', Prod.mk.injEq, and_assoc, exists_and_left, true_and, Nat.zero_add, Nat.add_zero, Nat.mul_one, ble_t, mul_nn, quo_nn, rem_nn, add_nn, sub_nn, lss_nn, eql_nn, neq_nn, xor_by, k0, k1, k2, k3, k4, k5, k6, k7, k8, k12, k13, k14, k15, k16, k32, k60, k254, k256]
  refine WOps_want ((wantedA_some (d := 35) (b := true) rfl (by simp only [eX_t, eX_c, put_s, put_n, getset, Nat.reduceEqDiff, if_false, if_true, Option.getD_some, cond_true])).trans rfl) ?_
  simp only [w_mov, w_ibin, w_load1, w_loadN, w_nilCheck, w_indexArr, w_indexSl, w_indexVal, w_indexStr, w_lenStr, w_lenSl, w_store, w_alloc, w_box, w_build, w_sliceArr, w_bytesToStr, w_pick, WOps_nil, thenQ_normal, eX_t, eX_c, put_s, put_n, getset, Nat.reduceEqDiff, if_false, if_true, Option.getD_some, rd, natOf_nn, natOf_by, Option.some.injEq, exists_eq_left', Prod.mk.injEq, and_assoc, exists_and_left, true_and, Nat.zero_add, Nat.add_zero, Nat.mul_one, ble_t, mul_nn, quo_nn, rem_nn, add_nn, sub_nn, lss_nn, eql_nn, neq_nn, xor_by, k0, k1, k2, k3, k4, k5, k6, k7, k8, k12, k13, k14, k15, k16, k32, k60, k254, k256]
  refine WOps_want ((wantedA_some (d := 35) (b := true) rfl (by simp only [eX_t, eX_c, put_s, put_n, getset, Nat.reduceEqDiff, if_false, if_true, Option.getD_some, cond_true])).trans rfl) ?_
  simp only [w_mov, w_ibin, w_load1, w_loadN, w_nilCheck, w_indexArr, w_indexSl, w_indexVal, w_indexStr, w_lenStr, w_lenSl, w_store, w_alloc, w_box, w_build, w_sliceArr, w_bytesToStr, w_pick, WOps_nil, thenQ_normal, eX_t, eX_c, put_s, put_n, getset, Nat.reduceEqDiff, if_false, if_true, Option.getD_some, rd, natOf_nn, natOf_by, Option.some.injEq, exists_eq_left', Prod.mk.injEq, and_assoc, exists_and_left, true_and, Nat.zero_add, Nat.add_zero, Nat.mul_one, ble_t, mul_nn, quo_nn, rem_nn, add_nn, sub_nn, lss_nn, eql_nn, neq_nn, xor_by, k0, k1, k2, k3, k4, k5, k6, k7, k8, k12, k13, k14, k15, k16, k32, k60, k254, k256, w_sbin, sbin_eql]
  refine WOps_want ((wantedA_some (d := 35) (b := true) rfl (by simp only [eX_t, eX_c, put_s, put_n, getset, Nat.reduceEqDiff, if_false, if_true, Option.getD_some, cond_true])).trans rfl) ?_
  rw [w_eqv]
  refine ⟨.bool true, by simp only [rd, eX_t, eX_c, put_s, put_n, getset, Nat.reduceEqDiff, if_false, if_true, Option.getD_some, eqv, hxy, beq_self_eq_true, cond_false], ?_⟩
  simp only [w_mov, w_ibin, w_load1, w_loadN, w_nilCheck, w_indexArr, w_indexSl, w_indexVal, w_indexStr, w_lenStr, w_lenSl, w_store, w_alloc, w_box, w_build, w_sliceArr, w_bytesToStr, w_pick, WOps_nil, thenQ_normal, eX_t, eX_c, put_s, put_n, getset, Nat.reduceEqDiff, if_false, if_true, Option.getD_some, rd, natOf_nn, natOf_by, Option.some.injEq, exists_eq_left', Prod.mk.injEq, and_assoc, exists_and_left, true_and, Nat.zero_add, Nat.add_zero, Nat.mul_one, ble_t, mul_nn, quo_nn, rem_nn, add_nn, sub_nn, lss_nn, eql_nn, neq_nn, xor_by, k0, k1, k2, k3, k4, k5, k6, k7, k8, k12, k13, k14, k15, k16, k32, k60, k254, k256, cond_true]
  refine WOps_want ((wantedA_some (d := 44) (b := true) rfl (by simp only [eX_t, eX_c, put_s, put_n, getset, Nat.reduceEqDiff, if_false, if_true, Option.getD_some, cond_true])).trans rfl) ?_
  simp only [w_mov, w_ibin, w_load1, w_loadN, w_nilCheck, w_indexArr, w_indexSl, w_indexVal, w_indexStr, w_lenStr, w_lenSl, w_store, w_alloc, w_box, w_build, w_sliceArr, w_bytesToStr, w_pick, WOps_nil, thenQ_normal, eX_t, eX_c, put_s, put_n, getset, Nat.reduceEqDiff, if_false, if_true, Option.getD_some, rd, natOf_nn, natOf_by, Option.some.injEq, exists_eq_left', Prod.mk.injEq, and_assoc, exists_and_left, true_and, Nat.zero_add, Nat.add_zero, Nat.mul_one, ble_t, mul_nn, quo_nn, rem_nn, add_nn, sub_nn, lss_nn, eql_nn, neq_nn, xor_by, k0, k1, k2, k3, k4, k5, k6, k7, k8, k12, k13, k14, k15, k16, k32, k60, k254, k256]
  refine WOps_want ((wantedA_some (d := 44) (b := true) rfl (by simp only [eX_t, eX_c, put_s, put_n, getset, Nat.reduceEqDiff, if_false, if_true, Option.getD_some, cond_true])).trans rfl) ?_
  simp only [w_mov, w_ibin, w_load1, w_loadN, w_nilCheck, w_indexArr, w_indexSl, w_indexVal, w_indexStr, w_lenStr, w_lenSl, w_store, w_alloc, w_box, w_build, w_sliceArr, w_bytesToStr, w_pick, WOps_nil, thenQ_normal, eX_t, eX_c, put_s, put_n, getset, Nat.reduceEqDiff, if_false, if_true, Option.getD_some, rd, natOf_nn, natOf_by, Option.some.injEq, exists_eq_left', Prod.mk.injEq, and_assoc, exists_and_left, true_and, Nat.zero_add, Nat.add_zero, Nat.mul_one, ble_t, mul_nn, quo_nn, rem_nn, add_nn, sub_nn, lss_nn, eql_nn, neq_nn, xor_by, k0, k1, k2, k3, k4, k5, k6, k7, k8, k12, k13, k14, k15, k16, k32, k60, k254, k256, hle]
  refine WOps_want ((wantedA_some (d := 44) (b := true) rfl (by simp only [eX_t, eX_c, put_s, put_n, getset, Nat.reduceEqDiff, if_false, if_true, Option.getD_some, cond_true])).trans rfl) ?_
  rw [show ∀ n : Nat, AV.int .i64 (.ofNat n) = nn n from fun _ => rfl]
  simp only [w_mov, w_ibin, w_load1, w_loadN, w_nilCheck, w_indexArr, w_indexSl, w_indexVal, w_indexStr, w_lenStr, w_lenSl, w_store, w_alloc, w_box, w_build, w_sliceArr, w_bytesToStr, w_pick, WOps_nil, thenQ_normal, eX_t, eX_c, put_s, put_n, getset, Nat.reduceEqDiff, if_false, if_true, Option.getD_some, rd, natOf_nn, natOf_by, Option.some.injEq, exists_eq_left', Prod.mk.injEq, and_assoc, exists_and_left, true_and, Nat.zero_add, Nat.add_zero, Nat.mul_one, ble_t, mul_nn, quo_nn, rem_nn, add_nn, sub_nn, lss_nn, eql_nn, neq_nn, xor_by, k0, k1, k2, k3, k4, k5, k6, k7, k8, k12, k13, k14, k15, k16, k32, k60, k254, k256, decide_true, cond_true]
  refine WOps_want ((wantedA_some (d := 49) (b := true) rfl (by simp only [eX_t, eX_c, put_s, put_n, getset, Nat.reduceEqDiff, if_false, if_true, Option.getD_some, cond_true])).trans rfl) ?_
  refine WOps.call (g := 10) (first := []) (captured := []) rfl ?_
  simp only [List.map_nil, List.map_cons, List.nil_append, List.append_nil, eX_t, eX_c, put_s, put_n, getset, Nat.reduceEqDiff, if_false, if_true, Option.getD_some]
  refine works_ok hT ?_
  intro H6 hn6 hb6
  simp only [w_mov, w_ibin, w_load1, w_loadN, w_nilCheck, w_indexArr, w_indexSl, w_indexVal, w_indexStr, w_lenStr, w_lenSl, w_store, w_alloc, w_box, w_build, w_sliceArr, w_bytesToStr, w_pick, WOps_nil, thenQ_normal, eX_t, eX_c, put_s, put_n, getset, Nat.reduceEqDiff, if_false, if_true, Option.getD_some, rd, natOf_nn, natOf_by, Option.some.injEq, exists_eq_left', Prod.mk.injEq, and_assoc, exists_and_left, true_and, Nat.zero_add, Nat.add_zero, Nat.mul_one, ble_t, mul_nn, quo_nn, rem_nn, add_nn, sub_nn, lss_nn, eql_nn, neq_nn, xor_by, k0, k1, k2, k3, k4, k5, k6, k7, k8, k12, k13, k14, k15, k16, k32, k60, k254, k256, cond_true]
  refine W.ret ⟨.inr rfl, ?_⟩
  simp only [resultsOf, resOf, eX_t, eX_c, put_s, put_n, getset, Nat.reduceEqDiff, if_false, if_true, Option.getD_some, Option.some.injEq, exists_eq_left', oneOf]
  exact hQ _ (by omega) fun j hj => by rw [hb6 _ (by omega), hb5 _ (by omega), hb4 _ (by omega), hb3 _ (by omega), hb2 _ (by omega), hb1 _ hj]
end Go.AE
end
-- The law AesStreams run on the machine.
section
set_option linter.unusedVariables false
set_option linter.unusedSimpArgs false
set_option maxRecDepth 100000
set_option maxHeartbeats 1000000
namespace Go.AE
variable {E : Env}
attribute [local irreducible] keysP encP blockP ctrP

theorem AesStreams_run (hT : Told E) {H : Heap} {K N Tx : List UInt8} {Q : AV → Heap → Prop}
    (hQ : ∀ H', H.next ≤ H'.next → (∀ j, j < H.next → H'.t.get j = H.t.get j) → Q (.bool true) H') : WCall E 5 [.str K, .str N, .str Tx] H Q := by
  refine WCall.func (hT.none 5 _ _ (by decide)) ((hT.funcs 5).trans rfl) ?_
  have f0 : (frameOf [.str K, .str N, .str Tx] 0 .nil).get 0 = some (.str K) := rfl
  have f1 : (frameOf [.str K, .str N, .str Tx] 0 .nil).get 1 = some (.str N) := rfl
  have f2 : (frameOf [.str K, .str N, .str Tx] 0 .nil).get 2 = some (.str Tx) := rfl
  generalize frameOf [.str K, .str N, .str Tx] 0 .nil = a at f0 f1 f2
  have e32 : ∀ n : Nat, AV.int .i64 (.ofNat n) = nn n := fun _ => rfl
  refine W.seq (W.region ?_)
  simp only [w_mov, w_ibin, w_load1, w_loadN, w_nilCheck, w_indexArr, w_indexSl, w_indexVal, w_indexStr, w_lenStr, w_lenSl, w_store, w_alloc, w_box, w_build, w_sliceArr, w_bytesToStr, w_pick, WOps_nil, thenQ_normal, eX_t, eX_c, put_s, put_n, getset, Nat.reduceEqDiff, if_false, if_true, Option.getD_some, rd, natOf_nn, natOf_by, Option.some.injEq, exists_eq_left', Prod.mk.injEq, and_assoc, exists_and_left, true_and, Nat.zero_add, Nat.add_zero, Nat.mul_one, ble_t, mul_nn, quo_nn, rem_nn, add_nn, sub_nn, lss_nn, eql_nn, neq_nn, xor_by, k0, k1, k2, k3, k4, k5, k6, k7, k8, k12, k13, k14, k15, k16, k32, k60, k254, k256]
  refine W.seq (W.region ?_)
  simp only [w_mov, w_ibin, w_load1, w_loadN, w_nilCheck, w_indexArr, w_indexSl, w_indexVal, w_indexStr, w_lenStr, w_lenSl, w_store, w_alloc, w_box, w_build, w_sliceArr, w_bytesToStr, w_pick, WOps_nil, thenQ_normal, eX_t, eX_c, put_s, put_n, getset, Nat.reduceEqDiff, if_false, if_true, Option.getD_some, rd, natOf_nn, natOf_by, Option.some.injEq, exists_eq_left', Prod.mk.injEq, and_assoc, exists_and_left, true_and, Nat.zero_add, Nat.add_zero, Nat.mul_one, ble_t, mul_nn, quo_nn, rem_nn, add_nn, sub_nn, lss_nn, eql_nn, neq_nn, xor_by, k0, k1, k2, k3, k4, k5, k6, k7, k8, k12, k13, k14, k15, k16, k32, k60, k254, k256, w_minI, f2, e32, kA, List.map_cons, List.map_nil, min_nn]
  rw [w_sliceStr]
  refine ⟨.str (Tx.take (min Tx.length 1000)), ?_, ?_⟩
  · simp only [rd, eX_t, eX_c, put_s, put_n, getset, Nat.reduceEqDiff, if_false, if_true, Option.getD_some]
    rw [bounds_hi (h := min Tx.length 1000) (by simp only [eX_t, eX_c, put_s, put_n, getset, Nat.reduceEqDiff, if_false, if_true, Option.getD_some]) (by omega)]
    rfl
  generalize Tx.take (min Tx.length 1000) = Tt
  simp only [w_mov, w_ibin, w_load1, w_loadN, w_nilCheck, w_indexArr, w_indexSl, w_indexVal, w_indexStr, w_lenStr, w_lenSl, w_store, w_alloc, w_box, w_build, w_sliceArr, w_bytesToStr, w_pick, WOps_nil, thenQ_normal, eX_t, eX_c, put_s, put_n, getset, Nat.reduceEqDiff, if_false, if_true, Option.getD_some, rd, natOf_nn, natOf_by, Option.some.injEq, exists_eq_left', Prod.mk.injEq, and_assoc, exists_and_left, true_and, Nat.zero_add, Nat.add_zero, Nat.mul_one, ble_t, mul_nn, quo_nn, rem_nn, add_nn, sub_nn, lss_nn, eql_nn, neq_nn, xor_by, k0, k1, k2, k3, k4, k5, k6, k7, k8, k12, k13, k14, k15, k16, k32, k60, k254, k256]
  refine W.seq (W.region ?_)
  simp only [w_mov, w_ibin, w_load1, w_loadN, w_nilCheck, w_indexArr, w_indexSl, w_indexVal, w_indexStr, w_lenStr, w_lenSl, w_store, w_alloc, w_box, w_build, w_sliceArr, w_bytesToStr, w_pick, WOps_nil, thenQ_normal, eX_t, eX_c, put_s, put_n, getset, Nat.reduceEqDiff, if_false, if_true, Option.getD_some, rd, natOf_nn, natOf_by, Option.some.injEq, exists_eq_left', Prod.mk.injEq, and_assoc, exists_and_left, true_and, Nat.zero_add, Nat.add_zero, Nat.mul_one, ble_t, mul_nn, quo_nn, rem_nn, add_nn, sub_nn, lss_nn, eql_nn, neq_nn, xor_by, k0, k1, k2, k3, k4, k5, k6, k7, k8, k12, k13, k14, k15, k16, k32, k60, k254, k256, f0, f1]
  refine WOps.call (g := 12) (first := []) (captured := []) rfl ?_
  simp only [List.map_nil, List.map_cons, List.nil_append, List.append_nil, eX_t, eX_c, put_s, put_n, getset, Nat.reduceEqDiff, if_false, if_true, Option.getD_some]
  refine Ctr_ok hT.funcs hT.none ?_
  intro H1 hn1 hb1
  simp only [w_mov, w_ibin, w_load1, w_loadN, w_nilCheck, w_indexArr, w_indexSl, w_indexVal, w_indexStr, w_lenStr, w_lenSl, w_store, w_alloc, w_box, w_build, w_sliceArr, w_bytesToStr, w_pick, WOps_nil, thenQ_normal, eX_t, eX_c, put_s, put_n, getset, Nat.reduceEqDiff, if_false, if_true, Option.getD_some, rd, natOf_nn, natOf_by, Option.some.injEq, exists_eq_left', Prod.mk.injEq, and_assoc, exists_and_left, true_and, Nat.zero_add, Nat.add_zero, Nat.mul_one, ble_t, mul_nn, quo_nn, rem_nn, add_nn, sub_nn, lss_nn, eql_nn, neq_nn, xor_by, k0, k1, k2, k3, k4, k5, k6, k7, k8, k12, k13, k14, k15, k16, k32, k60, k254, k256, w_extract, List.getElem?_cons_zero, List.getElem?_cons_succ]
  refine W.seq (W.region ?_)
  simp only [w_mov, w_ibin, w_load1, w_loadN, w_nilCheck, w_indexArr, w_indexSl, w_indexVal, w_indexStr, w_lenStr, w_lenSl, w_store, w_alloc, w_box, w_build, w_sliceArr, w_bytesToStr, w_pick, WOps_nil, thenQ_normal, eX_t, eX_c, put_s, put_n, getset, Nat.reduceEqDiff, if_false, if_true, Option.getD_some, rd, natOf_nn, natOf_by, Option.some.injEq, exists_eq_left', Prod.mk.injEq, and_assoc, exists_and_left, true_and, Nat.zero_add, Nat.add_zero, Nat.mul_one, ble_t, mul_nn, quo_nn, rem_nn, add_nn, sub_nn, lss_nn, eql_nn, neq_nn, xor_by, k0, k1, k2, k3, k4, k5, k6, k7, k8, k12, k13, k14, k15, k16, k32, k60, k254, k256, f0, f1]
  refine WOps.call (g := 13) (first := []) (captured := []) rfl ?_
  simp only [List.map_nil, List.map_cons, List.nil_append, List.append_nil, eX_t, eX_c, put_s, put_n, getset, Nat.reduceEqDiff, if_false, if_true, Option.getD_some]
  refine rCtr_ok hT.funcs hT.none ?_
  intro H2 hn2 hb2
  generalize ctrP K N Tt = bp
  simp only [w_mov, w_ibin, w_load1, w_loadN, w_nilCheck, w_indexArr, w_indexSl, w_indexVal, w_indexStr, w_lenStr, w_lenSl, w_store, w_alloc, w_box, w_build, w_sliceArr, w_bytesToStr, w_pick, WOps_nil, thenQ_normal, eX_t, eX_c, put_s, put_n, getset, Nat.reduceEqDiff, if_false, if_true, Option.getD_some, rd, natOf_nn, natOf_by, Option.some.injEq, exists_eq_left', Prod.mk.injEq, and_assoc, exists_and_left, true_and, Nat.zero_add, Nat.add_zero, Nat.mul_one, ble_t, mul_nn, quo_nn, rem_nn, add_nn, sub_nn, lss_nn, eql_nn, neq_nn, xor_by, k0, k1, k2, k3, k4, k5, k6, k7, k8, k12, k13, k14, k15, k16, k32, k60, k254, k256, w_extract, List.getElem?_cons_zero, List.getElem?_cons_succ]
  refine W.seq (W.region ?_)
  simp only [w_mov, w_ibin, w_load1, w_loadN, w_nilCheck, w_indexArr, w_indexSl, w_indexVal, w_indexStr, w_lenStr, w_lenSl, w_store, w_alloc, w_box, w_build, w_sliceArr, w_bytesToStr, w_pick, WOps_nil, thenQ_normal, eX_t, eX_c, put_s, put_n, getset, Nat.reduceEqDiff, if_false, if_true, Option.getD_some, rd, natOf_nn, natOf_by, Option.some.injEq, exists_eq_left', Prod.mk.injEq, and_assoc, exists_and_left, true_and, Nat.zero_add, Nat.add_zero, Nat.mul_one, ble_t, mul_nn, quo_nn, rem_nn, add_nn, sub_nn, lss_nn, eql_nn, neq_nn, xor_by, k0, k1, k2, k3, k4, k5, k6, k7, k8, k12, k13, k14, k15, k16, k32, k60, k254, k256, w_sbin, sbin_eql, beq_self_eq_true]
  refine WOps_want ((wantedA_some (d := 33) (b := true) rfl (by simp only [eX_t, eX_c, put_s, put_n, getset, Nat.reduceEqDiff, if_false, if_true, Option.getD_some])).trans rfl) ?_
  simp only [w_mov, w_ibin, w_load1, w_loadN, w_nilCheck, w_indexArr, w_indexSl, w_indexVal, w_indexStr, w_lenStr, w_lenSl, w_store, w_alloc, w_box, w_build, w_sliceArr, w_bytesToStr, w_pick, WOps_nil, thenQ_normal, eX_t, eX_c, put_s, put_n, getset, Nat.reduceEqDiff, if_false, if_true, Option.getD_some, rd, natOf_nn, natOf_by, Option.some.injEq, exists_eq_left', Prod.mk.injEq, and_assoc, exists_and_left, true_and, Nat.zero_add, Nat.add_zero, Nat.mul_one, ble_t, mul_nn, quo_nn, rem_nn, add_nn, sub_nn, lss_nn, eql_nn, neq_nn, xor_by, k0, k1, k2, k3, k4, k5, k6, k7, k8, k12, k13, k14, k15, k16, k32, k60, k254, k256]
  refine WOps_want ((wantedA_some (d := 33) (b := true) rfl (by simp only [eX_t, eX_c, put_s, put_n, getset, Nat.reduceEqDiff, if_false, if_true, Option.getD_some])).trans rfl) ?_
  simp only [w_mov, w_ibin, w_load1, w_loadN, w_nilCheck, w_indexArr, w_indexSl, w_indexVal, w_indexStr, w_lenStr, w_lenSl, w_store, w_alloc, w_box, w_build, w_sliceArr, w_bytesToStr, w_pick, WOps_nil, thenQ_normal, eX_t, eX_c, put_s, put_n, getset, Nat.reduceEqDiff, if_false, if_true, Option.getD_some, rd, natOf_nn, natOf_by, Option.some.injEq, exists_eq_left', Prod.mk.injEq, and_assoc, exists_and_left, true_and, Nat.zero_add, Nat.add_zero, Nat.mul_one, ble_t, mul_nn, quo_nn, rem_nn, add_nn, sub_nn, lss_nn, eql_nn, neq_nn, xor_by, k0, k1, k2, k3, k4, k5, k6, k7, k8, k12, k13, k14, k15, k16, k32, k60, k254, k256]
  refine WOps_want ((wantedA_some (d := 33) (b := true) rfl (by simp only [eX_t, eX_c, put_s, put_n, getset, Nat.reduceEqDiff, if_false, if_true, Option.getD_some])).trans rfl) ?_
  simp only [w_mov, w_ibin, w_load1, w_loadN, w_nilCheck, w_indexArr, w_indexSl, w_indexVal, w_indexStr, w_lenStr, w_lenSl, w_store, w_alloc, w_box, w_build, w_sliceArr, w_bytesToStr, w_pick, WOps_nil, thenQ_normal, eX_t, eX_c, put_s, put_n, getset, Nat.reduceEqDiff, if_false, if_true, Option.getD_some, rd, natOf_nn, natOf_by, Option.some.injEq, exists_eq_left', Prod.mk.injEq, and_assoc, exists_and_left, true_and, Nat.zero_add, Nat.add_zero, Nat.mul_one, ble_t, mul_nn, quo_nn, rem_nn, add_nn, sub_nn, lss_nn, eql_nn, neq_nn, xor_by, k0, k1, k2, k3, k4, k5, k6, k7, k8, k12, k13, k14, k15, k16, k32, k60, k254, k256, decide_true, cond_true]
  refine WOps_want ((wantedA_some (d := 38) (b := true) rfl (by simp only [eX_t, eX_c, put_s, put_n, getset, Nat.reduceEqDiff, if_false, if_true, Option.getD_some, cond_true])).trans rfl) ?_
  refine WOps.call (g := 10) (first := []) (captured := []) rfl ?_
  simp only [List.map_nil, List.map_cons, List.nil_append, List.append_nil, eX_t, eX_c, put_s, put_n, getset, Nat.reduceEqDiff, if_false, if_true, Option.getD_some]
  refine works_ok hT ?_
  intro H3 hn3 hb3
  simp only [w_mov, w_ibin, w_load1, w_loadN, w_nilCheck, w_indexArr, w_indexSl, w_indexVal, w_indexStr, w_lenStr, w_lenSl, w_store, w_alloc, w_box, w_build, w_sliceArr, w_bytesToStr, w_pick, WOps_nil, thenQ_normal, eX_t, eX_c, put_s, put_n, getset, Nat.reduceEqDiff, if_false, if_true, Option.getD_some, rd, natOf_nn, natOf_by, Option.some.injEq, exists_eq_left', Prod.mk.injEq, and_assoc, exists_and_left, true_and, Nat.zero_add, Nat.add_zero, Nat.mul_one, ble_t, mul_nn, quo_nn, rem_nn, add_nn, sub_nn, lss_nn, eql_nn, neq_nn, xor_by, k0, k1, k2, k3, k4, k5, k6, k7, k8, k12, k13, k14, k15, k16, k32, k60, k254, k256, cond_true]
  refine W.ret ⟨.inr rfl, ?_⟩
  simp only [resultsOf, resOf, eX_t, eX_c, put_s, put_n, getset, Nat.reduceEqDiff, if_false, if_true, Option.getD_some, Option.some.injEq, exists_eq_left', oneOf]
  exact hQ _ (by omega) fun j hj => by rw [hb3 _ (by omega), hb2 _ (by omega), hb1 _ hj]
end Go.AE
end
-- The law AesStreams: any text goes under the stream of any key and nonce, or is refused, as the reference does it.
section
set_option linter.unusedVariables false
set_option maxRecDepth 100000
namespace Go.Proofs.Ytdpnbpocjdooeaa
open Go.Proofs Go.ChangeShapes Go.WideShapes Go.ChangeAt Go.RowKit Go.AE
open Go.ChangeMaps (open_string shut_string)

theorem aesStreams_own : ownKnob Try.prog.godebug = none := by kernel_rfl

theorem aesStreams_walk (s0 s1 s2 : ByteArray) (W : World) : Calls Try.prog 5 #[.string s0, .string s1, .string s2] W fun e W' => e = .returned (.bool true) ∧ Below W.heap.size W W' := by
  obtain ⟨⟨l0⟩⟩ := s0
  obtain ⟨⟨l1⟩⟩ := s1
  obtain ⟨⟨l2⟩⟩ := s2
  exact law_calls (args := [.str l0, .str l1, .str l2]) (AesStreams_run told1 fun _ _ _ => rfl) (by simp [rels, rel])

theorem aesStreams_lifted (os : Os) (started : os.Started) (H : Type) (enc : TypeId × Value → H) :
    ReturnsInHanded {} Try.checked os 5 .any (Rows.aesStreamsSpec.pre6 enc Try.prog Try.f5 Rows.aesStreamsRow.domain false) (Rows.aesStreamsSpec.post enc Try.prog Try.f5 false true false false) := by
  refine returnsInHanded_of_change (C := Try.checked) aesStreams_own started (by kernel_rfl) Try.func5
    (ChangeSpec.witness6 (enc := enc) (C := Try.checked) false ⟨#[], #[.string ⟨#[]⟩, .string ⟨#[]⟩, .string ⟨#[]⟩], []⟩ 8 (by kernel_rfl) (by kernel_rfl) (by kernel_rfl) (by kernel_rfl)) ?_
  intro W base args ds gs before hval0 hW hcnd0 _
  clear hcnd0
  have hval : ∀ (j : Nat) t v, Try.f5.params[j]? = some t → args[j]? = some v → Value.okWide Try.prog W .any base t v := hval0
  have hW' := hW
  obtain ⟨p, q, hA0, hV, rfl, _, _⟩ := hW
  have hA : DataW.TrodAll enc Try.prog W 0 (fun _ => true) true Try.f5.params.toList args.toList ds p := hA0
  rw [Try.params5] at hA hval
  obtain ⟨v0, v1, v2, d0, d1, d2, p0, p1, p2, rfl, rfl, rfl, h0, h1, h2⟩ := trodAll_three hA
  obtain ⟨rfl, rfl⟩ := trodVars_none hV
  obtain ⟨s0, rfl, rfl, rfl, hs0⟩ := open_string Try.underlying9 (hval 0 9 v0 rfl rfl) h0
  obtain ⟨s1, rfl, rfl, rfl, hs1⟩ := open_string Try.underlying9 (hval 1 9 v1 rfl rfl) h1
  obtain ⟨s2, rfl, rfl, rfl, hs2⟩ := open_string Try.underlying9 (hval 2 9 v2 rfl rfl) h2
  clear hA0 hval0
  simp only [List.append_nil] at hW'
  refine (aesStreams_walk s0 s1 s2 W).mono fun e W' ⟨he, hw⟩ => ?_
  subst he
  exact ⟨_, rfl, post_of_below (pa := []) (pv := []) hW' (fun _ _ _ => trodAll_mk1 (shut_bool Try.underlying4 _)) (fun sp _ => trodAll_mk3 (shut_string Try.underlying9 hs0) (shut_string Try.underlying9 hs1) (shut_string Try.underlying9 hs2)) (fun _ _ => rfl) rfl hw
    (ok_one (by kernel_rfl) rfl (okWide_bool_mk Try.underlying4 _))⟩

theorem aesStreams_holds : Rows.AesStreamsSaid :=
  OpenClaim.holds_of_wide 5 Try.f5 rfl rfl rfl rfl rfl rfl rfl ⟨rfl, rfl, rfl, rfl, rfl⟩ rfl rfl rfl rfl rfl (by kernel_rfl) Try.func5 (by kernel_rfl)
    (of_decide_eq_true (by kernel_rfl)) (by unfold Func.isWrapper; first | (rw [if_pos (by decide +kernel)]; kernel_rfl) | (rw [if_neg (by decide +kernel)]; exact ⟨rfl, rfl⟩))
    (fun os started H enc _ => aesStreams_lifted os started H enc)

#print axioms aesStreams_holds
end Go.Proofs.Ytdpnbpocjdooeaa
end
