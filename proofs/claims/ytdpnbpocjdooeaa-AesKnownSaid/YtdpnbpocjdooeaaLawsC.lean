/- Contracts of the reference of aes: the loops of encipher. -/
import Derived.Test.YtdpnbpocjdooeaaLawsB
import Derived.Test.YtdpnbpocjdooeaaMachineD
import Derived.Test.YtdpnbpocjdooeaaShelf
import Derived.Test.YtdpnbpocjdooeaaChecked
import Derived.Test.YtdpnbpocjdooeaaRows
import Derived.Below
import Derived.ChangeSame
import Derived.ChangeMaps5
import Derived.JoinedOf
import Derived.JoinedAt
import Derived.RowKit3
set_option linter.unusedVariables false
set_option linter.unusedSimpArgs false
section
set_option linter.unusedVariables false
set_option linter.unusedSimpArgs false
set_option maxRecDepth 100000
set_option maxHeartbeats 1000000
namespace Go.AE
variable {E : Env}
attribute [local irreducible] boxK lastK wordsP prod B keysP

def reLoop0 : ACode := (.block 0 (.loop (.seq (.seq (.region [(AOper.mk (some 16) (.mov (.tmp 7)) none), (AOper.mk (some 17) (.ibin .lss (.tmp 16) (.const (.int .i64 16))) none)]) (.cond (.tmp 17) .skip (.exit 0))) (.seq (.block 1 (.draw (ADraw.mk [(AOper.mk (some 20) (.mov (.tmp 7)) none), (AOper.mk (some 21) (.mov (.tmp 7)) none), (AOper.mk (some 22) (.indexArr 16 1 (.tmp 5) (.tmp 21)) none), (AOper.mk (some 23) (.load1 (.tmp 22)) none), (AOper.mk (some 24) (.mov (.tmp 7)) none), (AOper.mk (some 25) (.ibin .quo (.tmp 24) (.const (.int .i64 4))) none), (AOper.mk (some 26) (.mov (.tmp 7)) none), (AOper.mk (some 27) (.ibin .rem (.tmp 26) (.const (.int .i64 4))) none), (AOper.mk (some 28) (.indexArr 60 4 (.tmp 3) (.tmp 25)) none), (AOper.mk (some 29) (.indexArr 4 1 (.tmp 28) (.tmp 27)) none), (AOper.mk (some 30) (.load1 (.tmp 29)) none), (AOper.mk (some 31) (.ibin .xor (.tmp 23) (.tmp 30)) none), (AOper.mk (some 32) (.indexArr 16 1 (.tmp 5) (.tmp 20)) none), (AOper.mk none (.store 1 (.tmp 32) (.tmp 31)) none)] [0, 1, 2, 3, 4, 5, 6, 7, 8, 9, 10, 11, 12, 13] [0, 0, 2, 6, 0, 16, 0, 64, 48, 496, 1008, 2046, 4095, 8191] [(0, 0), (0, 0), (0, 0), (0, 0), (0, 0), (0, 0), (0, 0), (0, 0), (0, 0), (0, 0), (0, 0), (0, 0), (0, 0), (0, 1)] false))) (.region [(AOper.mk (some 18) (.mov (.tmp 7)) none), (AOper.mk (some 19) (.ibin .add (.tmp 18) (.const (.int .i64 1))) none), (AOper.mk (some 7) (.mov (.tmp 19)) none)])))))
def reLoop4 : ACode := (.block 4 (.loop (.seq (.seq (.region [(AOper.mk (some 37) (.mov (.tmp 10)) none), (AOper.mk (some 38) (.ibin .lss (.tmp 37) (.const (.int .i64 4))) none)]) (.cond (.tmp 38) .skip (.exit 4))) (.seq (.block 5 (.seq (.region [(AOper.mk (some 11) (.mov (.const (.int .i64 0))) none)]) (.block 6 (.loop (.seq (.seq (.region [(AOper.mk (some 41) (.mov (.tmp 11)) none), (AOper.mk (some 42) (.ibin .lss (.tmp 41) (.const (.int .i64 4))) none)]) (.cond (.tmp 42) .skip (.exit 6))) (.seq (.block 7 (.region [(AOper.mk (some 45) (.mov (.tmp 10)) none), (AOper.mk (some 46) (.ibin .mul (.const (.int .i64 4)) (.tmp 45)) none), (AOper.mk (some 47) (.mov (.tmp 11)) none), (AOper.mk (some 48) (.ibin .add (.tmp 46) (.tmp 47)) none), (AOper.mk (some 49) (.mov (.tmp 10)) none), (AOper.mk (some 50) (.mov (.tmp 11)) none), (AOper.mk (some 51) (.ibin .add (.tmp 49) (.tmp 50)) none), (AOper.mk (some 52) (.ibin .rem (.tmp 51) (.const (.int .i64 4))) none), (AOper.mk (some 53) (.ibin .mul (.const (.int .i64 4)) (.tmp 52)) none), (AOper.mk (some 54) (.mov (.tmp 11)) none), (AOper.mk (some 55) (.ibin .add (.tmp 53) (.tmp 54)) none), (AOper.mk (some 56) (.indexArr 16 1 (.tmp 5) (.tmp 55)) none), (AOper.mk (some 57) (.load1 (.tmp 56)) none), (AOper.mk (some 58) (.indexArr 256 1 (.tmp 4) (.tmp 57)) none), (AOper.mk (some 59) (.load1 (.tmp 58)) none), (AOper.mk (some 60) (.indexArr 16 1 (.tmp 9) (.tmp 48)) none), (AOper.mk none (.store 1 (.tmp 60) (.tmp 59)) none)])) (.region [(AOper.mk (some 43) (.mov (.tmp 11)) none), (AOper.mk (some 44) (.ibin .add (.tmp 43) (.const (.int .i64 1))) none), (AOper.mk (some 11) (.mov (.tmp 44)) none)]))))))) (.region [(AOper.mk (some 39) (.mov (.tmp 10)) none), (AOper.mk (some 40) (.ibin .add (.tmp 39) (.const (.int .i64 1))) none), (AOper.mk (some 10) (.mov (.tmp 40)) none)])))))
def reLoop6 : ACode := (.block 6 (.loop (.seq (.seq (.region [(AOper.mk (some 41) (.mov (.tmp 11)) none), (AOper.mk (some 42) (.ibin .lss (.tmp 41) (.const (.int .i64 4))) none)]) (.cond (.tmp 42) .skip (.exit 6))) (.seq (.block 7 (.region [(AOper.mk (some 45) (.mov (.tmp 10)) none), (AOper.mk (some 46) (.ibin .mul (.const (.int .i64 4)) (.tmp 45)) none), (AOper.mk (some 47) (.mov (.tmp 11)) none), (AOper.mk (some 48) (.ibin .add (.tmp 46) (.tmp 47)) none), (AOper.mk (some 49) (.mov (.tmp 10)) none), (AOper.mk (some 50) (.mov (.tmp 11)) none), (AOper.mk (some 51) (.ibin .add (.tmp 49) (.tmp 50)) none), (AOper.mk (some 52) (.ibin .rem (.tmp 51) (.const (.int .i64 4))) none), (AOper.mk (some 53) (.ibin .mul (.const (.int .i64 4)) (.tmp 52)) none), (AOper.mk (some 54) (.mov (.tmp 11)) none), (AOper.mk (some 55) (.ibin .add (.tmp 53) (.tmp 54)) none), (AOper.mk (some 56) (.indexArr 16 1 (.tmp 5) (.tmp 55)) none), (AOper.mk (some 57) (.load1 (.tmp 56)) none), (AOper.mk (some 58) (.indexArr 256 1 (.tmp 4) (.tmp 57)) none), (AOper.mk (some 59) (.load1 (.tmp 58)) none), (AOper.mk (some 60) (.indexArr 16 1 (.tmp 9) (.tmp 48)) none), (AOper.mk none (.store 1 (.tmp 60) (.tmp 59)) none)])) (.region [(AOper.mk (some 43) (.mov (.tmp 11)) none), (AOper.mk (some 44) (.ibin .add (.tmp 43) (.const (.int .i64 1))) none), (AOper.mk (some 11) (.mov (.tmp 44)) none)])))))
def reLoop12 : ACode := (.block 12 (.loop (.seq (.seq (.region [(AOper.mk (some 119) (.mov (.tmp 15)) none), (AOper.mk (some 120) (.ibin .lss (.tmp 119) (.const (.int .i64 16))) none)]) (.cond (.tmp 120) .skip (.exit 12))) (.seq (.block 13 (.draw (ADraw.mk [(AOper.mk (some 123) (.mov (.tmp 15)) none), (AOper.mk (some 124) (.mov (.tmp 15)) none), (AOper.mk (some 125) (.indexArr 16 1 (.tmp 9) (.tmp 124)) none), (AOper.mk (some 126) (.load1 (.tmp 125)) none), (AOper.mk (some 127) (.mov (.tmp 8)) none), (AOper.mk (some 128) (.ibin .mul (.const (.int .i64 4)) (.tmp 127)) none), (AOper.mk (some 129) (.mov (.tmp 15)) none), (AOper.mk (some 130) (.ibin .quo (.tmp 129) (.const (.int .i64 4))) none), (AOper.mk (some 131) (.ibin .add (.tmp 128) (.tmp 130)) none), (AOper.mk (some 132) (.mov (.tmp 15)) none), (AOper.mk (some 133) (.ibin .rem (.tmp 132) (.const (.int .i64 4))) none), (AOper.mk (some 134) (.indexArr 60 4 (.tmp 3) (.tmp 131)) none), (AOper.mk (some 135) (.indexArr 4 1 (.tmp 134) (.tmp 133)) none), (AOper.mk (some 136) (.load1 (.tmp 135)) none), (AOper.mk (some 137) (.ibin .xor (.tmp 126) (.tmp 136)) none), (AOper.mk (some 138) (.indexArr 16 1 (.tmp 5) (.tmp 123)) none), (AOper.mk none (.store 1 (.tmp 138) (.tmp 137)) none)] [0, 1, 2, 3, 4, 5, 6, 7, 8, 9, 10, 11, 12, 13, 14, 15, 16] [0, 0, 2, 6, 0, 16, 0, 64, 240, 0, 512, 496, 4080, 8176, 16382, 32767, 65535] [(0, 0), (0, 0), (0, 0), (0, 0), (0, 0), (0, 0), (0, 0), (0, 0), (0, 0), (0, 0), (0, 0), (0, 0), (0, 0), (0, 0), (0, 0), (0, 0), (0, 1)] false))) (.region [(AOper.mk (some 121) (.mov (.tmp 15)) none), (AOper.mk (some 122) (.ibin .add (.tmp 121) (.const (.int .i64 1))) none), (AOper.mk (some 15) (.mov (.tmp 122)) none)])))))

theorem re_l0 {a : Frm} {H : Heap} {s c : Nat} {S C : List UInt8} {e e' : TypeId} (h3 : a.get 3 = some (.ptr (some (c, 0)))) (h5 : a.get 5 = some (.ptr (some (s, 0)))) (h7 : a.get 7 = some (nn 0)) (hS : S.length = 16) (hC : C.length = 240) (hsc : s ≠ c)
    (hs : H.t.get s = some (.cells (bs S) e false false)) (hc : H.t.get c = some (.cells (bs C) e' false false)) {Q : AExit → Frm → Heap → Prop}
    (hQ : ∀ a' H', a'.get 3 = a.get 3 → a'.get 4 = a.get 4 → a'.get 5 = a.get 5 → a'.get 6 = a.get 6 → H.next ≤ H'.next → (∀ j, H'.t.get j = if s = j then some (.cells (bs (addK S C 0 16)) e false false) else H.t.get j) → Q .normal a' H') : W E reLoop0 a H Q := by
  refine W.block ?_
  refine W.count 16 (fun i a' H' => H.next ≤ H'.next ∧ (∀ j, H'.t.get j = if s = j then some (.cells (bs (addK S C 0 i)) e false false) else H.t.get j) ∧ a'.get 3 = a.get 3 ∧ a'.get 4 = a.get 4 ∧ a'.get 5 = a.get 5 ∧ a'.get 6 = a.get 6 ∧ a'.get 7 = some (nn i)) ?_ ?_ 0 _ H (by omega) ?_
  · intro i a1 H1 hi ⟨hn, hb, g3, g4, g5, g6, g7⟩
    refine W.seq (W.seq (W.region ?_))
    simp only [w_mov, w_ibin, w_load1, w_loadN, w_nilCheck, w_indexArr, w_indexSl, w_indexVal, w_indexStr, w_lenStr, w_lenSl, w_store, w_alloc, w_box, w_build, w_sliceArr, w_bytesToStr, w_pick, WOps_nil, thenQ_normal, eX_t, eX_c, put_s, put_n, getset, Nat.reduceEqDiff, if_false, if_true, Option.getD_some, rd, natOf_nn, natOf_by, Option.some.injEq, exists_eq_left', Prod.mk.injEq, and_assoc, exists_and_left, true_and, Nat.zero_add, Nat.add_zero, Nat.mul_one, ble_t, mul_nn, quo_nn, rem_nn, add_nn, sub_nn, lss_nn, eql_nn, neq_nn, xor_by, k0, k1, k2, k3, k4, k5, k6, k7, k8, k12, k13, k14, k15, k16, k32, k60, k254, k256, g7]
    refine W.cond (b := true) (by simp only [eX_t, eX_c, put_s, put_n, getset, Nat.reduceEqDiff, if_false, if_true, Option.getD_some]; simp [hi]) (W.skip ?_)
    rw [thenQ_normal]
    refine W.seq (W.block ?_)
    refine re_d0 (S := addK S C 0 i) (C := C) (i := i) (s := s) (c := c) (e := e) (e' := e') (by simp only [eX_t, eX_c, put_s, put_n, getset, Nat.reduceEqDiff, if_false, if_true, Option.getD_some]; exact g3.trans h3) (by simp only [eX_t, eX_c, put_s, put_n, getset, Nat.reduceEqDiff, if_false, if_true, Option.getD_some]; exact g5.trans h5) (by simp only [eX_t, eX_c, put_s, put_n, getset, Nat.reduceEqDiff, if_false, if_true, Option.getD_some]; exact g7) hi (by rw [length_addK]; exact hS) hC (by rw [hb, if_pos rfl]) (by rw [hb, if_neg hsc]; exact hc) ?_
    intro a' f3 f4 f5 f6 f7
    simp only [getset, Nat.reduceEqDiff, if_false] at f3 f4 f5 f6 f7
    simp only [blockQ_normal, thenQ_normal]
    refine W.region ?_
    rw [g7] at f7
    simp (disch := omega) only [w_mov, w_ibin, w_load1, w_loadN, w_nilCheck, w_indexArr, w_indexSl, w_indexVal, w_indexStr, w_lenStr, w_lenSl, w_store, w_alloc, w_box, w_build, w_sliceArr, w_bytesToStr, w_pick, WOps_nil, thenQ_normal, eX_t, eX_c, put_s, put_n, getset, Nat.reduceEqDiff, if_false, if_true, Option.getD_some, rd, natOf_nn, natOf_by, Option.some.injEq, exists_eq_left', Prod.mk.injEq, and_assoc, exists_and_left, true_and, Nat.zero_add, Nat.add_zero, Nat.mul_one, ble_t, mul_nn, quo_nn, rem_nn, add_nn, sub_nn, lss_nn, eql_nn, neq_nn, xor_by, k0, k1, k2, k3, k4, k5, k6, k7, k8, k12, k13, k14, k15, k16, k32, k60, k254, k256, f7]
    refine ⟨by omega, ?_, f3.trans g3, f4.trans g4, f5.trans g5, f6.trans g6, trivial⟩
    intro j
    by_cases h : s = j
    · rw [if_pos h, if_pos h, addK]
    · rw [if_neg h, if_neg h, hb j, if_neg h]
  · intro a1 H1 ⟨hn, hb, g3, g4, g5, g6, g7⟩
    refine W.seq (W.seq (W.region ?_))
    simp only [w_mov, w_ibin, w_load1, w_loadN, w_nilCheck, w_indexArr, w_indexSl, w_indexVal, w_indexStr, w_lenStr, w_lenSl, w_store, w_alloc, w_box, w_build, w_sliceArr, w_bytesToStr, w_pick, WOps_nil, thenQ_normal, eX_t, eX_c, put_s, put_n, getset, Nat.reduceEqDiff, if_false, if_true, Option.getD_some, rd, natOf_nn, natOf_by, Option.some.injEq, exists_eq_left', Prod.mk.injEq, and_assoc, exists_and_left, true_and, Nat.zero_add, Nat.add_zero, Nat.mul_one, ble_t, mul_nn, quo_nn, rem_nn, add_nn, sub_nn, lss_nn, eql_nn, neq_nn, xor_by, k0, k1, k2, k3, k4, k5, k6, k7, k8, k12, k13, k14, k15, k16, k32, k60, k254, k256, g7]
    refine W.cond (b := false) (by simp only [eX_t, eX_c, put_s, put_n, getset, Nat.reduceEqDiff, if_false, if_true, Option.getD_some]; simp) (W.exit ?_)
    rw [thenQ_exit]
    refine ⟨nofun, ?_⟩
    simp only [blockQ_exit, Nat.beq_refl, cond_true]
    refine hQ _ _ ?_ ?_ ?_ ?_ hn hb <;> simp only [getset, Nat.reduceEqDiff, if_false] <;> assumption
  · refine ⟨Nat.le_refl _, ?_, rfl, rfl, rfl, rfl, h7⟩
    intro j
    by_cases h : s = j
    · subst h; rw [if_pos rfl, addK]; exact hs
    · rw [if_neg h]

/-- rows turned, through the box: one column -/
theorem re_l6 {a : Frm} {H : Heap} {bx s t c : Nat} {S : List UInt8} {e e' e2 : TypeId} (h4 : a.get 4 = some (.ptr (some (bx, 0)))) (h5 : a.get 5 = some (.ptr (some (s, 0)))) (h9 : a.get 9 = some (.ptr (some (t, 0)))) (h10 : a.get 10 = some (nn c)) (h11 : a.get 11 = some (nn 0)) (hcc : c < 4)
    (hS : S.length = 16) (hts : t ≠ s) (htb : t ≠ bx)
    (hs : H.t.get s = some (.cells (bs S) e false false)) (ht : H.t.get t = some (.cells (bs (subK S (4 * c))) e' false false)) (hb : H.t.get bx = some (.cells (bs boxL) e2 false false)) {Q : AExit → Frm → Heap → Prop}
    (hQ : ∀ a' H', a'.get 3 = a.get 3 → a'.get 4 = a.get 4 → a'.get 5 = a.get 5 → a'.get 6 = a.get 6 → a'.get 8 = a.get 8 → a'.get 9 = a.get 9 → a'.get 10 = a.get 10 → H.next ≤ H'.next → (∀ j, H'.t.get j = if t = j then some (.cells (bs (subK S (4 * (c + 1)))) e' false false) else H.t.get j) → Q .normal a' H') : W E reLoop6 a H Q := by
  refine W.block ?_
  refine W.count 4 (fun r a' H' => H.next ≤ H'.next ∧ (∀ j, H'.t.get j = if t = j then some (.cells (bs (subK S (4 * c + r))) e' false false) else H.t.get j) ∧ a'.get 3 = a.get 3 ∧ a'.get 4 = a.get 4 ∧ a'.get 5 = a.get 5 ∧ a'.get 6 = a.get 6 ∧ a'.get 8 = a.get 8 ∧ a'.get 9 = a.get 9 ∧ a'.get 10 = a.get 10 ∧ a'.get 11 = some (nn r)) ?_ ?_ 0 _ H (by omega) ?_
  · intro r a1 H1 hr ⟨hn, hb1, g3, g4, g5, g6, g8, g9, g10, g11⟩
    rw [h4] at g4
    rw [h5] at g5
    rw [h9] at g9
    rw [h10] at g10
    obtain ⟨T1, n1⟩ := H1
    simp only at hn hb1
    have hs1 : T1.get s = some (.cells (bs S) e false false) := by rw [hb1, if_neg hts]; exact hs
    have hx1 : T1.get bx = some (.cells (bs boxL) e2 false false) := by rw [hb1, if_neg htb]; exact hb
    have ht1 : T1.get t = some (.cells (bs (subK S (4 * c + r))) e' false false) := by rw [hb1, if_pos rfl]
    have e1 := getbs (S := S) (i := 4 * ((c + r) % 4) + r) (by omega)
    have ei : (4 * c + r + 4 * ((4 * c + r) % 4)) % 16 = 4 * ((c + r) % 4) + r := by omega
    refine W.seq (W.seq (W.region ?_))
    simp only [w_mov, w_ibin, w_load1, w_loadN, w_nilCheck, w_indexArr, w_indexSl, w_indexVal, w_indexStr, w_lenStr, w_lenSl, w_store, w_alloc, w_box, w_build, w_sliceArr, w_bytesToStr, w_pick, WOps_nil, thenQ_normal, eX_t, eX_c, put_s, put_n, getset, Nat.reduceEqDiff, if_false, if_true, Option.getD_some, rd, natOf_nn, natOf_by, Option.some.injEq, exists_eq_left', Prod.mk.injEq, and_assoc, exists_and_left, true_and, Nat.zero_add, Nat.add_zero, Nat.mul_one, ble_t, mul_nn, quo_nn, rem_nn, add_nn, sub_nn, lss_nn, eql_nn, neq_nn, xor_by, k0, k1, k2, k3, k4, k5, k6, k7, k8, k12, k13, k14, k15, k16, k32, k60, k254, k256, g11]
    refine W.cond (b := true) (by simp only [eX_t, eX_c, put_s, put_n, getset, Nat.reduceEqDiff, if_false, if_true, Option.getD_some]; simp [hr]) (W.skip ?_)
    rw [thenQ_normal]
    refine W.seq (W.block (W.region ?_))
    simp (disch := omega) only [w_mov, w_ibin, w_indexArr, w_load1, eX_t, eX_c, put_s, put_n, getset, Nat.reduceEqDiff, if_false, if_true, Option.getD_some, rd, natOf_nn, natOf_by, Option.some.injEq, exists_eq_left', Prod.mk.injEq, and_assoc, exists_and_left, true_and, Nat.zero_add, Nat.add_zero, Nat.mul_one, ble_t, mul_nn, quo_nn, rem_nn, add_nn, sub_nn, lss_nn, eql_nn, neq_nn, xor_by, k0, k1, k2, k3, k4, k5, k6, k7, k8, k12, k13, k14, k15, k16, k32, k60, k254, k256, g4, g5, g9, g10, g11, load_blk' hs1, load_blk' hx1, e1, ble_t (UInt8.toNat_lt (S.getD (4 * ((c + r) % 4) + r) 0)), getB]
    have hw := wst_by (nx := n1) (o := 4 * c + r) ht1 (by rw [length_subK]; omega) (B (S.getD (4 * ((c + r) % 4) + r) 0))
    have e3 : (subK S (4 * c + r)).set (4 * c + r) (B (S.getD (4 * ((c + r) % 4) + r) 0)) = subK S (4 * c + (r + 1)) := by rw [← Nat.add_assoc, subK, ei, B]
    rw [e3] at hw
    simp only [w_store, eX_t, eX_c, put_s, put_n, getset, Nat.reduceEqDiff, if_false, if_true, Option.getD_some, hw, Option.some.injEq, Prod.mk.injEq, exists_eq_left', and_assoc, exists_and_left, WOps_nil, blockQ_normal, thenQ_normal]
    refine W.region ?_
    simp (disch := omega) only [w_mov, w_ibin, w_load1, w_loadN, w_nilCheck, w_indexArr, w_indexSl, w_indexVal, w_indexStr, w_lenStr, w_lenSl, w_store, w_alloc, w_box, w_build, w_sliceArr, w_bytesToStr, w_pick, WOps_nil, thenQ_normal, eX_t, eX_c, put_s, put_n, getset, Nat.reduceEqDiff, if_false, if_true, Option.getD_some, rd, natOf_nn, natOf_by, Option.some.injEq, exists_eq_left', Prod.mk.injEq, and_assoc, exists_and_left, true_and, Nat.zero_add, Nat.add_zero, Nat.mul_one, ble_t, mul_nn, quo_nn, rem_nn, add_nn, sub_nn, lss_nn, eql_nn, neq_nn, xor_by, k0, k1, k2, k3, k4, k5, k6, k7, k8, k12, k13, k14, k15, k16, k32, k60, k254, k256, g11]
    refine ⟨by omega, ?_, g3, by rw [g4, h4], by rw [g5, h5], g6, g8, by rw [g9, h9], by rw [g10, h10], trivial⟩
    intro j
    by_cases h : t = j
    · rw [if_pos h, if_pos h]
    · rw [if_neg h, if_neg h, hb1 j, if_neg h]
  · intro a1 H1 ⟨hn, hb1, g3, g4, g5, g6, g8, g9, g10, g11⟩
    refine W.seq (W.seq (W.region ?_))
    simp only [w_mov, w_ibin, w_load1, w_loadN, w_nilCheck, w_indexArr, w_indexSl, w_indexVal, w_indexStr, w_lenStr, w_lenSl, w_store, w_alloc, w_box, w_build, w_sliceArr, w_bytesToStr, w_pick, WOps_nil, thenQ_normal, eX_t, eX_c, put_s, put_n, getset, Nat.reduceEqDiff, if_false, if_true, Option.getD_some, rd, natOf_nn, natOf_by, Option.some.injEq, exists_eq_left', Prod.mk.injEq, and_assoc, exists_and_left, true_and, Nat.zero_add, Nat.add_zero, Nat.mul_one, ble_t, mul_nn, quo_nn, rem_nn, add_nn, sub_nn, lss_nn, eql_nn, neq_nn, xor_by, k0, k1, k2, k3, k4, k5, k6, k7, k8, k12, k13, k14, k15, k16, k32, k60, k254, k256, g11]
    refine W.cond (b := false) (by simp only [eX_t, eX_c, put_s, put_n, getset, Nat.reduceEqDiff, if_false, if_true, Option.getD_some]; simp) (W.exit ?_)
    rw [thenQ_exit]
    refine ⟨nofun, ?_⟩
    simp only [blockQ_exit, Nat.beq_refl, cond_true]
    refine hQ _ _ ?_ ?_ ?_ ?_ ?_ ?_ ?_ hn (by rw [show 4 * (c + 1) = 4 * c + 4 by omega]; exact hb1) <;> simp only [getset, Nat.reduceEqDiff, if_false] <;> assumption
  · refine ⟨Nat.le_refl _, ?_, rfl, rfl, rfl, rfl, rfl, rfl, rfl, h11⟩
    intro j
    by_cases h : t = j
    · subst h; rw [if_pos rfl]; exact ht
    · rw [if_neg h]

theorem re_l4 {a : Frm} {H : Heap} {bx s t : Nat} {S : List UInt8} {e e' e2 : TypeId} (h4 : a.get 4 = some (.ptr (some (bx, 0)))) (h5 : a.get 5 = some (.ptr (some (s, 0)))) (h9 : a.get 9 = some (.ptr (some (t, 0)))) (h10 : a.get 10 = some (nn 0))
    (hS : S.length = 16) (hts : t ≠ s) (htb : t ≠ bx)
    (hs : H.t.get s = some (.cells (bs S) e false false)) (ht : H.t.get t = some (.cells (bs (subK S 0)) e' false false)) (hb : H.t.get bx = some (.cells (bs boxL) e2 false false)) {Q : AExit → Frm → Heap → Prop}
    (hQ : ∀ a' H', a'.get 3 = a.get 3 → a'.get 4 = a.get 4 → a'.get 5 = a.get 5 → a'.get 6 = a.get 6 → a'.get 8 = a.get 8 → a'.get 9 = a.get 9 → H.next ≤ H'.next → (∀ j, H'.t.get j = if t = j then some (.cells (bs (subK S 16)) e' false false) else H.t.get j) → Q .normal a' H') : W E reLoop4 a H Q := by
  refine W.block ?_
  refine W.count 4 (fun c a' H' => H.next ≤ H'.next ∧ (∀ j, H'.t.get j = if t = j then some (.cells (bs (subK S (4 * c))) e' false false) else H.t.get j) ∧ a'.get 3 = a.get 3 ∧ a'.get 4 = a.get 4 ∧ a'.get 5 = a.get 5 ∧ a'.get 6 = a.get 6 ∧ a'.get 8 = a.get 8 ∧ a'.get 9 = a.get 9 ∧ a'.get 10 = some (nn c)) ?_ ?_ 0 _ H (by omega) ?_
  · intro c a1 H1 hc ⟨hn, hb1, g3, g4, g5, g6, g8, g9, g10⟩
    refine W.seq (W.seq (W.region ?_))
    simp only [w_mov, w_ibin, w_load1, w_loadN, w_nilCheck, w_indexArr, w_indexSl, w_indexVal, w_indexStr, w_lenStr, w_lenSl, w_store, w_alloc, w_box, w_build, w_sliceArr, w_bytesToStr, w_pick, WOps_nil, thenQ_normal, eX_t, eX_c, put_s, put_n, getset, Nat.reduceEqDiff, if_false, if_true, Option.getD_some, rd, natOf_nn, natOf_by, Option.some.injEq, exists_eq_left', Prod.mk.injEq, and_assoc, exists_and_left, true_and, Nat.zero_add, Nat.add_zero, Nat.mul_one, ble_t, mul_nn, quo_nn, rem_nn, add_nn, sub_nn, lss_nn, eql_nn, neq_nn, xor_by, k0, k1, k2, k3, k4, k5, k6, k7, k8, k12, k13, k14, k15, k16, k32, k60, k254, k256, g10]
    refine W.cond (b := true) (by simp only [eX_t, eX_c, put_s, put_n, getset, Nat.reduceEqDiff, if_false, if_true, Option.getD_some]; simp [hc]) (W.skip ?_)
    rw [thenQ_normal]
    refine W.seq (W.block (W.seq (W.region ?_)))
    simp only [w_mov, w_ibin, w_load1, w_loadN, w_nilCheck, w_indexArr, w_indexSl, w_indexVal, w_indexStr, w_lenStr, w_lenSl, w_store, w_alloc, w_box, w_build, w_sliceArr, w_bytesToStr, w_pick, WOps_nil, thenQ_normal, eX_t, eX_c, put_s, put_n, getset, Nat.reduceEqDiff, if_false, if_true, Option.getD_some, rd, natOf_nn, natOf_by, Option.some.injEq, exists_eq_left', Prod.mk.injEq, and_assoc, exists_and_left, true_and, Nat.zero_add, Nat.add_zero, Nat.mul_one, ble_t, mul_nn, quo_nn, rem_nn, add_nn, sub_nn, lss_nn, eql_nn, neq_nn, xor_by, k0, k1, k2, k3, k4, k5, k6, k7, k8, k12, k13, k14, k15, k16, k32, k60, k254, k256]
    refine re_l6 (S := S) (c := c) (s := s) (t := t) (bx := bx) (e := e) (e' := e') (e2 := e2) (by simp only [eX_t, eX_c, put_s, put_n, getset, Nat.reduceEqDiff, if_false, if_true, Option.getD_some]; exact g4.trans h4) (by simp only [eX_t, eX_c, put_s, put_n, getset, Nat.reduceEqDiff, if_false, if_true, Option.getD_some]; exact g5.trans h5) (by simp only [eX_t, eX_c, put_s, put_n, getset, Nat.reduceEqDiff, if_false, if_true, Option.getD_some]; exact g9.trans h9) (by simp only [eX_t, eX_c, put_s, put_n, getset, Nat.reduceEqDiff, if_false, if_true, Option.getD_some]; exact g10) (by simp only [eX_t, eX_c, put_s, put_n, getset, Nat.reduceEqDiff, if_false, if_true, Option.getD_some]) hc hS hts htb (by rw [hb1, if_neg hts]; exact hs) (by rw [hb1, if_pos rfl]) (by rw [hb1, if_neg htb]; exact hb) ?_
    intro a' H' f3 f4 f5 f6 f8 f9 f10 fn fb
    simp only [getset, Nat.reduceEqDiff, if_false] at f3 f4 f5 f6 f8 f9 f10
    simp only [blockQ_normal, thenQ_normal]
    rw [g10] at f10
    refine W.region ?_
    simp (disch := omega) only [w_mov, w_ibin, w_load1, w_loadN, w_nilCheck, w_indexArr, w_indexSl, w_indexVal, w_indexStr, w_lenStr, w_lenSl, w_store, w_alloc, w_box, w_build, w_sliceArr, w_bytesToStr, w_pick, WOps_nil, thenQ_normal, eX_t, eX_c, put_s, put_n, getset, Nat.reduceEqDiff, if_false, if_true, Option.getD_some, rd, natOf_nn, natOf_by, Option.some.injEq, exists_eq_left', Prod.mk.injEq, and_assoc, exists_and_left, true_and, Nat.zero_add, Nat.add_zero, Nat.mul_one, ble_t, mul_nn, quo_nn, rem_nn, add_nn, sub_nn, lss_nn, eql_nn, neq_nn, xor_by, k0, k1, k2, k3, k4, k5, k6, k7, k8, k12, k13, k14, k15, k16, k32, k60, k254, k256, f10]
    refine ⟨by omega, ?_, f3.trans g3, f4.trans g4, f5.trans g5, f6.trans g6, f8.trans g8, f9.trans g9, trivial⟩
    intro j
    rw [fb]
    by_cases h : t = j
    · rw [if_pos h, if_pos h]
    · rw [if_neg h, if_neg h, hb1, if_neg h]
  · intro a1 H1 ⟨hn, hb1, g3, g4, g5, g6, g8, g9, g10⟩
    refine W.seq (W.seq (W.region ?_))
    simp only [w_mov, w_ibin, w_load1, w_loadN, w_nilCheck, w_indexArr, w_indexSl, w_indexVal, w_indexStr, w_lenStr, w_lenSl, w_store, w_alloc, w_box, w_build, w_sliceArr, w_bytesToStr, w_pick, WOps_nil, thenQ_normal, eX_t, eX_c, put_s, put_n, getset, Nat.reduceEqDiff, if_false, if_true, Option.getD_some, rd, natOf_nn, natOf_by, Option.some.injEq, exists_eq_left', Prod.mk.injEq, and_assoc, exists_and_left, true_and, Nat.zero_add, Nat.add_zero, Nat.mul_one, ble_t, mul_nn, quo_nn, rem_nn, add_nn, sub_nn, lss_nn, eql_nn, neq_nn, xor_by, k0, k1, k2, k3, k4, k5, k6, k7, k8, k12, k13, k14, k15, k16, k32, k60, k254, k256, g10]
    refine W.cond (b := false) (by simp only [eX_t, eX_c, put_s, put_n, getset, Nat.reduceEqDiff, if_false, if_true, Option.getD_some]; simp) (W.exit ?_)
    rw [thenQ_exit]
    refine ⟨nofun, ?_⟩
    simp only [blockQ_exit, Nat.beq_refl, cond_true]
    refine hQ _ _ ?_ ?_ ?_ ?_ ?_ ?_ hn hb1 <;> simp only [getset, Nat.reduceEqDiff, if_false] <;> assumption
  · refine ⟨Nat.le_refl _, ?_, rfl, rfl, rfl, rfl, rfl, rfl, h10⟩
    intro j
    by_cases h : t = j
    · subst h; rw [if_pos rfl]; exact ht
    · rw [if_neg h]
end Go.AE
end
-- Contracts of the reference of aes: columns mixed.
section
set_option linter.unusedVariables false
set_option linter.unusedSimpArgs false
set_option maxRecDepth 100000
set_option maxHeartbeats 1000000
namespace Go.AE
variable {E : Env}
attribute [local irreducible] boxK lastK wordsP prod B keysP subK tw

/-- what stands at a place of a mixed column -/
def mx (X : List UInt8) (r : Nat) : UInt8 := tw (X.getD r 0) ^^^ (tw (X.getD ((r + 1) % 4) 0) ^^^ X.getD ((r + 1) % 4) 0) ^^^ X.getD ((r + 2) % 4) 0 ^^^ X.getD ((r + 3) % 4) 0

/-- a column mixed, as the reference does it -/
def rmK (T X : List UInt8) (o : Nat) : Nat → List UInt8
  | 0 => T
  | r + 1 => (rmK T X o r).set (o + r) (mx X r)
theorem length_rmK (T X : List UInt8) (o : Nat) : ∀ r, (rmK T X o r).length = T.length
  | 0 => rfl
  | r + 1 => by rw [rmK, List.length_set, length_rmK T X o r]

def reLoop10 : ACode := (.block 10 (.loop (.seq (.seq (.region [(AOper.mk (some 87) (.mov (.tmp 14)) none), (AOper.mk (some 88) (.ibin .lss (.tmp 87) (.const (.int .i64 4))) none)]) (.cond (.tmp 88) .skip (.exit 10))) (.seq (.block 11 (.draw (ADraw.mk [(AOper.mk (some 91) (.mov (.tmp 12)) none), (AOper.mk (some 92) (.ibin .mul (.const (.int .i64 4)) (.tmp 91)) none), (AOper.mk (some 93) (.mov (.tmp 14)) none), (AOper.mk (some 94) (.ibin .add (.tmp 92) (.tmp 93)) none), (AOper.mk (some 95) (.mov (.tmp 14)) none), (AOper.mk (some 96) (.indexArr 4 1 (.tmp 13) (.tmp 95)) none), (AOper.mk (some 97) (.load1 (.tmp 96)) none), (AOper.mk (some 98) (.call (.const (.func (.func 28) [] [])) [(.tmp 97), (.const (.int .u8 2))]) none), (AOper.mk (some 99) (.mov (.tmp 14)) none), (AOper.mk (some 100) (.ibin .add (.tmp 99) (.const (.int .i64 1))) none), (AOper.mk (some 101) (.ibin .rem (.tmp 100) (.const (.int .i64 4))) none), (AOper.mk (some 102) (.indexArr 4 1 (.tmp 13) (.tmp 101)) none), (AOper.mk (some 103) (.load1 (.tmp 102)) none), (AOper.mk (some 104) (.call (.const (.func (.func 28) [] [])) [(.tmp 103), (.const (.int .u8 3))]) none), (AOper.mk (some 105) (.ibin .xor (.tmp 98) (.tmp 104)) none), (AOper.mk (some 106) (.mov (.tmp 14)) none), (AOper.mk (some 107) (.ibin .add (.tmp 106) (.const (.int .i64 2))) none), (AOper.mk (some 108) (.ibin .rem (.tmp 107) (.const (.int .i64 4))) none), (AOper.mk (some 109) (.indexArr 4 1 (.tmp 13) (.tmp 108)) none), (AOper.mk (some 110) (.load1 (.tmp 109)) none), (AOper.mk (some 111) (.ibin .xor (.tmp 105) (.tmp 110)) none), (AOper.mk (some 112) (.mov (.tmp 14)) none), (AOper.mk (some 113) (.ibin .add (.tmp 112) (.const (.int .i64 3))) none), (AOper.mk (some 114) (.ibin .rem (.tmp 113) (.const (.int .i64 4))) none), (AOper.mk (some 115) (.indexArr 4 1 (.tmp 13) (.tmp 114)) none), (AOper.mk (some 116) (.load1 (.tmp 115)) none), (AOper.mk (some 117) (.ibin .xor (.tmp 111) (.tmp 116)) none), (AOper.mk (some 118) (.indexArr 16 1 (.tmp 9) (.tmp 94)) none), (AOper.mk none (.store 1 (.tmp 118) (.tmp 117)) none)] [0, 1, 2, 3, 4, 5, 6, 8, 9, 10, 11, 12, 15, 16, 17, 18, 19, 21, 22, 23, 24, 25, 7, 13, 14, 20, 26, 27, 28] [0, 1, 0, 7, 0, 16, 48, 112, 0, 256, 768, 1792, 3840, 8176, 16368, 0, 32768, 98304, 229376, 491520, 1048560, 0, 2097152, 6291456, 14680064, 31457280, 67108848, 134217727, 268435455] [(0, 2), (0, 2), (0, 2), (0, 2), (0, 0), (0, 0), (0, 0), (0, 1), (0, 1), (0, 1), (0, 1), (0, 1), (0, 1), (1, 2), (2, 2), (0, 2), (0, 2), (0, 2), (0, 2), (0, 2), (2, 2), (0, 2), (0, 2), (0, 2), (0, 2), (0, 2), (2, 2), (2, 2), (2, 3)] false))) (.region [(AOper.mk (some 89) (.mov (.tmp 14)) none), (AOper.mk (some 90) (.ibin .add (.tmp 89) (.const (.int .i64 1))) none), (AOper.mk (some 14) (.mov (.tmp 90)) none)])))))
def reLoop8 : ACode := (.block 8 (.loop (.seq (.seq (.region [(AOper.mk (some 63) (.mov (.tmp 12)) none), (AOper.mk (some 64) (.ibin .lss (.tmp 63) (.const (.int .i64 4))) none)]) (.cond (.tmp 64) .skip (.exit 8))) (.seq (.block 9 (.seq (.draw (ADraw.mk [(AOper.mk (some 67) (.mov (.tmp 12)) none), (AOper.mk (some 68) (.ibin .mul (.const (.int .i64 4)) (.tmp 67)) none), (AOper.mk (some 69) (.indexArr 16 1 (.tmp 9) (.tmp 68)) none), (AOper.mk (some 70) (.load1 (.tmp 69)) none), (AOper.mk (some 71) (.mov (.tmp 12)) none), (AOper.mk (some 72) (.ibin .mul (.const (.int .i64 4)) (.tmp 71)) none), (AOper.mk (some 73) (.ibin .add (.tmp 72) (.const (.int .i64 1))) none), (AOper.mk (some 74) (.indexArr 16 1 (.tmp 9) (.tmp 73)) none), (AOper.mk (some 75) (.load1 (.tmp 74)) none), (AOper.mk (some 76) (.mov (.tmp 12)) none), (AOper.mk (some 77) (.ibin .mul (.const (.int .i64 4)) (.tmp 76)) none), (AOper.mk (some 78) (.ibin .add (.tmp 77) (.const (.int .i64 2))) none), (AOper.mk (some 79) (.indexArr 16 1 (.tmp 9) (.tmp 78)) none), (AOper.mk (some 80) (.load1 (.tmp 79)) none), (AOper.mk (some 81) (.mov (.tmp 12)) none), (AOper.mk (some 82) (.ibin .mul (.const (.int .i64 4)) (.tmp 81)) none), (AOper.mk (some 83) (.ibin .add (.tmp 82) (.const (.int .i64 3))) none), (AOper.mk (some 84) (.indexArr 16 1 (.tmp 9) (.tmp 83)) none), (AOper.mk (some 85) (.load1 (.tmp 84)) none), (AOper.mk (some 86) (.build [(.int .u8 0), (.int .u8 0), (.int .u8 0), (.int .u8 0)] [(0, (1, (.tmp 70))), (1, (1, (.tmp 75))), (2, (1, (.tmp 80))), (3, (1, (.tmp 85)))]) none), (AOper.mk (some 13) (.alloc 45 [(.int .u8 0), (.int .u8 0), (.int .u8 0), (.int .u8 0)]) none), (AOper.mk none (.store 4 (.tmp 13) (.tmp 86)) none)] [0, 1, 2, 3, 4, 5, 6, 7, 8, 9, 10, 11, 12, 13, 14, 15, 16, 17, 18, 19, 20, 21] [0, 1, 3, 7, 0, 16, 48, 112, 240, 0, 512, 1536, 3584, 7680, 0, 16384, 49152, 114688, 245760, 524287, 0, 2097151] [(0, 0), (0, 0), (0, 0), (0, 0), (0, 0), (0, 0), (0, 0), (0, 0), (0, 0), (0, 0), (0, 0), (0, 0), (0, 0), (0, 0), (0, 0), (0, 0), (0, 0), (0, 0), (0, 0), (0, 0), (0, 0), (0, 1)] false)) (.seq (.region [(AOper.mk (some 14) (.mov (.const (.int .i64 0))) none)]) (.block 10 (.loop (.seq (.seq (.region [(AOper.mk (some 87) (.mov (.tmp 14)) none), (AOper.mk (some 88) (.ibin .lss (.tmp 87) (.const (.int .i64 4))) none)]) (.cond (.tmp 88) .skip (.exit 10))) (.seq (.block 11 (.draw (ADraw.mk [(AOper.mk (some 91) (.mov (.tmp 12)) none), (AOper.mk (some 92) (.ibin .mul (.const (.int .i64 4)) (.tmp 91)) none), (AOper.mk (some 93) (.mov (.tmp 14)) none), (AOper.mk (some 94) (.ibin .add (.tmp 92) (.tmp 93)) none), (AOper.mk (some 95) (.mov (.tmp 14)) none), (AOper.mk (some 96) (.indexArr 4 1 (.tmp 13) (.tmp 95)) none), (AOper.mk (some 97) (.load1 (.tmp 96)) none), (AOper.mk (some 98) (.call (.const (.func (.func 28) [] [])) [(.tmp 97), (.const (.int .u8 2))]) none), (AOper.mk (some 99) (.mov (.tmp 14)) none), (AOper.mk (some 100) (.ibin .add (.tmp 99) (.const (.int .i64 1))) none), (AOper.mk (some 101) (.ibin .rem (.tmp 100) (.const (.int .i64 4))) none), (AOper.mk (some 102) (.indexArr 4 1 (.tmp 13) (.tmp 101)) none), (AOper.mk (some 103) (.load1 (.tmp 102)) none), (AOper.mk (some 104) (.call (.const (.func (.func 28) [] [])) [(.tmp 103), (.const (.int .u8 3))]) none), (AOper.mk (some 105) (.ibin .xor (.tmp 98) (.tmp 104)) none), (AOper.mk (some 106) (.mov (.tmp 14)) none), (AOper.mk (some 107) (.ibin .add (.tmp 106) (.const (.int .i64 2))) none), (AOper.mk (some 108) (.ibin .rem (.tmp 107) (.const (.int .i64 4))) none), (AOper.mk (some 109) (.indexArr 4 1 (.tmp 13) (.tmp 108)) none), (AOper.mk (some 110) (.load1 (.tmp 109)) none), (AOper.mk (some 111) (.ibin .xor (.tmp 105) (.tmp 110)) none), (AOper.mk (some 112) (.mov (.tmp 14)) none), (AOper.mk (some 113) (.ibin .add (.tmp 112) (.const (.int .i64 3))) none), (AOper.mk (some 114) (.ibin .rem (.tmp 113) (.const (.int .i64 4))) none), (AOper.mk (some 115) (.indexArr 4 1 (.tmp 13) (.tmp 114)) none), (AOper.mk (some 116) (.load1 (.tmp 115)) none), (AOper.mk (some 117) (.ibin .xor (.tmp 111) (.tmp 116)) none), (AOper.mk (some 118) (.indexArr 16 1 (.tmp 9) (.tmp 94)) none), (AOper.mk none (.store 1 (.tmp 118) (.tmp 117)) none)] [0, 1, 2, 3, 4, 5, 6, 8, 9, 10, 11, 12, 15, 16, 17, 18, 19, 21, 22, 23, 24, 25, 7, 13, 14, 20, 26, 27, 28] [0, 1, 0, 7, 0, 16, 48, 112, 0, 256, 768, 1792, 3840, 8176, 16368, 0, 32768, 98304, 229376, 491520, 1048560, 0, 2097152, 6291456, 14680064, 31457280, 67108848, 134217727, 268435455] [(0, 2), (0, 2), (0, 2), (0, 2), (0, 0), (0, 0), (0, 0), (0, 1), (0, 1), (0, 1), (0, 1), (0, 1), (0, 1), (1, 2), (2, 2), (0, 2), (0, 2), (0, 2), (0, 2), (0, 2), (2, 2), (0, 2), (0, 2), (0, 2), (0, 2), (0, 2), (2, 2), (2, 2), (2, 3)] false))) (.region [(AOper.mk (some 89) (.mov (.tmp 14)) none), (AOper.mk (some 90) (.ibin .add (.tmp 89) (.const (.int .i64 1))) none), (AOper.mk (some 14) (.mov (.tmp 90)) none)])))))))) (.region [(AOper.mk (some 65) (.mov (.tmp 12)) none), (AOper.mk (some 66) (.ibin .add (.tmp 65) (.const (.int .i64 1))) none), (AOper.mk (some 12) (.mov (.tmp 66)) none)])))))

theorem re_d1 {a : Frm} {H : Heap} {t c : Nat} {T : List UInt8} {e : TypeId} (h9 : a.get 9 = some (.ptr (some (t, 0)))) (h12 : a.get 12 = some (nn c)) (hc : c < 4) (hT : T.length = 16) (htn : t < H.next)
    (ht : H.t.get t = some (.cells (bs T) e false false)) {Q : AExit → Frm → Heap → Prop}
    (hQ : ∀ a' H', a'.get 3 = a.get 3 → a'.get 4 = a.get 4 → a'.get 5 = a.get 5 → a'.get 6 = a.get 6 → a'.get 8 = a.get 8 → a'.get 9 = a.get 9 → a'.get 12 = a.get 12 → a'.get 13 = some (.ptr (some (H.next + 20, 0))) → H'.next = H.next + 22 →
      H'.t.get (H.next + 20) = some (.cells (bs [T.getD (4 * c) 0, T.getD (4 * c + 1) 0, T.getD (4 * c + 2) 0, T.getD (4 * c + 3) 0]) 45 false false) → (∀ j, j < H.next → H'.t.get j = H.t.get j) → Q .normal a' H') : W E (.draw reDraw1) a H Q := by
  refine W_draw (l := _) rfl (N := 22) rfl ?_
  have e0 := getbs (S := T) (i := 4 * c) (by omega)
  have e1 := getbs (S := T) (i := 4 * c + 1) (by omega)
  have e2 := getbs (S := T) (i := 4 * c + 2) (by omega)
  have e3 := getbs (S := T) (i := 4 * c + 3) (by omega)
  simp (disch := omega) only [reDraw1, l_mov, l_ibin, l_load1, l_indexArr, eX_t, eX_c, put_s, put_n, getset, Nat.reduceEqDiff, if_false, if_true, Option.getD_some, rd, natOf_nn, natOf_by, Option.some.injEq, exists_eq_left', Prod.mk.injEq, and_assoc, exists_and_left, true_and, Nat.zero_add, Nat.add_zero, Nat.mul_one, ble_t, mul_nn, quo_nn, rem_nn, add_nn, sub_nn, lss_nn, eql_nn, neq_nn, xor_by, k0, k1, k2, k3, k4, k5, k6, k7, k8, k12, k13, k14, k15, k16, k32, k60, k254, k256, h9, h12, load_blk' ht, e0, e1, e2, e3]
  rw [l_build]
  refine ⟨_, build4 (p := T.getD (4 * c) 0) (q := T.getD (4 * c + 1) 0) (r := T.getD (4 * c + 2) 0) (s := T.getD (4 * c + 3) 0) (by simp only [eX_t, eX_c, put_s, put_n, getset, Nat.reduceEqDiff, if_false, if_true, Option.getD_some]) (by simp only [eX_t, eX_c, put_s, put_n, getset, Nat.reduceEqDiff, if_false, if_true, Option.getD_some]) (by simp only [eX_t, eX_c, put_s, put_n, getset, Nat.reduceEqDiff, if_false, if_true, Option.getD_some]) (by simp only [eX_t, eX_c, put_s, put_n, getset, Nat.reduceEqDiff, if_false, if_true, Option.getD_some]), ?_⟩
  rw [zero4]
  refine WL_al rfl (x := .cells (bs (List.replicate 4 0)) 45 false false) (f := fun i => .ptr (some (i, 0))) rfl ?_
  have hz : (H.t.set (H.next + 20) (.cells (bs (List.replicate 4 0)) 45 false false)).get (H.next + 20) = some (.cells (bs (List.replicate 4 0)) 45 false false) := by rw [getset, if_pos rfl]
  have hfr : ∀ j, j < H.next → (H.t.set (H.next + 20) (.cells (bs (List.replicate 4 0)) 45 false false)).get j = H.t.get j := fun j hj => by rw [getset, if_neg (by omega)]
  simp only [put_s]
  generalize H.t.set (H.next + 20) (.cells (bs (List.replicate 4 0)) 45 false false) = T0 at hz hfr ⊢
  have ht0 : T0.get t = some (.cells (bs T) e false false) := by rw [hfr t htn]; exact ht
  simp only [l_store, wr0_store, eX_t, eX_c, put_s, put_n, getset, Nat.reduceEqDiff, if_false, if_true, Option.getD_some, wst_agg hz List.length_replicate (show [T.getD (4 * c) 0, T.getD (4 * c + 1) 0, T.getD (4 * c + 2) 0, T.getD (4 * c + 3) 0].length = 4 from rfl), Option.some.injEq, Prod.mk.injEq, exists_eq_left', and_assoc, exists_and_left, WL_nil]
  refine ⟨?_, _, _, rfl, ?_⟩
  · simp only [stable_cons, stable_nil, sm_mov, sm_ibin, sm_nilCheck, sm_indexArr, sm_indexSl, sm_indexVal, sm_indexStr, sm_lenStr, sm_lenSl, sm_build, sm_store, sm_call, Bool.true_and, Bool.and_true, Bool.and_eq_true, List.reverse_cons, List.reverse_nil, List.nil_append, List.cons_append, List.drop_zero, List.drop_succ_cons, Nat.sub_zero, Nat.succ_eq_add_one, Nat.zero_add, Nat.reduceAdd, Nat.reduceSub, List.take_succ_cons, List.take_zero, List.take_nil]
    refine ⟨sm_load1 rfl (b := t) (o := 4 * c) (v := by' (T.getD (4 * c) 0)) ?_ ?_ ?_ (AVbeq_by _), sm_load1 rfl (b := t) (o := 4 * c + 1) (v := by' (T.getD (4 * c + 1) 0)) ?_ ?_ ?_ (AVbeq_by _), sm_load1 rfl (b := t) (o := 4 * c + 2) (v := by' (T.getD (4 * c + 2) 0)) ?_ ?_ ?_ (AVbeq_by _), sm_load1 rfl (b := t) (o := 4 * c + 3) (v := by' (T.getD (4 * c + 3) 0)) ?_ ?_ ?_ (AVbeq_by _), ?_⟩
    rotate_right
    · refine sm_al rfl rfl (x := .cells (bs (List.replicate 4 0)) 45 false false) (f := fun i => .ptr (some (i, 0))) rfl ?_
      intro H' hH'
      simp only [List.mem_cons, List.not_mem_nil, or_false] at hH'
      subst hH'
      exact blkIs_bs hz
    all_goals first
      | simp only [eX_t, eX_c, put_s, put_n, getset, Nat.reduceEqDiff, if_false, if_true, Option.getD_some]; done
      | (intro H' hH'; simp only [List.mem_singleton] at hH'; subst hH'; simp only [load_blk' ht0, e0, e1, e2, e3])
  · refine hQ _ _ ?_ ?_ ?_ ?_ ?_ ?_ ?_ ?_ rfl (by rw [getset, if_pos rfl]) (fun j hj => by rw [getset, if_neg (by omega), hfr _ hj]) <;> simp only [getset, Nat.reduceEqDiff, if_false, if_true]

theorem re_d2 (hE : ∀ f, E.funcs f = Aes.funcsT.get f) (hx : ∀ f args H, special f = false → E.sums f args H = none) {a : Frm} {H : Heap} {t x c r : Nat} {T X : List UInt8} {e e' : TypeId} (h9 : a.get 9 = some (.ptr (some (t, 0)))) (h12 : a.get 12 = some (nn c)) (h13 : a.get 13 = some (.ptr (some (x, 0)))) (h14 : a.get 14 = some (nn r)) (hc : c < 4) (hr : r < 4) (hT : T.length = 16) (hX : X.length = 4)
    (ht : H.t.get t = some (.cells (bs T) e false false)) (hxb : H.t.get x = some (.cells (bs X) e' false false)) {Q : AExit → Frm → Heap → Prop}
    (hQ : ∀ a', a'.get 3 = a.get 3 → a'.get 4 = a.get 4 → a'.get 5 = a.get 5 → a'.get 6 = a.get 6 → a'.get 8 = a.get 8 → a'.get 9 = a.get 9 → a'.get 12 = a.get 12 → a'.get 13 = a.get 13 → a'.get 14 = a.get 14 → 
      Q .normal a' ⟨H.t.set t (.cells (bs (T.set (4 * c + r) (mx X r))) e false false), H.next + 29⟩) : W E (.draw reDraw2) a H Q := by
  refine W_draw (l := _) rfl (N := 29) rfl ?_
  have e0 := getbs (S := X) (i := r) (by omega)
  have e1 := getbs (S := X) (i := (r + 1) % 4) (by omega)
  have e2 := getbs (S := X) (i := (r + 2) % 4) (by omega)
  have e3 := getbs (S := X) (i := (r + 3) % 4) (by omega)
  simp (disch := omega) only [reDraw2, l_mov, l_ibin, l_load1, l_indexArr, eX_t, eX_c, put_s, put_n, getset, Nat.reduceEqDiff, if_false, if_true, Option.getD_some, rd, natOf_nn, natOf_by, Option.some.injEq, exists_eq_left', Prod.mk.injEq, and_assoc, exists_and_left, true_and, Nat.zero_add, Nat.add_zero, Nat.mul_one, ble_t, mul_nn, quo_nn, rem_nn, add_nn, sub_nn, lss_nn, eql_nn, neq_nn, xor_by, k0, k1, k2, k3, k4, k5, k6, k7, k8, k12, k13, k14, k15, k16, k32, k60, k254, k256, h9, h12, h13, h14, load_blk' ht, load_blk' hxb, e0, e1, e2, e3, b2, b3]
  refine WL_call rfl ?_
  simp only [List.map_cons, List.map_nil, List.nil_append, List.append_nil, eX_t, eX_c, put_s, put_n, getset, Nat.reduceEqDiff, if_false, if_true, Option.getD_some]
  refine product_ok hE hx ?_
  refine WL_call rfl ?_
  simp only [List.map_cons, List.map_nil, List.nil_append, List.append_nil, eX_t, eX_c, put_s, put_n, getset, Nat.reduceEqDiff, if_false, if_true, Option.getD_some]
  refine product_ok hE hx ?_
  simp (disch := omega) only [l_mov, l_ibin, l_load1, l_indexArr, eX_t, eX_c, put_s, put_n, getset, Nat.reduceEqDiff, if_false, if_true, Option.getD_some, rd, natOf_nn, natOf_by, Option.some.injEq, exists_eq_left', Prod.mk.injEq, and_assoc, exists_and_left, true_and, Nat.zero_add, Nat.add_zero, Nat.mul_one, ble_t, mul_nn, quo_nn, rem_nn, add_nn, sub_nn, lss_nn, eql_nn, neq_nn, xor_by, k0, k1, k2, k3, k4, k5, k6, k7, k8, k12, k13, k14, k15, k16, k32, k60, k254, k256, h9, h12, h13, h14, load_blk' ht, load_blk' hxb, e0, e1, e2, e3, b2, b3, prod2, prod3]
  simp (disch := omega) only [l_store, wr0_store, eX_t, eX_c, put_s, put_n, getset, Nat.reduceEqDiff, if_false, if_true, Option.getD_some, wst_by ht, Option.some.injEq, Prod.mk.injEq, exists_eq_left', and_assoc, exists_and_left, WL_nil]
  refine ⟨?_, _, _, rfl, ?_⟩
  · simp only [stable_cons, stable_nil, sm_mov, sm_ibin, sm_nilCheck, sm_indexArr, sm_indexSl, sm_indexVal, sm_indexStr, sm_lenStr, sm_lenSl, sm_build, sm_store, sm_call, Bool.true_and, Bool.and_true, Bool.and_eq_true, List.reverse_cons, List.reverse_nil, List.nil_append, List.cons_append, List.drop_zero, List.drop_succ_cons, Nat.sub_zero, Nat.succ_eq_add_one, Nat.zero_add, Nat.reduceAdd, Nat.reduceSub, List.take_succ_cons, List.take_zero, List.take_nil]
    refine ⟨sm_load1 rfl (b := x) (o := r) (v := by' (X.getD r 0)) ?_ ?_ ?_ (AVbeq_by _), sm_load1 rfl (b := x) (o := (r + 1) % 4) (v := by' (X.getD ((r + 1) % 4) 0)) ?_ ?_ ?_ (AVbeq_by _), sm_load1 rfl (b := x) (o := (r + 2) % 4) (v := by' (X.getD ((r + 2) % 4) 0)) ?_ ?_ ?_ (AVbeq_by _), sm_load1 rfl (b := x) (o := (r + 3) % 4) (v := by' (X.getD ((r + 3) % 4) 0)) ?_ ?_ ?_ (AVbeq_by _)⟩
    all_goals first
      | simp only [eX_t, eX_c, put_s, put_n, getset, Nat.reduceEqDiff, if_false, if_true, Option.getD_some]; done
      | (intro H' hH'; simp only [List.mem_cons, List.not_mem_nil, or_false, or_self] at hH'; subst hH'; simp only [load_blk' hxb, e0, e1, e2, e3])
  · refine hQ _ ?_ ?_ ?_ ?_ ?_ ?_ ?_ ?_ ?_ <;> simp only [getset, Nat.reduceEqDiff, if_false]
end Go.AE
end
-- Contracts of the reference of aes: columns mixed as the program mixes them.
section
set_option linter.unusedVariables false
set_option linter.unusedSimpArgs false
set_option maxRecDepth 100000
set_option maxHeartbeats 1000000
namespace Go.AE
variable {E : Env}

theorem twx_all : (List.range 256).all (fun a => (List.range 8).all (fun k => Nat.beq (twN (Nat.xor a (Nat.pow 2 k))) (Nat.xor (twN a) (twN (Nat.pow 2 k))))) = true := by kernel_rfl

theorem tw_def (b : UInt8) : tw b = (b <<< 1) ^^^ (bif decide (b >>> 7 = 1) then 27 else 0) := by
  unfold tw
  cases decide (b >>> 7 = 1)
  · simp
  · rfl

/-- two bytes, each a number, bit by bit -/
theorem tw_xor (a b : UInt8) : tw (a ^^^ b) = tw a ^^^ tw b := by
  apply UInt8.toNat_inj.1
  rw [UInt8.toNat_xor, tw_nat, tw_nat, tw_nat, UInt8.toNat_xor]
  have key : ∀ x y : Nat, x < 256 → y < 256 → twN (x ^^^ y) = twN x ^^^ twN y := by
    intro x y hx hy
    have e : ∀ z, twN z = (2 * z) ^^^ (z / 128 * 283) := fun _ => rfl
    rw [e, e, e]
    have h2 : 2 * (x ^^^ y) = 2 * x ^^^ 2 * y := by
      have := Nat.shiftLeft_xor_distrib (a := x) (b := y) (i := 1)
      simpa [Nat.shiftLeft_eq, Nat.mul_comm] using this
    have h7 : (x ^^^ y) / 128 = x / 128 ^^^ y / 128 := by
      have := Nat.shiftRight_xor_distrib (a := x) (b := y) (i := 7)
      simpa [Nat.shiftRight_eq_div_pow] using this
    rw [h2, h7]
    have hx1 : x / 128 = 0 ∨ x / 128 = 1 := by omega
    have hy1 : y / 128 = 0 ∨ y / 128 = 1 := by omega
    rcases hx1 with h | h <;> rcases hy1 with h' | h' <;> rw [h, h']
    · simp
    · simp [Nat.xor_assoc]
    · simp only [Nat.xor_zero, Nat.one_mul, Nat.zero_mul]
      rw [Nat.xor_assoc, Nat.xor_assoc, Nat.xor_comm (2 * y)]
    · simp only [Nat.xor_self, Nat.zero_mul, Nat.xor_zero, Nat.one_mul]
      rw [Nat.xor_assoc (2 * x) 283, ← Nat.xor_assoc 283, Nat.xor_comm 283, Nat.xor_assoc (2 * y), Nat.xor_self, Nat.xor_zero]
  exact key _ _ a.toNat_lt b.toNat_lt

theorem mix_eq (a b c d t : UInt8) (h : t = a ^^^ b ^^^ c ^^^ d) : a ^^^ (t ^^^ tw (a ^^^ b)) = tw a ^^^ (tw b ^^^ b) ^^^ c ^^^ d := by
  subst h
  rw [tw_xor]
  generalize tw a = p
  generalize tw b = q
  have e : a ^^^ (a ^^^ b ^^^ c ^^^ d ^^^ (p ^^^ q)) = (a ^^^ a) ^^^ (p ^^^ (q ^^^ b) ^^^ c ^^^ d) := by ac_rfl
  rw [e, UInt8.xor_self, UInt8.zero_xor]

theorem getD_set_ne {l : List UInt8} {i j : Nat} {v : UInt8} (h : i ≠ j) : (l.set i v).getD j 0 = l.getD j 0 := by
  simp only [List.getD, List.getElem?_set_ne h]
theorem getD_set_eq {l : List UInt8} {i : Nat} {v : UInt8} (h : i < l.length) : (l.set i v).getD i 0 = v := by
  simp only [List.getD, List.getElem?_set_self h, Option.getD_some]

theorem mixP_eq {T : List UInt8} {o : Nat} (ho : o + 4 ≤ T.length) : mixP T o = rmK T [T.getD o 0, T.getD (o + 1) 0, T.getD (o + 2) 0, T.getD (o + 3) 0] o 4 := by
  generalize hx0 : T.getD o 0 = x0
  generalize hx1 : T.getD (o + 1) 0 = x1
  generalize hx2 : T.getD (o + 2) 0 = x2
  generalize hx3 : T.getD (o + 3) 0 = x3
  have a0 : x0 ^^^ (x0 ^^^ x1 ^^^ x2 ^^^ x3 ^^^ tw (x0 ^^^ x1)) = mx [x0, x1, x2, x3] 0 := mix_eq x0 x1 x2 x3 _ rfl
  have a1 : x1 ^^^ (x0 ^^^ x1 ^^^ x2 ^^^ x3 ^^^ tw (x1 ^^^ x2)) = mx [x0, x1, x2, x3] 1 := mix_eq x1 x2 x3 x0 _ (by ac_rfl)
  have a2 : x2 ^^^ (x0 ^^^ x1 ^^^ x2 ^^^ x3 ^^^ tw (x2 ^^^ x3)) = mx [x0, x1, x2, x3] 2 := mix_eq x2 x3 x0 x1 _ (by ac_rfl)
  have a3 : x3 ^^^ (x0 ^^^ x1 ^^^ x2 ^^^ x3 ^^^ tw (x3 ^^^ x0)) = mx [x0, x1, x2, x3] 3 := mix_eq x3 x0 x1 x2 _ (by ac_rfl)
  simp (disch := omega) only [mixP, mixK, rmK, Nat.add_zero, hx0, hx1, hx2, hx3, Nat.add_assoc, Nat.reduceAdd, getD_set_ne, a0, a1, a2, a3]
end Go.AE
end
-- Contracts of the reference of aes: the loops of mix, of a round's key.
section
set_option linter.unusedVariables false
set_option linter.unusedSimpArgs false
set_option maxRecDepth 100000
set_option maxHeartbeats 1000000
namespace Go.AE
variable {E : Env}
attribute [local irreducible] boxK lastK wordsP prod B keysP subK tw mx rmK mixP

theorem rmK0 (T X : List UInt8) (o : Nat) : rmK T X o 0 = T := by rw [rmK]

theorem re_l10 (hE : ∀ f, E.funcs f = Aes.funcsT.get f) (hx : ∀ f args H, special f = false → E.sums f args H = none) {a : Frm} {H : Heap} {t x c : Nat} {T X : List UInt8} {e e' : TypeId} (h9 : a.get 9 = some (.ptr (some (t, 0)))) (h12 : a.get 12 = some (nn c)) (h13 : a.get 13 = some (.ptr (some (x, 0)))) (h14 : a.get 14 = some (nn 0)) (hc : c < 4) (hT : T.length = 16) (hX : X.length = 4) (htx : t ≠ x)
    (ht : H.t.get t = some (.cells (bs T) e false false)) (hxb : H.t.get x = some (.cells (bs X) e' false false)) {Q : AExit → Frm → Heap → Prop}
    (hQ : ∀ a' H', a'.get 3 = a.get 3 → a'.get 4 = a.get 4 → a'.get 5 = a.get 5 → a'.get 6 = a.get 6 → a'.get 8 = a.get 8 → a'.get 9 = a.get 9 → a'.get 12 = a.get 12 → H.next ≤ H'.next → (∀ j, H'.t.get j = if t = j then some (.cells (bs (rmK T X (4 * c) 4)) e false false) else H.t.get j) → Q .normal a' H') : W E reLoop10 a H Q := by
  refine W.block ?_
  refine W.count 4 (fun r a' H' => H.next ≤ H'.next ∧ (∀ j, H'.t.get j = if t = j then some (.cells (bs (rmK T X (4 * c) r)) e false false) else H.t.get j) ∧ a'.get 3 = a.get 3 ∧ a'.get 4 = a.get 4 ∧ a'.get 5 = a.get 5 ∧ a'.get 6 = a.get 6 ∧ a'.get 8 = a.get 8 ∧ a'.get 9 = a.get 9 ∧ a'.get 12 = a.get 12 ∧ a'.get 13 = a.get 13 ∧ a'.get 14 = some (nn r)) ?_ ?_ 0 _ H (by omega) ?_
  · intro r a1 H1 hr ⟨hn, hb, g3, g4, g5, g6, g8, g9, g12, g13, g14⟩
    refine W.seq (W.seq (W.region ?_))
    simp only [w_mov, w_ibin, w_load1, w_loadN, w_nilCheck, w_indexArr, w_indexSl, w_indexVal, w_indexStr, w_lenStr, w_lenSl, w_store, w_alloc, w_box, w_build, w_sliceArr, w_bytesToStr, w_pick, WOps_nil, thenQ_normal, eX_t, eX_c, put_s, put_n, getset, Nat.reduceEqDiff, if_false, if_true, Option.getD_some, rd, natOf_nn, natOf_by, Option.some.injEq, exists_eq_left', Prod.mk.injEq, and_assoc, exists_and_left, true_and, Nat.zero_add, Nat.add_zero, Nat.mul_one, ble_t, mul_nn, quo_nn, rem_nn, add_nn, sub_nn, lss_nn, eql_nn, neq_nn, xor_by, k0, k1, k2, k3, k4, k5, k6, k7, k8, k12, k13, k14, k15, k16, k32, k60, k254, k256, g14]
    refine W.cond (b := true) (by simp only [eX_t, eX_c, put_s, put_n, getset, Nat.reduceEqDiff, if_false, if_true, Option.getD_some]; simp [hr]) (W.skip ?_)
    rw [thenQ_normal]
    refine W.seq (W.block ?_)
    refine re_d2 hE hx (T := rmK T X (4 * c) r) (X := X) (c := c) (r := r) (t := t) (x := x) (e := e) (e' := e') (by simp only [eX_t, eX_c, put_s, put_n, getset, Nat.reduceEqDiff, if_false, if_true, Option.getD_some]; exact g9.trans h9) (by simp only [eX_t, eX_c, put_s, put_n, getset, Nat.reduceEqDiff, if_false, if_true, Option.getD_some]; exact g12.trans h12) (by simp only [eX_t, eX_c, put_s, put_n, getset, Nat.reduceEqDiff, if_false, if_true, Option.getD_some]; exact g13.trans h13) (by simp only [eX_t, eX_c, put_s, put_n, getset, Nat.reduceEqDiff, if_false, if_true, Option.getD_some]; exact g14) hc hr (by rw [length_rmK]; exact hT) hX (by rw [hb, if_pos rfl]) (by rw [hb, if_neg htx]; exact hxb) ?_
    intro a' f3 f4 f5 f6 f8 f9 f12 f13 f14
    simp only [getset, Nat.reduceEqDiff, if_false] at f3 f4 f5 f6 f8 f9 f12 f13 f14
    simp only [blockQ_normal, thenQ_normal]
    refine W.region ?_
    rw [g14] at f14
    simp (disch := omega) only [w_mov, w_ibin, w_load1, w_loadN, w_nilCheck, w_indexArr, w_indexSl, w_indexVal, w_indexStr, w_lenStr, w_lenSl, w_store, w_alloc, w_box, w_build, w_sliceArr, w_bytesToStr, w_pick, WOps_nil, thenQ_normal, eX_t, eX_c, put_s, put_n, getset, Nat.reduceEqDiff, if_false, if_true, Option.getD_some, rd, natOf_nn, natOf_by, Option.some.injEq, exists_eq_left', Prod.mk.injEq, and_assoc, exists_and_left, true_and, Nat.zero_add, Nat.add_zero, Nat.mul_one, ble_t, mul_nn, quo_nn, rem_nn, add_nn, sub_nn, lss_nn, eql_nn, neq_nn, xor_by, k0, k1, k2, k3, k4, k5, k6, k7, k8, k12, k13, k14, k15, k16, k32, k60, k254, k256, f14]
    refine ⟨by omega, ?_, f3.trans g3, f4.trans g4, f5.trans g5, f6.trans g6, f8.trans g8, f9.trans g9, f12.trans g12, f13.trans g13, trivial⟩
    intro j
    by_cases h : t = j
    · rw [if_pos h, if_pos h, rmK]
    · rw [if_neg h, if_neg h, hb j, if_neg h]
  · intro a1 H1 ⟨hn, hb, g3, g4, g5, g6, g8, g9, g12, g13, g14⟩
    refine W.seq (W.seq (W.region ?_))
    simp only [w_mov, w_ibin, w_load1, w_loadN, w_nilCheck, w_indexArr, w_indexSl, w_indexVal, w_indexStr, w_lenStr, w_lenSl, w_store, w_alloc, w_box, w_build, w_sliceArr, w_bytesToStr, w_pick, WOps_nil, thenQ_normal, eX_t, eX_c, put_s, put_n, getset, Nat.reduceEqDiff, if_false, if_true, Option.getD_some, rd, natOf_nn, natOf_by, Option.some.injEq, exists_eq_left', Prod.mk.injEq, and_assoc, exists_and_left, true_and, Nat.zero_add, Nat.add_zero, Nat.mul_one, ble_t, mul_nn, quo_nn, rem_nn, add_nn, sub_nn, lss_nn, eql_nn, neq_nn, xor_by, k0, k1, k2, k3, k4, k5, k6, k7, k8, k12, k13, k14, k15, k16, k32, k60, k254, k256, g14]
    refine W.cond (b := false) (by simp only [eX_t, eX_c, put_s, put_n, getset, Nat.reduceEqDiff, if_false, if_true, Option.getD_some]; simp) (W.exit ?_)
    rw [thenQ_exit]
    refine ⟨nofun, ?_⟩
    simp only [blockQ_exit, Nat.beq_refl, cond_true]
    refine hQ _ _ ?_ ?_ ?_ ?_ ?_ ?_ ?_ hn hb <;> simp only [getset, Nat.reduceEqDiff, if_false] <;> assumption
  · refine ⟨Nat.le_refl _, ?_, rfl, rfl, rfl, rfl, rfl, rfl, rfl, rfl, h14⟩
    intro j
    by_cases h : t = j
    · subst h; rw [if_pos rfl, rmK0]; exact ht
    · rw [if_neg h]

theorem re_l8 (hE : ∀ f, E.funcs f = Aes.funcsT.get f) (hx : ∀ f args H, special f = false → E.sums f args H = none) {a : Frm} {H : Heap} {t : Nat} {T : List UInt8} {e : TypeId} (h9 : a.get 9 = some (.ptr (some (t, 0)))) (h12 : a.get 12 = some (nn 0)) (hT : T.length = 16) (htn : t < H.next)
    (ht : H.t.get t = some (.cells (bs T) e false false)) {Q : AExit → Frm → Heap → Prop}
    (hQ : ∀ a' H', a'.get 3 = a.get 3 → a'.get 4 = a.get 4 → a'.get 5 = a.get 5 → a'.get 6 = a.get 6 → a'.get 8 = a.get 8 → a'.get 9 = a.get 9 → H.next ≤ H'.next → (∀ j, j < H.next → H'.t.get j = if t = j then some (.cells (bs (mixN T 4)) e false false) else H.t.get j) → Q .normal a' H') : W E reLoop8 a H Q := by
  refine W.block ?_
  refine W.count 4 (fun c a' H' => H.next ≤ H'.next ∧ (∀ j, j < H.next → H'.t.get j = if t = j then some (.cells (bs (mixN T c)) e false false) else H.t.get j) ∧ a'.get 3 = a.get 3 ∧ a'.get 4 = a.get 4 ∧ a'.get 5 = a.get 5 ∧ a'.get 6 = a.get 6 ∧ a'.get 8 = a.get 8 ∧ a'.get 9 = a.get 9 ∧ a'.get 12 = some (nn c)) ?_ ?_ 0 _ H (by omega) ?_
  · intro c a1 H1 hc ⟨hn, hb, g3, g4, g5, g6, g8, g9, g12⟩
    refine W.seq (W.seq (W.region ?_))
    simp only [w_mov, w_ibin, w_load1, w_loadN, w_nilCheck, w_indexArr, w_indexSl, w_indexVal, w_indexStr, w_lenStr, w_lenSl, w_store, w_alloc, w_box, w_build, w_sliceArr, w_bytesToStr, w_pick, WOps_nil, thenQ_normal, eX_t, eX_c, put_s, put_n, getset, Nat.reduceEqDiff, if_false, if_true, Option.getD_some, rd, natOf_nn, natOf_by, Option.some.injEq, exists_eq_left', Prod.mk.injEq, and_assoc, exists_and_left, true_and, Nat.zero_add, Nat.add_zero, Nat.mul_one, ble_t, mul_nn, quo_nn, rem_nn, add_nn, sub_nn, lss_nn, eql_nn, neq_nn, xor_by, k0, k1, k2, k3, k4, k5, k6, k7, k8, k12, k13, k14, k15, k16, k32, k60, k254, k256, g12]
    refine W.cond (b := true) (by simp only [eX_t, eX_c, put_s, put_n, getset, Nat.reduceEqDiff, if_false, if_true, Option.getD_some]; simp [hc]) (W.skip ?_)
    rw [thenQ_normal]
    have hl : (mixN T c).length = 16 := by rw [length_mixN]; exact hT
    refine W.seq (W.block (W.seq (re_d1 (T := mixN T c) (t := t) (c := c) (e := e) (by simp only [eX_t, eX_c, put_s, put_n, getset, Nat.reduceEqDiff, if_false, if_true, Option.getD_some]; exact g9.trans h9) (by simp only [eX_t, eX_c, put_s, put_n, getset, Nat.reduceEqDiff, if_false, if_true, Option.getD_some]; exact g12) hc hl (by omega) (by rw [hb _ htn, if_pos rfl]) ?_)))
    intro a2 H2 f3 f4 f5 f6 f8 f9 f12 f13 fn fx fb
    simp only [getset, Nat.reduceEqDiff, if_false] at f3 f4 f5 f6 f8 f9 f12
    rw [g12] at f12
    rw [thenQ_normal]
    refine W.seq (W.region ?_)
    simp only [w_mov, w_ibin, w_load1, w_loadN, w_nilCheck, w_indexArr, w_indexSl, w_indexVal, w_indexStr, w_lenStr, w_lenSl, w_store, w_alloc, w_box, w_build, w_sliceArr, w_bytesToStr, w_pick, WOps_nil, thenQ_normal, eX_t, eX_c, put_s, put_n, getset, Nat.reduceEqDiff, if_false, if_true, Option.getD_some, rd, natOf_nn, natOf_by, Option.some.injEq, exists_eq_left', Prod.mk.injEq, and_assoc, exists_and_left, true_and, Nat.zero_add, Nat.add_zero, Nat.mul_one, ble_t, mul_nn, quo_nn, rem_nn, add_nn, sub_nn, lss_nn, eql_nn, neq_nn, xor_by, k0, k1, k2, k3, k4, k5, k6, k7, k8, k12, k13, k14, k15, k16, k32, k60, k254, k256]
    refine re_l10 hE hx (T := mixN T c) (c := c) (t := t) (e := e) (e' := 45) (by simp only [eX_t, eX_c, put_s, put_n, getset, Nat.reduceEqDiff, if_false, if_true, Option.getD_some]; exact f9.trans (g9.trans h9)) (by simp only [eX_t, eX_c, put_s, put_n, getset, Nat.reduceEqDiff, if_false, if_true, Option.getD_some]; exact f12) (by simp only [eX_t, eX_c, put_s, put_n, getset, Nat.reduceEqDiff, if_false, if_true, Option.getD_some]; exact f13) (by simp only [eX_t, eX_c, put_s, put_n, getset, Nat.reduceEqDiff, if_false, if_true, Option.getD_some]) hc hl rfl (by omega) (by rw [fb _ (by omega), hb _ htn, if_pos rfl]) fx ?_
    intro a3 H3 q3 q4 q5 q6 q8 q9 q12 qn qb
    simp only [getset, Nat.reduceEqDiff, if_false] at q3 q4 q5 q6 q8 q9 q12
    rw [f12] at q12
    simp only [blockQ_normal, thenQ_normal]
    refine W.region ?_
    simp (disch := omega) only [w_mov, w_ibin, w_load1, w_loadN, w_nilCheck, w_indexArr, w_indexSl, w_indexVal, w_indexStr, w_lenStr, w_lenSl, w_store, w_alloc, w_box, w_build, w_sliceArr, w_bytesToStr, w_pick, WOps_nil, thenQ_normal, eX_t, eX_c, put_s, put_n, getset, Nat.reduceEqDiff, if_false, if_true, Option.getD_some, rd, natOf_nn, natOf_by, Option.some.injEq, exists_eq_left', Prod.mk.injEq, and_assoc, exists_and_left, true_and, Nat.zero_add, Nat.add_zero, Nat.mul_one, ble_t, mul_nn, quo_nn, rem_nn, add_nn, sub_nn, lss_nn, eql_nn, neq_nn, xor_by, k0, k1, k2, k3, k4, k5, k6, k7, k8, k12, k13, k14, k15, k16, k32, k60, k254, k256, q12]
    refine ⟨by omega, ?_, q3.trans (f3.trans g3), q4.trans (f4.trans g4), q5.trans (f5.trans g5), q6.trans (f6.trans g6), q8.trans (f8.trans g8), q9.trans (f9.trans g9), trivial⟩
    intro j hj
    rw [qb]
    by_cases h : t = j
    · rw [if_pos h, if_pos h, mixN, mixP_eq (by rw [hl]; omega)]
    · rw [if_neg h, if_neg h, fb _ (by omega), hb _ hj, if_neg h]
  · intro a1 H1 ⟨hn, hb, g3, g4, g5, g6, g8, g9, g12⟩
    refine W.seq (W.seq (W.region ?_))
    simp only [w_mov, w_ibin, w_load1, w_loadN, w_nilCheck, w_indexArr, w_indexSl, w_indexVal, w_indexStr, w_lenStr, w_lenSl, w_store, w_alloc, w_box, w_build, w_sliceArr, w_bytesToStr, w_pick, WOps_nil, thenQ_normal, eX_t, eX_c, put_s, put_n, getset, Nat.reduceEqDiff, if_false, if_true, Option.getD_some, rd, natOf_nn, natOf_by, Option.some.injEq, exists_eq_left', Prod.mk.injEq, and_assoc, exists_and_left, true_and, Nat.zero_add, Nat.add_zero, Nat.mul_one, ble_t, mul_nn, quo_nn, rem_nn, add_nn, sub_nn, lss_nn, eql_nn, neq_nn, xor_by, k0, k1, k2, k3, k4, k5, k6, k7, k8, k12, k13, k14, k15, k16, k32, k60, k254, k256, g12]
    refine W.cond (b := false) (by simp only [eX_t, eX_c, put_s, put_n, getset, Nat.reduceEqDiff, if_false, if_true, Option.getD_some]; simp) (W.exit ?_)
    rw [thenQ_exit]
    refine ⟨nofun, ?_⟩
    simp only [blockQ_exit, Nat.beq_refl, cond_true]
    refine hQ _ _ ?_ ?_ ?_ ?_ ?_ ?_ hn hb <;> simp only [getset, Nat.reduceEqDiff, if_false] <;> assumption
  · refine ⟨Nat.le_refl _, ?_, rfl, rfl, rfl, rfl, rfl, rfl, h12⟩
    intro j hj
    by_cases h : t = j
    · subst h; rw [if_pos rfl, mixN]; exact ht
    · rw [if_neg h]
end Go.AE
end
-- Contracts of the reference of aes: a round's key.
section
set_option linter.unusedVariables false
set_option linter.unusedSimpArgs false
set_option maxRecDepth 100000
set_option maxHeartbeats 1000000
namespace Go.AE
variable {E : Env}

/-- t and a round's key, laid into s -/
def finK (S T C : List UInt8) (r : Nat) : Nat → List UInt8
  | 0 => S
  | i + 1 => (finK S T C r i).set i (T.getD i 0 ^^^ C.getD (16 * r + i) 0)
theorem length_finK (S T C : List UInt8) (r : Nat) : ∀ i, (finK S T C r i).length = S.length
  | 0 => rfl
  | i + 1 => by rw [finK, List.length_set, length_finK S T C r i]

theorem finK_get {S T C : List UInt8} {r : Nat} (hS : S.length = 16) : ∀ (n i : Nat), n ≤ 16 → i < n → (finK S T C r n).getD i 0 = T.getD i 0 ^^^ C.getD (16 * r + i) 0
  | 0, i, _, h => absurd h (by omega)
  | n + 1, i, hn, h => by
    rw [finK]
    by_cases e : n = i
    · subst e; rw [getD_set_eq (by rw [length_finK, hS]; omega)]
    · rw [getD_set_ne e, finK_get hS n i (by omega) (by omega)]

theorem addK_get {S C : List UInt8} {r : Nat} (hS : S.length = 16) : ∀ (n i : Nat), n ≤ 16 → i < 16 → (addK S C r n).getD i 0 = if i < n then S.getD i 0 ^^^ C.getD (16 * r + i) 0 else S.getD i 0
  | 0, i, _, _ => by rw [addK, if_neg (by omega)]
  | n + 1, i, hn, hi => by
    rw [addK]
    by_cases e : n = i
    · subst e; rw [getD_set_eq (by rw [length_addK, hS]; omega), addK_get hS n n (by omega) (by omega), if_neg (by omega), if_pos (by omega)]
    · rw [getD_set_ne e, addK_get hS n i (by omega) hi]
      by_cases h : i < n
      · rw [if_pos h, if_pos (by omega)]
      · rw [if_neg h, if_neg (by omega)]

theorem finK_addK {S T C : List UInt8} {r : Nat} (hS : S.length = 16) (hT : T.length = 16) : finK S T C r 16 = addK T C r 16 :=
  list_ext (by rw [length_finK, length_addK, hS, hT]) fun i hi => by
    rw [length_finK, hS] at hi
    rw [finK_get hS 16 i (Nat.le_refl _) hi, addK_get hT 16 i (Nat.le_refl _) hi, if_pos hi]

theorem re_d3 {a : Frm} {H : Heap} {s t c i r : Nat} {S T C : List UInt8} {e e' e2 : TypeId} (h3 : a.get 3 = some (.ptr (some (c, 0)))) (h5 : a.get 5 = some (.ptr (some (s, 0)))) (h8 : a.get 8 = some (nn r)) (h9 : a.get 9 = some (.ptr (some (t, 0)))) (h15 : a.get 15 = some (nn i)) (hi : i < 16) (hr : r < 15) (hS : S.length = 16) (hT : T.length = 16) (hC : C.length = 240)
    (hs : H.t.get s = some (.cells (bs S) e false false)) (ht : H.t.get t = some (.cells (bs T) e2 false false)) (hc : H.t.get c = some (.cells (bs C) e' false false)) {Q : AExit → Frm → Heap → Prop}
    (hQ : ∀ a', a'.get 3 = a.get 3 → a'.get 4 = a.get 4 → a'.get 5 = a.get 5 → a'.get 6 = a.get 6 → a'.get 8 = a.get 8 → a'.get 9 = a.get 9 → a'.get 15 = a.get 15 → Q .normal a' ⟨H.t.set s (.cells (bs (S.set i (T.getD i 0 ^^^ C.getD (16 * r + i) 0))) e false false), H.next + 17⟩) : W E (.draw reDraw3) a H Q := by
  refine W_draw (l := _) rfl (N := 17) rfl ?_
  have e1 := getbs (S := T) (i := i) (by omega)
  have e2 : (bs C)[(4 * r + i / 4) * 4 + i % 4]? = some (by' (C.getD (16 * r + i) 0)) := by
    have : (4 * r + i / 4) * 4 + i % 4 = 16 * r + i := by omega
    rw [this]
    exact getbs (by omega)
  simp (disch := omega) only [reDraw3, l_mov, l_ibin, l_load1, l_loadN, l_nilCheck, l_indexArr, l_indexSl, l_indexVal, l_indexStr, l_lenStr, l_lenSl, l_store, l_build, WL_nil, eX_t, eX_c, put_s, put_n, getset, Nat.reduceEqDiff, if_false, if_true, Option.getD_some, rd, natOf_nn, natOf_by, Option.some.injEq, exists_eq_left', Prod.mk.injEq, and_assoc, exists_and_left, true_and, Nat.zero_add, Nat.add_zero, Nat.mul_one, ble_t, mul_nn, quo_nn, rem_nn, add_nn, sub_nn, lss_nn, eql_nn, neq_nn, xor_by, k0, k1, k2, k3, k4, k5, k6, k7, k8, k12, k13, k14, k15, k16, k32, k60, k254, k256, h3, h5, h8, h9, h15, load_blk' ht, load_blk' hc, e1, e2]
  simp (disch := omega) only [wr0_store, l_mov, l_ibin, l_load1, l_loadN, l_nilCheck, l_indexArr, l_indexSl, l_indexVal, l_indexStr, l_lenStr, l_lenSl, l_store, l_build, WL_nil, eX_t, eX_c, put_s, put_n, getset, Nat.reduceEqDiff, if_false, if_true, Option.getD_some, rd, natOf_nn, natOf_by, Option.some.injEq, exists_eq_left', Prod.mk.injEq, and_assoc, exists_and_left, true_and, Nat.zero_add, Nat.add_zero, Nat.mul_one, ble_t, mul_nn, quo_nn, rem_nn, add_nn, sub_nn, lss_nn, eql_nn, neq_nn, xor_by, wst_by hs]
  refine ⟨?_, _, _, rfl, ?_⟩
  · simp only [stable_cons, stable_nil, sm_mov, sm_ibin, sm_nilCheck, sm_indexArr, sm_indexSl, sm_indexVal, sm_indexStr, sm_lenStr, sm_lenSl, sm_build, sm_store, sm_call, Bool.true_and, Bool.and_true, Bool.and_eq_true, List.reverse_cons, List.reverse_nil, List.nil_append, List.cons_append, List.drop_zero, List.drop_succ_cons, Nat.sub_zero, Nat.succ_eq_add_one, Nat.zero_add, Nat.reduceAdd, Nat.reduceSub, List.take_succ_cons, List.take_zero, List.take_nil]
    refine ⟨sm_load1 rfl (b := t) (o := i) (v := by' (T.getD i 0)) ?_ ?_ ?_ (AVbeq_by _), sm_load1 rfl (b := c) (o := (4 * r + i / 4) * 4 + i % 4) (v := by' (C.getD (16 * r + i) 0)) ?_ ?_ ?_ (AVbeq_by _)⟩
    all_goals first
      | simp only [eX_t, eX_c, put_s, put_n, getset, Nat.reduceEqDiff, if_false, if_true, Option.getD_some]; done
      | (intro H' hH'; simp only [List.mem_singleton] at hH'; subst hH'; simp only [load_blk' ht, load_blk' hc, e1, e2])
  · refine hQ _ ?_ ?_ ?_ ?_ ?_ ?_ ?_ <;> simp only [getset, Nat.reduceEqDiff, if_false]

theorem re_l12 {a : Frm} {H : Heap} {s t c r : Nat} {S T C : List UInt8} {e e' e2 : TypeId} (h3 : a.get 3 = some (.ptr (some (c, 0)))) (h5 : a.get 5 = some (.ptr (some (s, 0)))) (h8 : a.get 8 = some (nn r)) (h9 : a.get 9 = some (.ptr (some (t, 0)))) (h15 : a.get 15 = some (nn 0)) (hr : r < 15) (hS : S.length = 16) (hT : T.length = 16) (hC : C.length = 240) (hst : s ≠ t) (hsc : s ≠ c)
    (hs : H.t.get s = some (.cells (bs S) e false false)) (ht : H.t.get t = some (.cells (bs T) e2 false false)) (hc : H.t.get c = some (.cells (bs C) e' false false)) {Q : AExit → Frm → Heap → Prop}
    (hQ : ∀ a' H', a'.get 3 = a.get 3 → a'.get 4 = a.get 4 → a'.get 5 = a.get 5 → a'.get 6 = a.get 6 → a'.get 8 = a.get 8 → H.next ≤ H'.next → (∀ j, H'.t.get j = if s = j then some (.cells (bs (addK T C r 16)) e false false) else H.t.get j) → Q .normal a' H') : W E reLoop12 a H Q := by
  refine W.block ?_
  refine W.count 16 (fun i a' H' => H.next ≤ H'.next ∧ (∀ j, H'.t.get j = if s = j then some (.cells (bs (finK S T C r i)) e false false) else H.t.get j) ∧ a'.get 3 = a.get 3 ∧ a'.get 4 = a.get 4 ∧ a'.get 5 = a.get 5 ∧ a'.get 6 = a.get 6 ∧ a'.get 8 = a.get 8 ∧ a'.get 9 = a.get 9 ∧ a'.get 15 = some (nn i)) ?_ ?_ 0 _ H (by omega) ?_
  · intro i a1 H1 hi ⟨hn, hb, g3, g4, g5, g6, g8, g9, g15⟩
    refine W.seq (W.seq (W.region ?_))
    simp only [w_mov, w_ibin, w_load1, w_loadN, w_nilCheck, w_indexArr, w_indexSl, w_indexVal, w_indexStr, w_lenStr, w_lenSl, w_store, w_alloc, w_box, w_build, w_sliceArr, w_bytesToStr, w_pick, WOps_nil, thenQ_normal, eX_t, eX_c, put_s, put_n, getset, Nat.reduceEqDiff, if_false, if_true, Option.getD_some, rd, natOf_nn, natOf_by, Option.some.injEq, exists_eq_left', Prod.mk.injEq, and_assoc, exists_and_left, true_and, Nat.zero_add, Nat.add_zero, Nat.mul_one, ble_t, mul_nn, quo_nn, rem_nn, add_nn, sub_nn, lss_nn, eql_nn, neq_nn, xor_by, k0, k1, k2, k3, k4, k5, k6, k7, k8, k12, k13, k14, k15, k16, k32, k60, k254, k256, g15]
    refine W.cond (b := true) (by simp only [eX_t, eX_c, put_s, put_n, getset, Nat.reduceEqDiff, if_false, if_true, Option.getD_some]; simp [hi]) (W.skip ?_)
    rw [thenQ_normal]
    refine W.seq (W.block ?_)
    refine re_d3 (S := finK S T C r i) (T := T) (C := C) (i := i) (r := r) (s := s) (t := t) (c := c) (e := e) (e' := e') (e2 := e2) (by simp only [eX_t, eX_c, put_s, put_n, getset, Nat.reduceEqDiff, if_false, if_true, Option.getD_some]; exact g3.trans h3) (by simp only [eX_t, eX_c, put_s, put_n, getset, Nat.reduceEqDiff, if_false, if_true, Option.getD_some]; exact g5.trans h5) (by simp only [eX_t, eX_c, put_s, put_n, getset, Nat.reduceEqDiff, if_false, if_true, Option.getD_some]; exact g8.trans h8) (by simp only [eX_t, eX_c, put_s, put_n, getset, Nat.reduceEqDiff, if_false, if_true, Option.getD_some]; exact g9.trans h9) (by simp only [eX_t, eX_c, put_s, put_n, getset, Nat.reduceEqDiff, if_false, if_true, Option.getD_some]; exact g15) hi hr (by rw [length_finK]; exact hS) hT hC (by rw [hb, if_pos rfl]) (by rw [hb, if_neg hst]; exact ht) (by rw [hb, if_neg hsc]; exact hc) ?_
    intro a' f3 f4 f5 f6 f8 f9 f15
    simp only [getset, Nat.reduceEqDiff, if_false] at f3 f4 f5 f6 f8 f9 f15
    simp only [blockQ_normal, thenQ_normal]
    refine W.region ?_
    rw [g15] at f15
    simp (disch := omega) only [w_mov, w_ibin, w_load1, w_loadN, w_nilCheck, w_indexArr, w_indexSl, w_indexVal, w_indexStr, w_lenStr, w_lenSl, w_store, w_alloc, w_box, w_build, w_sliceArr, w_bytesToStr, w_pick, WOps_nil, thenQ_normal, eX_t, eX_c, put_s, put_n, getset, Nat.reduceEqDiff, if_false, if_true, Option.getD_some, rd, natOf_nn, natOf_by, Option.some.injEq, exists_eq_left', Prod.mk.injEq, and_assoc, exists_and_left, true_and, Nat.zero_add, Nat.add_zero, Nat.mul_one, ble_t, mul_nn, quo_nn, rem_nn, add_nn, sub_nn, lss_nn, eql_nn, neq_nn, xor_by, k0, k1, k2, k3, k4, k5, k6, k7, k8, k12, k13, k14, k15, k16, k32, k60, k254, k256, f15]
    refine ⟨by omega, ?_, f3.trans g3, f4.trans g4, f5.trans g5, f6.trans g6, f8.trans g8, f9.trans g9, trivial⟩
    intro j
    by_cases h : s = j
    · rw [if_pos h, if_pos h, finK]
    · rw [if_neg h, if_neg h, hb j, if_neg h]
  · intro a1 H1 ⟨hn, hb, g3, g4, g5, g6, g8, g9, g15⟩
    refine W.seq (W.seq (W.region ?_))
    simp only [w_mov, w_ibin, w_load1, w_loadN, w_nilCheck, w_indexArr, w_indexSl, w_indexVal, w_indexStr, w_lenStr, w_lenSl, w_store, w_alloc, w_box, w_build, w_sliceArr, w_bytesToStr, w_pick, WOps_nil, thenQ_normal, eX_t, eX_c, put_s, put_n, getset, Nat.reduceEqDiff, if_false, if_true, Option.getD_some, rd, natOf_nn, natOf_by, Option.some.injEq, exists_eq_left', Prod.mk.injEq, and_assoc, exists_and_left, true_and, Nat.zero_add, Nat.add_zero, Nat.mul_one, ble_t, mul_nn, quo_nn, rem_nn, add_nn, sub_nn, lss_nn, eql_nn, neq_nn, xor_by, k0, k1, k2, k3, k4, k5, k6, k7, k8, k12, k13, k14, k15, k16, k32, k60, k254, k256, g15]
    refine W.cond (b := false) (by simp only [eX_t, eX_c, put_s, put_n, getset, Nat.reduceEqDiff, if_false, if_true, Option.getD_some]; simp) (W.exit ?_)
    rw [thenQ_exit]
    refine ⟨nofun, ?_⟩
    simp only [blockQ_exit, Nat.beq_refl, cond_true]
    rw [finK_addK hS hT] at hb
    refine hQ _ _ ?_ ?_ ?_ ?_ ?_ hn hb <;> simp only [getset, Nat.reduceEqDiff, if_false] <;> assumption
  · refine ⟨Nat.le_refl _, ?_, rfl, rfl, rfl, rfl, rfl, rfl, h15⟩
    intro j
    by_cases h : s = j
    · subst h; rw [if_pos rfl, finK]; exact hs
    · rw [if_neg h]
end Go.AE
end
-- Contracts of the reference of aes: encipher.
section
set_option linter.unusedVariables false
set_option linter.unusedSimpArgs false
set_option maxRecDepth 100000
set_option maxHeartbeats 1000000
namespace Go.AE
variable {E : Env}

theorem leq_nn (a b : Nat) : ibin .leq (nn a) (nn b) = some (.bool (decide (a ≤ b))) := by
  simp only [nn, ibin, kindEq, cond_true, fits.Int.ble']
  congr 2
  cases h : Nat.ble a b with
  | true => rw [Nat.ble_eq] at h; simp; omega
  | false => have : ¬ a ≤ b := fun h' => by rw [← Nat.ble_eq, h] at h'; exact nomatch h'
             simp; omega

theorem subK0 (S : List UInt8) : subK S 0 = List.replicate 16 0 := by rw [subK]

attribute [local irreducible] boxK lastK wordsP prod B keysP subK tw mx rmK mixP mixN addK

def reMain : ACode := (.block 2 (.loop (.seq (.seq (.region [(AOper.mk (some 33) (.mov (.tmp 8)) none), (AOper.mk (some 34) (.ibin .leq (.tmp 33) (.const (.int .i64 14))) none)]) (.cond (.tmp 34) .skip (.exit 2))) (.seq (.block 3 (.seq (.region [(AOper.mk (some 9) (.alloc 37 [(.int .u8 0), (.int .u8 0), (.int .u8 0), (.int .u8 0), (.int .u8 0), (.int .u8 0), (.int .u8 0), (.int .u8 0), (.int .u8 0), (.int .u8 0), (.int .u8 0), (.int .u8 0), (.int .u8 0), (.int .u8 0), (.int .u8 0), (.int .u8 0)]) none)]) (.seq (.seq (.region [(AOper.mk (some 10) (.mov (.const (.int .i64 0))) none)]) (.block 4 (.loop (.seq (.seq (.region [(AOper.mk (some 37) (.mov (.tmp 10)) none), (AOper.mk (some 38) (.ibin .lss (.tmp 37) (.const (.int .i64 4))) none)]) (.cond (.tmp 38) .skip (.exit 4))) (.seq (.block 5 (.seq (.region [(AOper.mk (some 11) (.mov (.const (.int .i64 0))) none)]) (.block 6 (.loop (.seq (.seq (.region [(AOper.mk (some 41) (.mov (.tmp 11)) none), (AOper.mk (some 42) (.ibin .lss (.tmp 41) (.const (.int .i64 4))) none)]) (.cond (.tmp 42) .skip (.exit 6))) (.seq (.block 7 (.region [(AOper.mk (some 45) (.mov (.tmp 10)) none), (AOper.mk (some 46) (.ibin .mul (.const (.int .i64 4)) (.tmp 45)) none), (AOper.mk (some 47) (.mov (.tmp 11)) none), (AOper.mk (some 48) (.ibin .add (.tmp 46) (.tmp 47)) none), (AOper.mk (some 49) (.mov (.tmp 10)) none), (AOper.mk (some 50) (.mov (.tmp 11)) none), (AOper.mk (some 51) (.ibin .add (.tmp 49) (.tmp 50)) none), (AOper.mk (some 52) (.ibin .rem (.tmp 51) (.const (.int .i64 4))) none), (AOper.mk (some 53) (.ibin .mul (.const (.int .i64 4)) (.tmp 52)) none), (AOper.mk (some 54) (.mov (.tmp 11)) none), (AOper.mk (some 55) (.ibin .add (.tmp 53) (.tmp 54)) none), (AOper.mk (some 56) (.indexArr 16 1 (.tmp 5) (.tmp 55)) none), (AOper.mk (some 57) (.load1 (.tmp 56)) none), (AOper.mk (some 58) (.indexArr 256 1 (.tmp 4) (.tmp 57)) none), (AOper.mk (some 59) (.load1 (.tmp 58)) none), (AOper.mk (some 60) (.indexArr 16 1 (.tmp 9) (.tmp 48)) none), (AOper.mk none (.store 1 (.tmp 60) (.tmp 59)) none)])) (.region [(AOper.mk (some 43) (.mov (.tmp 11)) none), (AOper.mk (some 44) (.ibin .add (.tmp 43) (.const (.int .i64 1))) none), (AOper.mk (some 11) (.mov (.tmp 44)) none)]))))))) (.region [(AOper.mk (some 39) (.mov (.tmp 10)) none), (AOper.mk (some 40) (.ibin .add (.tmp 39) (.const (.int .i64 1))) none), (AOper.mk (some 10) (.mov (.tmp 40)) none)])))))) (.seq (.seq (.region [(AOper.mk (some 61) (.mov (.tmp 8)) none), (AOper.mk (some 62) (.ibin .lss (.tmp 61) (.const (.int .i64 14))) none)]) (.cond (.tmp 62) (.seq (.region [(AOper.mk (some 12) (.mov (.const (.int .i64 0))) none)]) (.block 8 (.loop (.seq (.seq (.region [(AOper.mk (some 63) (.mov (.tmp 12)) none), (AOper.mk (some 64) (.ibin .lss (.tmp 63) (.const (.int .i64 4))) none)]) (.cond (.tmp 64) .skip (.exit 8))) (.seq (.block 9 (.seq (.draw (ADraw.mk [(AOper.mk (some 67) (.mov (.tmp 12)) none), (AOper.mk (some 68) (.ibin .mul (.const (.int .i64 4)) (.tmp 67)) none), (AOper.mk (some 69) (.indexArr 16 1 (.tmp 9) (.tmp 68)) none), (AOper.mk (some 70) (.load1 (.tmp 69)) none), (AOper.mk (some 71) (.mov (.tmp 12)) none), (AOper.mk (some 72) (.ibin .mul (.const (.int .i64 4)) (.tmp 71)) none), (AOper.mk (some 73) (.ibin .add (.tmp 72) (.const (.int .i64 1))) none), (AOper.mk (some 74) (.indexArr 16 1 (.tmp 9) (.tmp 73)) none), (AOper.mk (some 75) (.load1 (.tmp 74)) none), (AOper.mk (some 76) (.mov (.tmp 12)) none), (AOper.mk (some 77) (.ibin .mul (.const (.int .i64 4)) (.tmp 76)) none), (AOper.mk (some 78) (.ibin .add (.tmp 77) (.const (.int .i64 2))) none), (AOper.mk (some 79) (.indexArr 16 1 (.tmp 9) (.tmp 78)) none), (AOper.mk (some 80) (.load1 (.tmp 79)) none), (AOper.mk (some 81) (.mov (.tmp 12)) none), (AOper.mk (some 82) (.ibin .mul (.const (.int .i64 4)) (.tmp 81)) none), (AOper.mk (some 83) (.ibin .add (.tmp 82) (.const (.int .i64 3))) none), (AOper.mk (some 84) (.indexArr 16 1 (.tmp 9) (.tmp 83)) none), (AOper.mk (some 85) (.load1 (.tmp 84)) none), (AOper.mk (some 86) (.build [(.int .u8 0), (.int .u8 0), (.int .u8 0), (.int .u8 0)] [(0, (1, (.tmp 70))), (1, (1, (.tmp 75))), (2, (1, (.tmp 80))), (3, (1, (.tmp 85)))]) none), (AOper.mk (some 13) (.alloc 45 [(.int .u8 0), (.int .u8 0), (.int .u8 0), (.int .u8 0)]) none), (AOper.mk none (.store 4 (.tmp 13) (.tmp 86)) none)] [0, 1, 2, 3, 4, 5, 6, 7, 8, 9, 10, 11, 12, 13, 14, 15, 16, 17, 18, 19, 20, 21] [0, 1, 3, 7, 0, 16, 48, 112, 240, 0, 512, 1536, 3584, 7680, 0, 16384, 49152, 114688, 245760, 524287, 0, 2097151] [(0, 0), (0, 0), (0, 0), (0, 0), (0, 0), (0, 0), (0, 0), (0, 0), (0, 0), (0, 0), (0, 0), (0, 0), (0, 0), (0, 0), (0, 0), (0, 0), (0, 0), (0, 0), (0, 0), (0, 0), (0, 0), (0, 1)] false)) (.seq (.region [(AOper.mk (some 14) (.mov (.const (.int .i64 0))) none)]) (.block 10 (.loop (.seq (.seq (.region [(AOper.mk (some 87) (.mov (.tmp 14)) none), (AOper.mk (some 88) (.ibin .lss (.tmp 87) (.const (.int .i64 4))) none)]) (.cond (.tmp 88) .skip (.exit 10))) (.seq (.block 11 (.draw (ADraw.mk [(AOper.mk (some 91) (.mov (.tmp 12)) none), (AOper.mk (some 92) (.ibin .mul (.const (.int .i64 4)) (.tmp 91)) none), (AOper.mk (some 93) (.mov (.tmp 14)) none), (AOper.mk (some 94) (.ibin .add (.tmp 92) (.tmp 93)) none), (AOper.mk (some 95) (.mov (.tmp 14)) none), (AOper.mk (some 96) (.indexArr 4 1 (.tmp 13) (.tmp 95)) none), (AOper.mk (some 97) (.load1 (.tmp 96)) none), (AOper.mk (some 98) (.call (.const (.func (.func 28) [] [])) [(.tmp 97), (.const (.int .u8 2))]) none), (AOper.mk (some 99) (.mov (.tmp 14)) none), (AOper.mk (some 100) (.ibin .add (.tmp 99) (.const (.int .i64 1))) none), (AOper.mk (some 101) (.ibin .rem (.tmp 100) (.const (.int .i64 4))) none), (AOper.mk (some 102) (.indexArr 4 1 (.tmp 13) (.tmp 101)) none), (AOper.mk (some 103) (.load1 (.tmp 102)) none), (AOper.mk (some 104) (.call (.const (.func (.func 28) [] [])) [(.tmp 103), (.const (.int .u8 3))]) none), (AOper.mk (some 105) (.ibin .xor (.tmp 98) (.tmp 104)) none), (AOper.mk (some 106) (.mov (.tmp 14)) none), (AOper.mk (some 107) (.ibin .add (.tmp 106) (.const (.int .i64 2))) none), (AOper.mk (some 108) (.ibin .rem (.tmp 107) (.const (.int .i64 4))) none), (AOper.mk (some 109) (.indexArr 4 1 (.tmp 13) (.tmp 108)) none), (AOper.mk (some 110) (.load1 (.tmp 109)) none), (AOper.mk (some 111) (.ibin .xor (.tmp 105) (.tmp 110)) none), (AOper.mk (some 112) (.mov (.tmp 14)) none), (AOper.mk (some 113) (.ibin .add (.tmp 112) (.const (.int .i64 3))) none), (AOper.mk (some 114) (.ibin .rem (.tmp 113) (.const (.int .i64 4))) none), (AOper.mk (some 115) (.indexArr 4 1 (.tmp 13) (.tmp 114)) none), (AOper.mk (some 116) (.load1 (.tmp 115)) none), (AOper.mk (some 117) (.ibin .xor (.tmp 111) (.tmp 116)) none), (AOper.mk (some 118) (.indexArr 16 1 (.tmp 9) (.tmp 94)) none), (AOper.mk none (.store 1 (.tmp 118) (.tmp 117)) none)] [0, 1, 2, 3, 4, 5, 6, 8, 9, 10, 11, 12, 15, 16, 17, 18, 19, 21, 22, 23, 24, 25, 7, 13, 14, 20, 26, 27, 28] [0, 1, 0, 7, 0, 16, 48, 112, 0, 256, 768, 1792, 3840, 8176, 16368, 0, 32768, 98304, 229376, 491520, 1048560, 0, 2097152, 6291456, 14680064, 31457280, 67108848, 134217727, 268435455] [(0, 2), (0, 2), (0, 2), (0, 2), (0, 0), (0, 0), (0, 0), (0, 1), (0, 1), (0, 1), (0, 1), (0, 1), (0, 1), (1, 2), (2, 2), (0, 2), (0, 2), (0, 2), (0, 2), (0, 2), (2, 2), (0, 2), (0, 2), (0, 2), (0, 2), (0, 2), (2, 2), (2, 2), (2, 3)] false))) (.region [(AOper.mk (some 89) (.mov (.tmp 14)) none), (AOper.mk (some 90) (.ibin .add (.tmp 89) (.const (.int .i64 1))) none), (AOper.mk (some 14) (.mov (.tmp 90)) none)])))))))) (.region [(AOper.mk (some 65) (.mov (.tmp 12)) none), (AOper.mk (some 66) (.ibin .add (.tmp 65) (.const (.int .i64 1))) none), (AOper.mk (some 12) (.mov (.tmp 66)) none)])))))) .skip)) (.seq (.region [(AOper.mk (some 15) (.mov (.const (.int .i64 0))) none)]) (.block 12 (.loop (.seq (.seq (.region [(AOper.mk (some 119) (.mov (.tmp 15)) none), (AOper.mk (some 120) (.ibin .lss (.tmp 119) (.const (.int .i64 16))) none)]) (.cond (.tmp 120) .skip (.exit 12))) (.seq (.block 13 (.draw (ADraw.mk [(AOper.mk (some 123) (.mov (.tmp 15)) none), (AOper.mk (some 124) (.mov (.tmp 15)) none), (AOper.mk (some 125) (.indexArr 16 1 (.tmp 9) (.tmp 124)) none), (AOper.mk (some 126) (.load1 (.tmp 125)) none), (AOper.mk (some 127) (.mov (.tmp 8)) none), (AOper.mk (some 128) (.ibin .mul (.const (.int .i64 4)) (.tmp 127)) none), (AOper.mk (some 129) (.mov (.tmp 15)) none), (AOper.mk (some 130) (.ibin .quo (.tmp 129) (.const (.int .i64 4))) none), (AOper.mk (some 131) (.ibin .add (.tmp 128) (.tmp 130)) none), (AOper.mk (some 132) (.mov (.tmp 15)) none), (AOper.mk (some 133) (.ibin .rem (.tmp 132) (.const (.int .i64 4))) none), (AOper.mk (some 134) (.indexArr 60 4 (.tmp 3) (.tmp 131)) none), (AOper.mk (some 135) (.indexArr 4 1 (.tmp 134) (.tmp 133)) none), (AOper.mk (some 136) (.load1 (.tmp 135)) none), (AOper.mk (some 137) (.ibin .xor (.tmp 126) (.tmp 136)) none), (AOper.mk (some 138) (.indexArr 16 1 (.tmp 5) (.tmp 123)) none), (AOper.mk none (.store 1 (.tmp 138) (.tmp 137)) none)] [0, 1, 2, 3, 4, 5, 6, 7, 8, 9, 10, 11, 12, 13, 14, 15, 16] [0, 0, 2, 6, 0, 16, 0, 64, 240, 0, 512, 496, 4080, 8176, 16382, 32767, 65535] [(0, 0), (0, 0), (0, 0), (0, 0), (0, 0), (0, 0), (0, 0), (0, 0), (0, 0), (0, 0), (0, 0), (0, 0), (0, 0), (0, 0), (0, 0), (0, 0), (0, 1)] false))) (.region [(AOper.mk (some 121) (.mov (.tmp 15)) none), (AOper.mk (some 122) (.ibin .add (.tmp 121) (.const (.int .i64 1))) none), (AOper.mk (some 15) (.mov (.tmp 122)) none)])))))))))) (.region [(AOper.mk (some 35) (.mov (.tmp 8)) none), (AOper.mk (some 36) (.ibin .add (.tmp 35) (.const (.int .i64 1))) none), (AOper.mk (some 8) (.mov (.tmp 36)) none)])))))

theorem re_main (hE : ∀ f, E.funcs f = Aes.funcsT.get f) (hx : ∀ f args H, special f = false → E.sums f args H = none) {a : Frm} {H : Heap} {s c bx : Nat} {S C : List UInt8} (h3 : a.get 3 = some (.ptr (some (c, 0)))) (h4 : a.get 4 = some (.ptr (some (bx, 0)))) (h5 : a.get 5 = some (.ptr (some (s, 0)))) (h8 : a.get 8 = some (nn 1))
    (hS : S.length = 16) (hC : C.length = 240) (hsn : s < H.next) (hcn : c < H.next) (hbn : bx < H.next) (hsc : s ≠ c) (hsb : s ≠ bx)
    (hs : H.t.get s = some (.cells (bs (addK S C 0 16)) 37 false false)) (hc : H.t.get c = some (.cells (bs C) 46 false false)) (hb : H.t.get bx = some (.cells (bs boxL) 42 false false)) {Q : AExit → Frm → Heap → Prop}
    (hQ : ∀ a' H', a'.get 5 = a.get 5 → a'.get 6 = a.get 6 → H.next ≤ H'.next → (∀ j, j < H.next → H'.t.get j = if s = j then some (.cells (bs (encP C S)) 37 false false) else H.t.get j) → Q .normal a' H') : W E reMain a H Q := by
  refine W.block ?_
  refine W.count 14 (fun m a' H' => H.next ≤ H'.next ∧ (∀ j, j < H.next → H'.t.get j = if s = j then some (.cells (bs (roundsP C S m)) 37 false false) else H.t.get j) ∧ a'.get 3 = a.get 3 ∧ a'.get 4 = a.get 4 ∧ a'.get 5 = a.get 5 ∧ a'.get 6 = a.get 6 ∧ a'.get 8 = some (nn (m + 1))) ?_ ?_ 0 _ H (by omega) ?_
  · intro m a1 H1 hm ⟨hn, hb1, g3, g4, g5, g6, g8⟩
    rw [h3] at g3
    rw [h4] at g4
    rw [h5] at g5
    have hl := length_roundsP (C := C) hS m
    refine W.seq (W.seq (W.region ?_))
    simp only [w_mov, w_ibin, w_load1, w_loadN, w_nilCheck, w_indexArr, w_indexSl, w_indexVal, w_indexStr, w_lenStr, w_lenSl, w_store, w_alloc, w_box, w_build, w_sliceArr, w_bytesToStr, w_pick, WOps_nil, thenQ_normal, eX_t, eX_c, put_s, put_n, getset, Nat.reduceEqDiff, if_false, if_true, Option.getD_some, rd, natOf_nn, natOf_by, Option.some.injEq, exists_eq_left', Prod.mk.injEq, and_assoc, exists_and_left, true_and, Nat.zero_add, Nat.add_zero, Nat.mul_one, ble_t, mul_nn, quo_nn, rem_nn, add_nn, sub_nn, lss_nn, eql_nn, neq_nn, xor_by, k0, k1, k2, k3, k4, k5, k6, k7, k8, k12, k13, k14, k15, k16, k32, k60, k254, k256, leq_nn, g8]
    refine W.cond (b := true) (by simp only [eX_t, eX_c, put_s, put_n, getset, Nat.reduceEqDiff, if_false, if_true, Option.getD_some]; simp; omega) (W.skip ?_)
    rw [thenQ_normal]
    refine W.seq (W.block (W.seq (W.region ?_)))
    rw [zero16, w_alloc, WOps_nil, thenQ_normal]
    have hp := get_push H1 (.cells (bs (List.replicate 16 0)) 37 false false)
    have hpn := next_push H1 (.cells (bs (List.replicate 16 0)) 37 false false)
    generalize H1.push (.cells (bs (List.replicate 16 0)) 37 false false) = H2 at hp hpn ⊢
    refine W.seq (W.seq (W.region ?_))
    simp only [w_mov, w_ibin, w_load1, w_loadN, w_nilCheck, w_indexArr, w_indexSl, w_indexVal, w_indexStr, w_lenStr, w_lenSl, w_store, w_alloc, w_box, w_build, w_sliceArr, w_bytesToStr, w_pick, WOps_nil, thenQ_normal, eX_t, eX_c, put_s, put_n, getset, Nat.reduceEqDiff, if_false, if_true, Option.getD_some, rd, natOf_nn, natOf_by, Option.some.injEq, exists_eq_left', Prod.mk.injEq, and_assoc, exists_and_left, true_and, Nat.zero_add, Nat.add_zero, Nat.mul_one, ble_t, mul_nn, quo_nn, rem_nn, add_nn, sub_nn, lss_nn, eql_nn, neq_nn, xor_by, k0, k1, k2, k3, k4, k5, k6, k7, k8, k12, k13, k14, k15, k16, k32, k60, k254, k256]
    refine re_l4 (S := roundsP C S m) (s := s) (t := H1.next) (bx := bx) (e := 37) (e' := 37) (e2 := 42) (by simp only [eX_t, eX_c, put_s, put_n, getset, Nat.reduceEqDiff, if_false, if_true, Option.getD_some]; exact g4) (by simp only [eX_t, eX_c, put_s, put_n, getset, Nat.reduceEqDiff, if_false, if_true, Option.getD_some]; exact g5) (by simp only [eX_t, eX_c, put_s, put_n, getset, Nat.reduceEqDiff, if_false, if_true, Option.getD_some]) (by simp only [eX_t, eX_c, put_s, put_n, getset, Nat.reduceEqDiff, if_false, if_true, Option.getD_some]) hl (by omega) (by omega) (by rw [hp, if_neg (by omega), hb1 _ hsn, if_pos rfl]) (by rw [hp, if_pos rfl, subK0]) (by rw [hp, if_neg (by omega), hb1 _ hbn, if_neg hsb]; exact hb) ?_
    intro a3 H3 f3 f4 f5 f6 f8 f9 fn fb
    simp only [getset, Nat.reduceEqDiff, if_false, if_true] at f3 f4 f5 f6 f8 f9
    rw [thenQ_normal]
    have key : W E (.seq (.region [(AOper.mk (some 61) (.mov (.tmp 8)) none), (AOper.mk (some 62) (.ibin .lss (.tmp 61) (.const (.int .i64 14))) none)]) (.cond (.tmp 62) (.seq (.region [(AOper.mk (some 12) (.mov (.const (.int .i64 0))) none)]) reLoop8) .skip)) a3 H3
        (fun x a' H' => x = .normal ∧ a'.get 3 = a1.get 3 ∧ a'.get 4 = a1.get 4 ∧ a'.get 5 = a1.get 5 ∧ a'.get 6 = a1.get 6 ∧ a'.get 8 = some (nn (m + 1)) ∧ a'.get 9 = some (.ptr (some (H1.next, 0))) ∧ H3.next ≤ H'.next ∧
          (∀ j, j < H2.next → H'.t.get j = if H1.next = j then some (.cells (bs (bif decide (m < 13) then mixN (subK (roundsP C S m) 16) 4 else subK (roundsP C S m) 16)) 37 false false) else H2.t.get j)) := by
      refine W.seq (W.region ?_)
      simp only [w_mov, w_ibin, w_load1, w_loadN, w_nilCheck, w_indexArr, w_indexSl, w_indexVal, w_indexStr, w_lenStr, w_lenSl, w_store, w_alloc, w_box, w_build, w_sliceArr, w_bytesToStr, w_pick, WOps_nil, thenQ_normal, eX_t, eX_c, put_s, put_n, getset, Nat.reduceEqDiff, if_false, if_true, Option.getD_some, rd, natOf_nn, natOf_by, Option.some.injEq, exists_eq_left', Prod.mk.injEq, and_assoc, exists_and_left, true_and, Nat.zero_add, Nat.add_zero, Nat.mul_one, ble_t, mul_nn, quo_nn, rem_nn, add_nn, sub_nn, lss_nn, eql_nn, neq_nn, xor_by, k0, k1, k2, k3, k4, k5, k6, k7, k8, k12, k13, k14, k15, k16, k32, k60, k254, k256, f8, g8]
      have ed : decide (m + 1 < 14) = decide (m < 13) := decide_eq_decide.2 (by omega)
      rw [ed]
      refine W.cond (b := decide (m < 13)) (by simp only [eX_t, eX_c, put_s, put_n, getset, Nat.reduceEqDiff, if_false, if_true, Option.getD_some]) ?_
      cases decide (m < 13) with
      | true =>
        rw [cond_true]
        refine W.seq (W.region ?_)
        simp only [w_mov, w_ibin, w_load1, w_loadN, w_nilCheck, w_indexArr, w_indexSl, w_indexVal, w_indexStr, w_lenStr, w_lenSl, w_store, w_alloc, w_box, w_build, w_sliceArr, w_bytesToStr, w_pick, WOps_nil, thenQ_normal, eX_t, eX_c, put_s, put_n, getset, Nat.reduceEqDiff, if_false, if_true, Option.getD_some, rd, natOf_nn, natOf_by, Option.some.injEq, exists_eq_left', Prod.mk.injEq, and_assoc, exists_and_left, true_and, Nat.zero_add, Nat.add_zero, Nat.mul_one, ble_t, mul_nn, quo_nn, rem_nn, add_nn, sub_nn, lss_nn, eql_nn, neq_nn, xor_by, k0, k1, k2, k3, k4, k5, k6, k7, k8, k12, k13, k14, k15, k16, k32, k60, k254, k256]
        refine re_l8 hE hx (T := subK (roundsP C S m) 16) (t := H1.next) (e := 37) (by simp only [eX_t, eX_c, put_s, put_n, getset, Nat.reduceEqDiff, if_false, if_true, Option.getD_some]; exact f9) (by simp only [eX_t, eX_c, put_s, put_n, getset, Nat.reduceEqDiff, if_false, if_true, Option.getD_some]) (length_subK _ _) (by omega) (by rw [fb, if_pos rfl]) ?_
        intro a4 H4 q3 q4 q5 q6 q8 q9 qn qb
        simp only [getset, Nat.reduceEqDiff, if_false] at q3 q4 q5 q6 q8 q9
        refine ⟨rfl, q3.trans f3, q4.trans f4, q5.trans f5, q6.trans f6, q8.trans (f8.trans g8), q9.trans f9, qn, fun j hj => ?_⟩
        rw [qb _ (by omega), fb]
        by_cases h : H1.next = j
        · rw [if_pos h, if_pos h, cond_true]
        · rw [if_neg h, if_neg h, if_neg h]
      | false =>
        rw [cond_false]
        refine W.skip ⟨rfl, ?_, ?_, ?_, ?_, ?_, ?_, Nat.le_refl _, fun j hj => ?_⟩
        · simp only [getset, Nat.reduceEqDiff, if_false]; exact f3
        · simp only [getset, Nat.reduceEqDiff, if_false]; exact f4
        · simp only [getset, Nat.reduceEqDiff, if_false]; exact f5
        · simp only [getset, Nat.reduceEqDiff, if_false]; exact f6
        · simp only [getset, Nat.reduceEqDiff, if_false]; exact f8.trans g8
        · simp only [getset, Nat.reduceEqDiff, if_false]; exact f9
        · rw [fb, cond_false]
    refine W.seq (key.mono ?_)
    intro x a4 H4 ⟨hx', q3, q4, q5, q6, q8, q9, qn, qb⟩
    subst hx'
    rw [thenQ_normal]
    rw [g3] at q3
    rw [g4] at q4
    rw [g5] at q5
    refine W.seq (W.region ?_)
    simp only [w_mov, w_ibin, w_load1, w_loadN, w_nilCheck, w_indexArr, w_indexSl, w_indexVal, w_indexStr, w_lenStr, w_lenSl, w_store, w_alloc, w_box, w_build, w_sliceArr, w_bytesToStr, w_pick, WOps_nil, thenQ_normal, eX_t, eX_c, put_s, put_n, getset, Nat.reduceEqDiff, if_false, if_true, Option.getD_some, rd, natOf_nn, natOf_by, Option.some.injEq, exists_eq_left', Prod.mk.injEq, and_assoc, exists_and_left, true_and, Nat.zero_add, Nat.add_zero, Nat.mul_one, ble_t, mul_nn, quo_nn, rem_nn, add_nn, sub_nn, lss_nn, eql_nn, neq_nn, xor_by, k0, k1, k2, k3, k4, k5, k6, k7, k8, k12, k13, k14, k15, k16, k32, k60, k254, k256]
    refine re_l12 (S := roundsP C S m) (T := bif decide (m < 13) then mixN (subK (roundsP C S m) 16) 4 else subK (roundsP C S m) 16) (C := C) (r := m + 1) (s := s) (t := H1.next) (c := c) (e := 37) (e' := 46) (e2 := 37) (by simp only [eX_t, eX_c, put_s, put_n, getset, Nat.reduceEqDiff, if_false, if_true, Option.getD_some]; exact q3) (by simp only [eX_t, eX_c, put_s, put_n, getset, Nat.reduceEqDiff, if_false, if_true, Option.getD_some]; exact q5) (by simp only [eX_t, eX_c, put_s, put_n, getset, Nat.reduceEqDiff, if_false, if_true, Option.getD_some]; exact q8) (by simp only [eX_t, eX_c, put_s, put_n, getset, Nat.reduceEqDiff, if_false, if_true, Option.getD_some]; exact q9) (by simp only [eX_t, eX_c, put_s, put_n, getset, Nat.reduceEqDiff, if_false, if_true, Option.getD_some]) (by omega) hl ?_ hC (by omega) hsc (by rw [qb _ (by omega), if_neg (by omega), hp, if_neg (by omega), hb1 _ hsn, if_pos rfl]) (by rw [qb _ (by omega), if_pos rfl]) (by rw [qb _ (by omega), if_neg (by omega), hp, if_neg (by omega), hb1 _ hcn, if_neg hsc]; exact hc) ?_
    · cases decide (m < 13)
      · rw [cond_false, length_subK]
      · rw [cond_true, length_mixN, length_subK]
    intro a5 H5 r3 r4 r5 r6 r8 rn rb
    simp only [getset, Nat.reduceEqDiff, if_false] at r3 r4 r5 r6 r8
    simp only [blockQ_normal, thenQ_normal]
    rw [q8] at r8
    refine W.region ?_
    simp (disch := omega) only [w_mov, w_ibin, w_load1, w_loadN, w_nilCheck, w_indexArr, w_indexSl, w_indexVal, w_indexStr, w_lenStr, w_lenSl, w_store, w_alloc, w_box, w_build, w_sliceArr, w_bytesToStr, w_pick, WOps_nil, thenQ_normal, eX_t, eX_c, put_s, put_n, getset, Nat.reduceEqDiff, if_false, if_true, Option.getD_some, rd, natOf_nn, natOf_by, Option.some.injEq, exists_eq_left', Prod.mk.injEq, and_assoc, exists_and_left, true_and, Nat.zero_add, Nat.add_zero, Nat.mul_one, ble_t, mul_nn, quo_nn, rem_nn, add_nn, sub_nn, lss_nn, eql_nn, neq_nn, xor_by, k0, k1, k2, k3, k4, k5, k6, k7, k8, k12, k13, k14, k15, k16, k32, k60, k254, k256, r8]
    refine ⟨by omega, ?_, by rw [r3, q3, h3], by rw [r4, q4, h4], by rw [r5, q5, h5], r6.trans (q6.trans g6), trivial⟩
    intro j hj
    rw [rb]
    by_cases h : s = j
    · rw [if_pos h, if_pos h, roundsP, roundP]
    · rw [if_neg h, if_neg h, qb _ (by omega), if_neg (by omega), hp, if_neg (by omega), hb1 _ hj, if_neg h]
  · intro a1 H1 ⟨hn, hb1, g3, g4, g5, g6, g8⟩
    refine W.seq (W.seq (W.region ?_))
    simp only [w_mov, w_ibin, w_load1, w_loadN, w_nilCheck, w_indexArr, w_indexSl, w_indexVal, w_indexStr, w_lenStr, w_lenSl, w_store, w_alloc, w_box, w_build, w_sliceArr, w_bytesToStr, w_pick, WOps_nil, thenQ_normal, eX_t, eX_c, put_s, put_n, getset, Nat.reduceEqDiff, if_false, if_true, Option.getD_some, rd, natOf_nn, natOf_by, Option.some.injEq, exists_eq_left', Prod.mk.injEq, and_assoc, exists_and_left, true_and, Nat.zero_add, Nat.add_zero, Nat.mul_one, ble_t, mul_nn, quo_nn, rem_nn, add_nn, sub_nn, lss_nn, eql_nn, neq_nn, xor_by, k0, k1, k2, k3, k4, k5, k6, k7, k8, k12, k13, k14, k15, k16, k32, k60, k254, k256, leq_nn, g8]
    refine W.cond (b := false) (by simp only [eX_t, eX_c, put_s, put_n, getset, Nat.reduceEqDiff, if_false, if_true, Option.getD_some]; simp) (W.exit ?_)
    rw [thenQ_exit]
    refine ⟨nofun, ?_⟩
    simp only [blockQ_exit, Nat.beq_refl, cond_true]
    refine hQ _ _ ?_ ?_ hn (by rw [encP]; exact hb1) <;> simp only [getset, Nat.reduceEqDiff, if_false] <;> assumption
  · refine ⟨Nat.le_refl _, ?_, rfl, rfl, rfl, rfl, h8⟩
    intro j hj
    by_cases h : s = j
    · subst h; rw [if_pos rfl, roundsP]; exact hs
    · rw [if_neg h]
end Go.AE
end
-- Contracts of the reference of aes: encipher, whole.
section
set_option linter.unusedVariables false
set_option linter.unusedSimpArgs false
set_option maxRecDepth 100000
set_option maxHeartbeats 1000000
namespace Go.AE
variable {E : Env}
attribute [local irreducible] boxK lastK wordsP prod B keysP subK tw mx rmK mixP mixN addK encP

theorem renc_ok (hE : ∀ f, E.funcs f = Aes.funcsT.get f) (hx : ∀ f args H, special f = false → E.sums f args H = none) {H : Heap} {S C : List UInt8}
    (hS : S.length = 16) (hC : C.length = 240) (hl : (encP C S).length = 16) {Q : AV → Heap → Prop}
    (hQ : ∀ H', H.next ≤ H'.next → (∀ j, j < H.next → H'.t.get j = H.t.get j) → Q (.agg (bs (encP C S))) H') : WCall E 20 [.agg (bs C), .agg (bs boxL), .agg (bs S)] H Q := by
  refine WCall.func (hx 20 _ _ (by decide)) ((hE 20).trans rfl) ?_
  have f0 : (frameOf [.agg (bs C), .agg (bs boxL), .agg (bs S)] 0 .nil).get 0 = some (.agg (bs C)) := rfl
  have f1 : (frameOf [.agg (bs C), .agg (bs boxL), .agg (bs S)] 0 .nil).get 1 = some (.agg (bs boxL)) := rfl
  have f2 : (frameOf [.agg (bs C), .agg (bs boxL), .agg (bs S)] 0 .nil).get 2 = some (.agg (bs S)) := rfl
  generalize frameOf [.agg (bs C), .agg (bs boxL), .agg (bs S)] 0 .nil = a at f0 f1 f2
  refine W.seq (W.region ?_)
  rw [w_box, w_box, w_box, w_alloc, WOps_nil, thenQ_normal, zero16]
  simp only [eX_t, eX_c, put_s, put_n, getset, Nat.reduceEqDiff, if_false, if_true, Option.getD_some, f0, f1, f2, cells_agg]
  have hp := get_push H (.cells (bs C) 46 false false)
  have hpn := next_push H (.cells (bs C) 46 false false)
  generalize H.push (.cells (bs C) 46 false false) = H1 at hp hpn ⊢
  have hp2 := get_push H1 (.cells (bs boxL) 42 false false)
  have hpn2 := next_push H1 (.cells (bs boxL) 42 false false)
  generalize H1.push (.cells (bs boxL) 42 false false) = H2 at hp2 hpn2 ⊢
  have hp3 := get_push H2 (.cells (bs S) 37 false false)
  have hpn3 := next_push H2 (.cells (bs S) 37 false false)
  generalize H2.push (.cells (bs S) 37 false false) = H3 at hp3 hpn3 ⊢
  have hp4 := get_push H3 (.cells (bs (List.replicate 16 0)) 37 false false)
  have hpn4 := next_push H3 (.cells (bs (List.replicate 16 0)) 37 false false)
  generalize H3.push (.cells (bs (List.replicate 16 0)) 37 false false) = H4 at hp4 hpn4 ⊢
  refine W.seq (W.seq (W.region ?_))
  simp only [w_mov, w_ibin, w_load1, w_loadN, w_nilCheck, w_indexArr, w_indexSl, w_indexVal, w_indexStr, w_lenStr, w_lenSl, w_store, w_alloc, w_box, w_build, w_sliceArr, w_bytesToStr, w_pick, WOps_nil, thenQ_normal, eX_t, eX_c, put_s, put_n, getset, Nat.reduceEqDiff, if_false, if_true, Option.getD_some, rd, natOf_nn, natOf_by, Option.some.injEq, exists_eq_left', Prod.mk.injEq, and_assoc, exists_and_left, true_and, Nat.zero_add, Nat.add_zero, Nat.mul_one, ble_t, mul_nn, quo_nn, rem_nn, add_nn, sub_nn, lss_nn, eql_nn, neq_nn, xor_by, k0, k1, k2, k3, k4, k5, k6, k7, k8, k12, k13, k14, k15, k16, k32, k60, k254, k256]
  refine re_l0 (S := S) (C := C) (s := H2.next) (c := H.next) (e := 37) (e' := 46) (by simp only [eX_t, eX_c, put_s, put_n, getset, Nat.reduceEqDiff, if_false, if_true, Option.getD_some]) (by simp only [eX_t, eX_c, put_s, put_n, getset, Nat.reduceEqDiff, if_false, if_true, Option.getD_some]) (by simp only [eX_t, eX_c, put_s, put_n, getset, Nat.reduceEqDiff, if_false, if_true, Option.getD_some]) hS hC (by omega) (by rw [hp4, if_neg (by omega), hp3, if_pos rfl]) (by rw [hp4, if_neg (by omega), hp3, if_neg (by omega), hp2, if_neg (by omega), hp, if_pos rfl]) ?_
  intro a5 H5 g3 g4 g5 g6 hn5 hb5
  simp only [getset, Nat.reduceEqDiff, if_false, if_true] at g3 g4 g5 g6
  rw [thenQ_normal]
  refine W.seq (W.seq (W.region ?_))
  simp only [w_mov, w_ibin, w_load1, w_loadN, w_nilCheck, w_indexArr, w_indexSl, w_indexVal, w_indexStr, w_lenStr, w_lenSl, w_store, w_alloc, w_box, w_build, w_sliceArr, w_bytesToStr, w_pick, WOps_nil, thenQ_normal, eX_t, eX_c, put_s, put_n, getset, Nat.reduceEqDiff, if_false, if_true, Option.getD_some, rd, natOf_nn, natOf_by, Option.some.injEq, exists_eq_left', Prod.mk.injEq, and_assoc, exists_and_left, true_and, Nat.zero_add, Nat.add_zero, Nat.mul_one, ble_t, mul_nn, quo_nn, rem_nn, add_nn, sub_nn, lss_nn, eql_nn, neq_nn, xor_by, k0, k1, k2, k3, k4, k5, k6, k7, k8, k12, k13, k14, k15, k16, k32, k60, k254, k256]
  refine re_main hE hx (S := S) (C := C) (s := H2.next) (c := H.next) (bx := H1.next) (by simp only [eX_t, eX_c, put_s, put_n, getset, Nat.reduceEqDiff, if_false, if_true, Option.getD_some]; exact g3) (by simp only [eX_t, eX_c, put_s, put_n, getset, Nat.reduceEqDiff, if_false, if_true, Option.getD_some]; exact g4) (by simp only [eX_t, eX_c, put_s, put_n, getset, Nat.reduceEqDiff, if_false, if_true, Option.getD_some]; exact g5) (by simp only [eX_t, eX_c, put_s, put_n, getset, Nat.reduceEqDiff, if_false, if_true, Option.getD_some]) hS hC (by omega) (by omega) (by omega) (by omega) (by omega) (by rw [hb5, if_pos rfl])
    (by rw [hb5, if_neg (by omega), hp4, if_neg (by omega), hp3, if_neg (by omega), hp2, if_neg (by omega), hp, if_pos rfl]) (by rw [hb5, if_neg (by omega), hp4, if_neg (by omega), hp3, if_neg (by omega), hp2, if_pos rfl]) ?_
  intro a6 H6 q5 q6 hn6 hb6
  simp only [getset, Nat.reduceEqDiff, if_false, if_true] at q5 q6
  rw [g5] at q5
  rw [g6] at q6
  rw [thenQ_normal]
  obtain ⟨T6, n6⟩ := H6
  simp only at hn6 hb6
  have h5 : T6.get H2.next = some (.cells (bs (encP C S)) 37 false false) := by rw [hb6 _ (by omega), if_pos rfl]
  have h6 : T6.get H3.next = some (.cells (bs (List.replicate 16 0)) 37 false false) := by rw [hb6 _ (by omega), if_neg (by omega), hb5, if_neg (by omega), hp4, if_pos rfl]
  refine W.seq (W.region ?_)
  simp only [w_loadN, rd, eX_t, eX_c, put_s, put_n, getset, Nat.reduceEqDiff, if_false, if_true, Option.getD_some, q5, q6, loadN_bs h5 hl, Option.some.injEq, exists_eq_left', w_store, wst_agg h6 List.length_replicate hl, Prod.mk.injEq, and_assoc, exists_and_left, WOps_nil, thenQ_normal]
  have hr : (T6.set H3.next (.cells (bs (encP C S)) 37 false false)).get H3.next = some (.cells (bs (encP C S)) 37 false false) := by rw [getset, if_pos rfl]
  refine W.ret ⟨.inr rfl, ?_⟩
  simp only [resultsOf, resOf, eX_t, eX_c, put_s, put_n, getset, Nat.reduceEqDiff, if_false, if_true, Option.getD_some, q6, loadN_bs hr hl, Option.some.injEq, exists_eq_left', oneOf]
  refine hQ _ (by show H.next ≤ n6; omega) fun j hj => ?_
  rw [getset, if_neg (by omega), hb6 _ (by omega), if_neg (by omega), hb5, if_neg (by omega), hp4, if_neg (by omega), hp3, if_neg (by omega), hp2, if_neg (by omega), hp, if_neg (by omega)]
end Go.AE
end
-- Contracts of the reference of aes: Block.
section
set_option linter.unusedVariables false
set_option linter.unusedSimpArgs false
set_option maxRecDepth 100000
set_option maxHeartbeats 1000000
namespace Go.AE
variable {E : Env}
attribute [local irreducible] keysP encP

theorem length_encP {C S : List UInt8} (h : S.length = 16) : (encP C S).length = 16 := by unfold encP; exact length_roundsP h 14

def rbDraw : ADraw := (ADraw.mk [(AOper.mk (some 15) (.mov (.tmp 0)) none), (AOper.mk (some 16) (.loadN 256 (.tmp 6)) none), (AOper.mk (some 17) (.call (.const (.func (.func 21) [] [])) [(.tmp 15), (.tmp 16)]) none), (AOper.mk (some 18) (.loadN 256 (.tmp 6)) none), (AOper.mk (some 19) (.mov (.tmp 1)) none), (AOper.mk (some 20) (.call (.const (.func (.func 22) [] [])) [(.tmp 19)]) none), (AOper.mk (some 21) (.call (.const (.func (.func 20) [] [])) [(.tmp 17), (.tmp 18), (.tmp 20)]) none), (AOper.mk (some 7) (.alloc 37 [(.int .u8 0), (.int .u8 0), (.int .u8 0), (.int .u8 0), (.int .u8 0), (.int .u8 0), (.int .u8 0), (.int .u8 0), (.int .u8 0), (.int .u8 0), (.int .u8 0), (.int .u8 0), (.int .u8 0), (.int .u8 0), (.int .u8 0), (.int .u8 0)]) none), (AOper.mk none (.store 16 (.tmp 7) (.tmp 21)) none)] [0, 1, 3, 4, 7, 2, 5, 6, 8] [0, 0, 3, 0, 0, 23, 63, 0, 255] [(0, 0), (0, 0), (0, 1), (0, 2), (0, 1), (1, 2), (2, 3), (0, 3), (3, 4)] false)

theorem rb_d (hE : ∀ f, E.funcs f = Aes.funcsT.get f) (hx : ∀ f args H, special f = false → E.sums f args H = none) {a : Frm} {H : Heap} {K S : List UInt8} {b : Nat} {e : TypeId} (h0 : a.get 0 = some (.str K)) (h1 : a.get 1 = some (.str S)) (h6 : a.get 6 = some (.ptr (some (b, 0)))) (hbn : b < H.next) (hK : K.length = 32) (hS : S.length = 16)
    (hb : H.t.get b = some (.cells (bs boxL) e false false))
    {Q : AExit → Frm → Heap → Prop} (hQ : ∀ a' H', a'.get 7 = some (.ptr (some (H.next + 7, 0))) → H.next ≤ H'.next → H'.t.get (H.next + 7) = some (.cells (bs (encP (keysP K) S)) 37 false false) → (∀ j, j < H.next → H'.t.get j = H.t.get j) → Q .normal a' H') : W E (.draw rbDraw) a H Q := by
  refine W_draw (l := _) rfl (N := 9) rfl ?_
  have hl := length_encP (C := keysP K) hS
  simp only [rbDraw, l_mov, l_loadN, rd, eX_t, eX_c, put_s, put_n, getset, Nat.reduceEqDiff, if_false, if_true, Option.getD_some, h0, h1, h6, loadN_bs hb length_boxL, Option.some.injEq, exists_eq_left']
  rw [zero16]
  refine WL_al rfl (x := .cells (bs (List.replicate 16 0)) 37 false false) (f := fun i => .ptr (some (i, 0))) rfl ?_
  simp only [put_s]
  have hb0 : ∀ j, j < H.next → (H.t.set (H.next + 7) (.cells (bs (List.replicate 16 0)) 37 false false)).get j = H.t.get j := fun j hj => by rw [getset, if_neg (by omega)]
  have hb7 : (H.t.set (H.next + 7) (.cells (bs (List.replicate 16 0)) 37 false false)).get (H.next + 7) = some (.cells (bs (List.replicate 16 0)) 37 false false) := by rw [getset, if_pos rfl]
  generalize H.t.set (H.next + 7) (.cells (bs (List.replicate 16 0)) 37 false false) = T0 at hb0 hb7 ⊢
  refine WL_call rfl ?_
  simp only [List.map_cons, List.map_nil, List.nil_append, List.append_nil, eX_t, eX_c, put_s, put_n, getset, Nat.reduceEqDiff, if_false, if_true, Option.getD_some]
  refine rkeys_ok hE hx hK ?_
  intro H1 hn1 hk1
  simp only at hn1 hk1
  refine WL_call rfl ?_
  simp only [List.map_cons, List.map_nil, List.nil_append, List.append_nil, eX_t, eX_c, put_s, put_n, getset, Nat.reduceEqDiff, if_false, if_true, Option.getD_some]
  refine of_ok hE hx hS ?_
  intro H2 hn2 hk2
  refine WL_call rfl ?_
  simp only [List.map_cons, List.map_nil, List.nil_append, List.append_nil, eX_t, eX_c, put_s, put_n, getset, Nat.reduceEqDiff, if_false, if_true, Option.getD_some]
  refine renc_ok hE hx hS (length_keysP K) hl ?_
  intro H3 hn3 hk3
  obtain ⟨T3, n3⟩ := H3
  simp only at hn3 hk3
  have h17 : H1.t.get (H.next + 7) = some (.cells (bs (List.replicate 16 0)) 37 false false) := by rw [hk1 _ (by omega)]; exact hb7
  have h27 : H2.t.get (H.next + 7) = some (.cells (bs (List.replicate 16 0)) 37 false false) := by rw [hk2 _ (by omega)]; exact h17
  have h37 : T3.get (H.next + 7) = some (.cells (bs (List.replicate 16 0)) 37 false false) := by rw [hk3 _ (by omega)]; exact h27
  have hB0 : T0.get b = some (.cells (bs boxL) e false false) := by rw [hb0 _ hbn]; exact hb
  have hB1 : H1.t.get b = some (.cells (bs boxL) e false false) := by rw [hk1 _ (by omega)]; exact hB0
  have hB2 : H2.t.get b = some (.cells (bs boxL) e false false) := by rw [hk2 _ (by omega)]; exact hB1
  simp only [l_store, wr0_store, eX_t, eX_c, put_s, put_n, getset, Nat.reduceEqDiff, if_false, if_true, Option.getD_some, wst_agg h37 List.length_replicate hl, Option.some.injEq, Prod.mk.injEq, exists_eq_left', and_assoc, exists_and_left, WL_nil]
  refine ⟨?_, _, _, rfl, ?_⟩
  · simp only [stable_cons, stable_nil, sm_mov, sm_ibin, sm_nilCheck, sm_indexArr, sm_indexSl, sm_indexVal, sm_indexStr, sm_lenStr, sm_lenSl, sm_build, sm_store, sm_call, Bool.true_and, Bool.and_true, Bool.and_eq_true, List.reverse_cons, List.reverse_nil, List.nil_append, List.cons_append, List.drop_zero, List.drop_succ_cons, Nat.sub_zero, Nat.succ_eq_add_one, Nat.zero_add, Nat.reduceAdd, Nat.reduceSub, List.take_succ_cons, List.take_zero, List.take_nil]
    refine ⟨?_, ?_, ?_⟩
    · refine sm_loadN rfl (b := b) (o := 0) (l := bs boxL) (by simp only [eX_t, eX_c, put_s, put_n, getset, Nat.reduceEqDiff, if_false, if_true, Option.getD_some]; rw [h6]; rfl) (by simp only [eX_t, eX_c, put_s, put_n, getset, Nat.reduceEqDiff, if_false, if_true, Option.getD_some]) ?_ (beq_agg boxL)
      intro H' hH'
      simp only [List.mem_cons, List.not_mem_nil, or_false] at hH'
      subst hH'
      exact loadN_bs hB0 length_boxL
    · refine sm_loadN rfl (b := b) (o := 0) (l := bs boxL) (by simp only [eX_t, eX_c, put_s, put_n, getset, Nat.reduceEqDiff, if_false, if_true, Option.getD_some]; rw [h6]; rfl) (by simp only [eX_t, eX_c, put_s, put_n, getset, Nat.reduceEqDiff, if_false, if_true, Option.getD_some]) ?_ (beq_agg boxL)
      intro H' hH'
      simp only [List.mem_cons, List.not_mem_nil, or_false] at hH'
      rcases hH' with rfl | rfl | rfl
      · exact loadN_bs hB0 length_boxL
      · exact loadN_bs hB1 length_boxL
      · exact loadN_bs hB2 length_boxL
    · refine sm_al rfl rfl (x := .cells (bs (List.replicate 16 0)) 37 false false) (f := fun i => .ptr (some (i, 0))) rfl ?_
      intro H' hH'
      simp only [List.mem_cons, List.not_mem_nil, or_false] at hH'
      rcases hH' with rfl | rfl | rfl | rfl
      · exact blkIs_bs hb7
      · exact blkIs_bs h17
      · exact blkIs_bs h27
      · exact blkIs_bs h37
  · refine hQ _ _ (by simp only [eX_t, eX_c, put_s, put_n, getset, Nat.reduceEqDiff, if_false, if_true, Option.getD_some]) (by show H.next ≤ n3; omega) (by rw [getset, if_pos rfl]) fun j hj => ?_
    rw [getset, if_neg (by omega), hk3 _ (by omega), hk2 _ (by omega), hk1 _ (by omega), hb0 _ hj]
end Go.AE
end
-- Contracts of the reference of aes: Block, whole.
section
set_option linter.unusedVariables false
set_option linter.unusedSimpArgs false
set_option maxRecDepth 100000
set_option maxHeartbeats 1000000
namespace Go.AE
variable {E : Env}
attribute [local irreducible] keysP encP

theorem rBlock_ok (hE : ∀ f, E.funcs f = Aes.funcsT.get f) (hx : ∀ f args H, special f = false → E.sums f args H = none) {H : Heap} {K S : List UInt8} {Q : AV → Heap → Prop}
    (hQ : ∀ H', H.next ≤ H'.next → (∀ j, j < H.next → H'.t.get j = H.t.get j) → Q (.tuple [.str (blockP K S).1, nn (blockP K S).2]) H') : WCall E 9 [.str K, .str S] H Q := by
  refine WCall.func (hx 9 _ _ (by decide)) ((hE 9).trans rfl) ?_
  have f0 : (frameOf [.str K, .str S] 0 .nil).get 0 = some (.str K) := rfl
  have f1 : (frameOf [.str K, .str S] 0 .nil).get 1 = some (.str S) := rfl
  generalize frameOf [.str K, .str S] 0 .nil = a at f0 f1
  have e32 : ∀ n : Nat, AV.int .i64 (.ofNat n) = nn n := fun _ => rfl
  refine W.seq (W.region ?_)
  simp only [w_mov, w_ibin, w_load1, w_loadN, w_nilCheck, w_indexArr, w_indexSl, w_indexVal, w_indexStr, w_lenStr, w_lenSl, w_store, w_alloc, w_box, w_build, w_sliceArr, w_bytesToStr, w_pick, WOps_nil, thenQ_normal, eX_t, eX_c, put_s, put_n, getset, Nat.reduceEqDiff, if_false, if_true, Option.getD_some, rd, natOf_nn, natOf_by, Option.some.injEq, exists_eq_left', Prod.mk.injEq, and_assoc, exists_and_left, true_and, Nat.zero_add, Nat.add_zero, Nat.mul_one, ble_t, mul_nn, quo_nn, rem_nn, add_nn, sub_nn, lss_nn, eql_nn, neq_nn, xor_by, k0, k1, k2, k3, k4, k5, k6, k7, k8, k12, k13, k14, k15, k16, k32, k60, k254, k256]
  refine W.seq (W.seq (W.region ?_))
  simp only [w_mov, w_ibin, w_load1, w_loadN, w_nilCheck, w_indexArr, w_indexSl, w_indexVal, w_indexStr, w_lenStr, w_lenSl, w_store, w_alloc, w_box, w_build, w_sliceArr, w_bytesToStr, w_pick, WOps_nil, thenQ_normal, eX_t, eX_c, put_s, put_n, getset, Nat.reduceEqDiff, if_false, if_true, Option.getD_some, rd, natOf_nn, natOf_by, Option.some.injEq, exists_eq_left', Prod.mk.injEq, and_assoc, exists_and_left, true_and, Nat.zero_add, Nat.add_zero, Nat.mul_one, ble_t, mul_nn, quo_nn, rem_nn, add_nn, sub_nn, lss_nn, eql_nn, neq_nn, xor_by, k0, k1, k2, k3, k4, k5, k6, k7, k8, k12, k13, k14, k15, k16, k32, k60, k254, k256, f0, e32]
  refine W.cond (b := decide (K.length ≠ 32)) (by simp only [eX_t, eX_c, put_s, put_n, getset, Nat.reduceEqDiff, if_false, if_true, Option.getD_some]) ?_
  by_cases hK : K.length = 32
  · simp only [hK, ne_eq, not_true_eq_false, decide_false, cond_false]
    refine W.skip ?_
    rw [thenQ_normal]
    refine W.seq (W.seq (W.region ?_))
    simp only [w_mov, w_ibin, w_load1, w_loadN, w_nilCheck, w_indexArr, w_indexSl, w_indexVal, w_indexStr, w_lenStr, w_lenSl, w_store, w_alloc, w_box, w_build, w_sliceArr, w_bytesToStr, w_pick, WOps_nil, thenQ_normal, eX_t, eX_c, put_s, put_n, getset, Nat.reduceEqDiff, if_false, if_true, Option.getD_some, rd, natOf_nn, natOf_by, Option.some.injEq, exists_eq_left', Prod.mk.injEq, and_assoc, exists_and_left, true_and, Nat.zero_add, Nat.add_zero, Nat.mul_one, ble_t, mul_nn, quo_nn, rem_nn, add_nn, sub_nn, lss_nn, eql_nn, neq_nn, xor_by, k0, k1, k2, k3, k4, k5, k6, k7, k8, k12, k13, k14, k15, k16, k32, k60, k254, k256, f1, e32]
    refine W.cond (b := decide (S.length ≠ 16)) (by simp only [eX_t, eX_c, put_s, put_n, getset, Nat.reduceEqDiff, if_false, if_true, Option.getD_some]) ?_
    by_cases hS : S.length = 16
    · simp only [hS, ne_eq, not_true_eq_false, decide_false, cond_false]
      refine W.skip ?_
      simp only [thenQ_normal]
      refine W.seq (W.region ?_)
      refine WOps.call (g := 19) (first := []) (captured := []) rfl ?_
      simp only [List.map_nil, List.nil_append, List.append_nil]
      refine boxes_ok hE hx ?_
      intro H1 hn1 hb1
      have e : ∀ (H : Heap) l, bs (List.replicate 256 0) = l → H.push (.cells l 42 false false) = H.push (.cells (bs (List.replicate 256 0)) 42 false false) := fun H l h => by rw [h]
      rw [w_alloc, e _ _ (by kernel_rfl)]
      have hp := get_push H1 (.cells (bs (List.replicate 256 0)) 42 false false)
      have hpn := next_push H1 (.cells (bs (List.replicate 256 0)) 42 false false)
      generalize H1.push (.cells (bs (List.replicate 256 0)) 42 false false) = H2 at hp hpn ⊢
      obtain ⟨T2, n2⟩ := H2
      simp only at hp hpn
      have hz : T2.get H1.next = some (.cells (bs (List.replicate 256 0)) 42 false false) := by rw [hp, if_pos rfl]
      simp only [w_store, eX_t, eX_c, put_s, put_n, getset, Nat.reduceEqDiff, if_false, if_true, Option.getD_some, wst_agg hz List.length_replicate length_boxL, Option.some.injEq, Prod.mk.injEq, exists_eq_left', and_assoc, exists_and_left, WOps_nil, thenQ_normal]
      refine W.seq (rb_d hE hx (K := K) (S := S) (b := H1.next) (e := 42) (by simp only [eX_t, eX_c, put_s, put_n, getset, Nat.reduceEqDiff, if_false, if_true, Option.getD_some]; exact f0) (by simp only [eX_t, eX_c, put_s, put_n, getset, Nat.reduceEqDiff, if_false, if_true, Option.getD_some]; exact f1) (by simp only [eX_t, eX_c, put_s, put_n, getset, Nat.reduceEqDiff, if_false, if_true, Option.getD_some]) (by show H1.next < n2; omega) hK hS (by simp only [eX_t, eX_c, put_s, put_n, getset, Nat.reduceEqDiff, if_false, if_true, Option.getD_some]) ?_)
      intro a' H' h7 hn hb hfr
      obtain ⟨T3, n3⟩ := H'
      simp only [getset] at hn hb hfr h7
      rw [thenQ_normal]
      have hl := length_encP (C := keysP K) hS
      refine W.seq (W.region ?_)
      rw [w_sliceArr]
      refine ⟨.slice (some (n2 + 7, 0)) 16 (.known 16), by simp only [rd, eX_t, eX_c, put_s, put_n, getset, Nat.reduceEqDiff, if_false, if_true, Option.getD_some, h7]; rfl, ?_⟩
      rw [w_bytesToStr]
      refine ⟨.str (encP (keysP K) S), ?_, ?_⟩
      · simp only [rd, eX_t, eX_c, put_s, put_n, getset, Nat.reduceEqDiff, if_false, if_true, Option.getD_some]
        rw [show Heap.loadN ⟨T3, n3⟩ (n2 + 7) 0 (15 + 1) = some (bs (encP (keysP K) S)) from loadN_bs hb hl]
        simp only [bytesOf_bs]
      · simp only [w_mov, w_ibin, w_load1, w_loadN, w_nilCheck, w_indexArr, w_indexSl, w_indexVal, w_indexStr, w_lenStr, w_lenSl, w_store, w_alloc, w_box, w_build, w_sliceArr, w_bytesToStr, w_pick, WOps_nil, thenQ_normal, eX_t, eX_c, put_s, put_n, getset, Nat.reduceEqDiff, if_false, if_true, Option.getD_some, rd, natOf_nn, natOf_by, Option.some.injEq, exists_eq_left', Prod.mk.injEq, and_assoc, exists_and_left, true_and, Nat.zero_add, Nat.add_zero, Nat.mul_one, ble_t, mul_nn, quo_nn, rem_nn, add_nn, sub_nn, lss_nn, eql_nn, neq_nn, xor_by, k0, k1, k2, k3, k4, k5, k6, k7, k8, k12, k13, k14, k15, k16, k32, k60, k254, k256]
        refine W.ret ⟨.inr rfl, ?_⟩
        simp only [resultsOf, resOf, eX_t, eX_c, put_s, put_n, getset, Nat.reduceEqDiff, if_false, if_true, Option.getD_some, Option.some.injEq, exists_eq_left', oneOf]
        have := hQ ⟨T3, n3⟩ (by show H.next ≤ n3; omega) fun j hj => by rw [hfr _ (by omega), if_neg (by omega), hp, if_neg (by omega), hb1 _ hj]
        simp only [blockP, hK, hS, ne_eq, not_true_eq_false, if_false] at this
        exact this
    · simp only [hS, ne_eq, not_false_eq_true, decide_true, cond_true]
      refine W.seq (W.region ?_)
      simp only [w_mov, w_ibin, w_load1, w_loadN, w_nilCheck, w_indexArr, w_indexSl, w_indexVal, w_indexStr, w_lenStr, w_lenSl, w_store, w_alloc, w_box, w_build, w_sliceArr, w_bytesToStr, w_pick, WOps_nil, thenQ_normal, eX_t, eX_c, put_s, put_n, getset, Nat.reduceEqDiff, if_false, if_true, Option.getD_some, rd, natOf_nn, natOf_by, Option.some.injEq, exists_eq_left', Prod.mk.injEq, and_assoc, exists_and_left, true_and, Nat.zero_add, Nat.add_zero, Nat.mul_one, ble_t, mul_nn, quo_nn, rem_nn, add_nn, sub_nn, lss_nn, eql_nn, neq_nn, xor_by, k0, k1, k2, k3, k4, k5, k6, k7, k8, k12, k13, k14, k15, k16, k32, k60, k254, k256]
      refine W.ret ?_
      simp only [thenQ_ret]
      refine ⟨.inr rfl, ?_⟩
      simp only [resultsOf, resOf, eX_t, eX_c, put_s, put_n, getset, Nat.reduceEqDiff, if_false, if_true, Option.getD_some, Option.some.injEq, exists_eq_left', oneOf]
      have := hQ H (Nat.le_refl _) fun _ _ => rfl
      simp only [blockP, hK, hS, ne_eq, not_true_eq_false, not_false_eq_true, if_false, if_true] at this
      exact this
  · simp only [hK, ne_eq, not_false_eq_true, decide_true, cond_true]
    refine W.seq (W.region ?_)
    simp only [w_mov, w_ibin, w_load1, w_loadN, w_nilCheck, w_indexArr, w_indexSl, w_indexVal, w_indexStr, w_lenStr, w_lenSl, w_store, w_alloc, w_box, w_build, w_sliceArr, w_bytesToStr, w_pick, WOps_nil, thenQ_normal, eX_t, eX_c, put_s, put_n, getset, Nat.reduceEqDiff, if_false, if_true, Option.getD_some, rd, natOf_nn, natOf_by, Option.some.injEq, exists_eq_left', Prod.mk.injEq, and_assoc, exists_and_left, true_and, Nat.zero_add, Nat.add_zero, Nat.mul_one, ble_t, mul_nn, quo_nn, rem_nn, add_nn, sub_nn, lss_nn, eql_nn, neq_nn, xor_by, k0, k1, k2, k3, k4, k5, k6, k7, k8, k12, k13, k14, k15, k16, k32, k60, k254, k256]
    refine W.ret ?_
    simp only [thenQ_ret]
    refine ⟨.inr rfl, ?_⟩
    simp only [resultsOf, resOf, eX_t, eX_c, put_s, put_n, getset, Nat.reduceEqDiff, if_false, if_true, Option.getD_some, Option.some.injEq, exists_eq_left', oneOf]
    have := hQ H (Nat.le_refl _) fun _ _ => rfl
    simp only [blockP, hK, ne_eq, not_false_eq_true, if_true] at this
    exact this
end Go.AE
end
-- Operations that are wanted under a condition.
section
set_option linter.unusedVariables false
set_option linter.unusedSimpArgs false
namespace Go.AE
variable {E : Env}

theorem WOps_want {all os : List AOper} {dst : Option Nat} {op : AOp} {g : Option (Nat × Bool)} {a : Frm} {H : Heap} {Q : Frm → Heap → Prop} (hw : wantedA all a g = true) (h : WOps E all (⟨dst, op, none⟩ :: os) a H Q) : WOps E all (⟨dst, op, g⟩ :: os) a H Q := by
  obtain ⟨n, a', H', h, q⟩ := h
  refine ⟨n, a', H', fun m hm => ?_, q⟩
  have := h m hm
  rw [runOps_cons] at this ⊢
  simp only [hw, cond_true]
  simp only [wantedA, cond_true] at this
  exact this

theorem WOps_skip {all os : List AOper} {dst : Option Nat} {op : AOp} {g : Option (Nat × Bool)} {a : Frm} {H : Heap} {Q : Frm → Heap → Prop} (hw : wantedA all a g = false) (h : WOps E all os (put a dst aundef) H Q) : WOps E all (⟨dst, op, g⟩ :: os) a H Q := by
  obtain ⟨n, a', H', h, q⟩ := h
  refine ⟨n, a', H', fun m hm => ?_, q⟩
  have := h m hm
  rw [runOps_cons]
  simp only [cond_false, hw]
  exact this
end Go.AE
end
-- Plain laws: no two blocks are enciphered to one.
section
set_option linter.unusedVariables false
set_option linter.unusedSimpArgs false
set_option maxRecDepth 100000
namespace Go.AE

def invL : List UInt8 := [82, 9, 106, 213, 48, 54, 165, 56, 191, 64, 163, 158, 129, 243, 215, 251, 124, 227, 57, 130, 155, 47, 255, 135, 52, 142, 67, 68, 196, 222, 233, 203, 84, 123, 148, 50, 166, 194, 35, 61, 238, 76, 149, 11, 66, 250, 195, 78, 8, 46, 161, 102, 40, 217, 36, 178, 118, 91, 162, 73, 109, 139, 209, 37, 114, 248, 246, 100, 134, 104, 152, 22, 212, 164, 92, 204, 93, 101, 182, 146, 108, 112, 72, 80, 253, 237, 185, 218, 94, 21, 70, 87, 167, 141, 157, 132, 144, 216, 171, 0, 140, 188, 211, 10, 247, 228, 88, 5, 184, 179, 69, 6, 208, 44, 30, 143, 202, 63, 15, 2, 193, 175, 189, 3, 1, 19, 138, 107, 58, 145, 17, 65, 79, 103, 220, 234, 151, 242, 207, 206, 240, 180, 230, 115, 150, 172, 116, 34, 231, 173, 53, 133, 226, 249, 55, 232, 28, 117, 223, 110, 71, 241, 26, 113, 29, 41, 197, 137, 111, 183, 98, 14, 170, 24, 190, 27, 252, 86, 62, 75, 198, 210, 121, 32, 154, 219, 192, 254, 120, 205, 90, 244, 31, 221, 168, 51, 136, 7, 199, 49, 177, 18, 16, 89, 39, 128, 236, 95, 96, 81, 127, 169, 25, 181, 74, 13, 45, 229, 122, 159, 147, 201, 156, 239, 160, 224, 59, 77, 174, 42, 245, 176, 200, 235, 187, 60, 131, 83, 153, 97, 23, 43, 4, 126, 186, 119, 214, 38, 225, 105, 20, 99, 85, 33, 12, 125]

theorem box_inv_all : (List.range 256).all (fun n => (invL.getD (boxL.getD n 0).toNat 0).toNat == n) = true := by kernel_rfl

theorem box_inj {a b : UInt8} (h : boxL.getD a.toNat 0 = boxL.getD b.toNat 0) : a = b := by
  have k : ∀ x : UInt8, (invL.getD (boxL.getD x.toNat 0).toNat 0).toNat = x.toNat := fun x => by
    have := List.all_eq_true.mp box_inv_all x.toNat (by simp only [List.mem_range]; exact x.toNat_lt)
    simpa using this
  have := k a
  rw [h, k b] at this
  exact UInt8.toNat_inj.mp this.symm

theorem xor_canc (a b : UInt8) : a ^^^ (a ^^^ b) = b := by rw [← UInt8.xor_assoc, UInt8.xor_self, UInt8.zero_xor]
theorem xor_lc (a b c : UInt8) : a ^^^ (b ^^^ c) = b ^^^ (a ^^^ c) := by rw [← UInt8.xor_assoc, ← UInt8.xor_assoc, UInt8.xor_comm a b]
theorem xor_left_inj {a b c : UInt8} (h : a ^^^ c = b ^^^ c) : a = b := by
  have := congrArg (c ^^^ ·) h
  simpa only [UInt8.xor_comm _ c, xor_canc] using this

theorem getD_ext {S T : List UInt8} (h : S.length = T.length) (k : ∀ j, j < S.length → S.getD j 0 = T.getD j 0) : S = T := by
  refine List.ext_getElem h fun i h1 h2 => ?_
  have := k i h1
  simpa only [List.getD_eq_getElem?_getD, List.getElem?_eq_getElem h1, List.getElem?_eq_getElem h2, Option.getD_some] using this

theorem addK_getD (S C : List UInt8) (r : Nat) : ∀ i, i ≤ S.length → ∀ j, (addK S C r i).getD j 0 = if j < i then S.getD j 0 ^^^ C.getD (16 * r + j) 0 else S.getD j 0
  | 0, _, j => by rw [addK, if_neg (by omega)]
  | i + 1, h, j => by
    rw [addK]
    by_cases e : i = j
    · subst e
      rw [getD_set_eq (by rw [length_addK]; omega), if_pos (by omega), addK_getD S C r i (by omega), if_neg (by omega)]
    · rw [getD_set_ne e, addK_getD S C r i (by omega)]
      by_cases l : j < i
      · rw [if_pos l, if_pos (by omega)]
      · rw [if_neg l, if_neg (by omega)]

theorem addK_inj {S T C : List UInt8} {r : Nat} (hS : S.length = 16) (hT : T.length = 16) (h : addK S C r 16 = addK T C r 16) : S = T := by
  refine getD_ext (by omega) fun j hj => ?_
  have := congrArg (fun l => l.getD j 0) h
  simp only [addK_getD S C r 16 (by omega), addK_getD T C r 16 (by omega), if_pos (show j < 16 by omega)] at this
  exact xor_left_inj this

theorem subK_getD (S : List UInt8) : ∀ i, i ≤ 16 → ∀ j, j < i → (subK S i).getD j 0 = boxL.getD (S.getD ((j + 4 * (j % 4)) % 16) 0).toNat 0
  | 0, _, j, h => absurd h (by omega)
  | i + 1, h, j, hj => by
    rw [subK]
    by_cases e : i = j
    · subst e
      rw [getD_set_eq (by rw [length_subK]; omega)]
    · rw [getD_set_ne e, subK_getD S i (by omega) j (by omega)]

theorem sub_inj {S T : List UInt8} (hS : S.length = 16) (hT : T.length = 16) (h : subK S 16 = subK T 16) : S = T := by
  refine getD_ext (by omega) fun j hj => ?_
  have k : ∀ i, i < 16 → S.getD ((i + 4 * (i % 4)) % 16) 0 = T.getD ((i + 4 * (i % 4)) % 16) 0 := fun i hi => by
    have := congrArg (fun l => l.getD i 0) h
    simp only [subK_getD _ 16 (by omega) i hi] at this
    exact box_inj this
  have := k ((j + 12 * (j % 4)) % 16) (by omega)
  rwa [show ((j + 12 * (j % 4)) % 16 + 4 * ((j + 12 * (j % 4)) % 16 % 4)) % 16 = j by omega] at this

theorem rmK_getD (T X : List UInt8) (o : Nat) : ∀ r, o + r ≤ T.length → ∀ j, (rmK T X o r).getD j 0 = if o ≤ j ∧ j < o + r then mx X (j - o) else T.getD j 0
  | 0, _, j => by rw [rmK, if_neg (by omega)]
  | r + 1, h, j => by
    rw [rmK]
    by_cases e : o + r = j
    · subst e
      rw [getD_set_eq (by rw [length_rmK]; omega), if_pos (by omega), show o + r - o = r by omega]
    · rw [getD_set_ne e, rmK_getD T X o r (by omega)]
      by_cases l : o ≤ j ∧ j < o + r
      · rw [if_pos l, if_pos (by omega)]
      · rw [if_neg l, if_neg (by omega)]

/-- one byte of a mixed column -/
def mc (a b c d : UInt8) : UInt8 := tw a ^^^ (tw b ^^^ b) ^^^ c ^^^ d

theorem mx_4 (a b c d : UInt8) : mx [a, b, c, d] 0 = mc a b c d ∧ mx [a, b, c, d] 1 = mc b c d a ∧ mx [a, b, c, d] 2 = mc c d a b ∧ mx [a, b, c, d] 3 = mc d a b c := ⟨rfl, rfl, rfl, rfl⟩

theorem mc2 (a b c d : UInt8) : mc (mc a b c d) (mc b c d a) (mc c d a b) (mc d a b c) = tw (tw a) ^^^ (a ^^^ tw (tw c)) := by
  simp only [mc, tw_xor, UInt8.xor_assoc]
  simp only [UInt8.xor_assoc, UInt8.xor_comm, xor_lc, xor_canc, UInt8.xor_self, UInt8.xor_zero, UInt8.zero_xor]

theorem mc_inj {a b c d a' b' c' d' : UInt8} (h0 : mc a b c d = mc a' b' c' d') (h1 : mc b c d a = mc b' c' d' a') (h2 : mc c d a b = mc c' d' a' b') (h3 : mc d a b c = mc d' a' b' c') : a = a' := by
  have k0 : tw (tw a) ^^^ (a ^^^ tw (tw c)) = tw (tw a') ^^^ (a' ^^^ tw (tw c')) := by rw [← mc2 a b c d, ← mc2 a' b' c' d', h0, h1, h2, h3]
  have k2 : tw (tw c) ^^^ (c ^^^ tw (tw a)) = tw (tw c') ^^^ (c' ^^^ tw (tw a')) := by rw [← mc2 c d a b, ← mc2 c' d' a' b', h0, h1, h2, h3]
  have e : ∀ a c : UInt8, tw (tw (tw (tw a) ^^^ (a ^^^ tw (tw c)))) ^^^ ((tw (tw a) ^^^ (a ^^^ tw (tw c))) ^^^ tw (tw (tw (tw c) ^^^ (c ^^^ tw (tw a))))) = a := fun a c => by
    simp only [tw_xor, UInt8.xor_assoc]
    simp only [UInt8.xor_assoc, UInt8.xor_comm, xor_lc, xor_canc, UInt8.xor_self, UInt8.xor_zero, UInt8.zero_xor]
  rw [← e a c, ← e a' c', k0, k2]

theorem mixP_inj {S T : List UInt8} {o : Nat} (hl : S.length = T.length) (ho : o + 4 ≤ S.length) (h : mixP S o = mixP T o) : S = T := by
  rw [mixP_eq ho, mixP_eq (by omega)] at h
  have k : ∀ j, _ := fun j => congrArg (fun l => l.getD j 0) h
  simp only [rmK_getD S _ o 4 ho, rmK_getD T _ o 4 (show o + 4 ≤ T.length by omega)] at k
  have k0 := k o
  have k1 := k (o + 1)
  have k2 := k (o + 2)
  have k3 := k (o + 3)
  rw [if_pos (by omega), if_pos (by omega)] at k0 k1 k2 k3
  rw [Nat.sub_self, (mx_4 _ _ _ _).1, (mx_4 _ _ _ _).1] at k0
  rw [Nat.add_sub_cancel_left, (mx_4 _ _ _ _).2.1, (mx_4 _ _ _ _).2.1] at k1
  rw [Nat.add_sub_cancel_left, (mx_4 _ _ _ _).2.2.1, (mx_4 _ _ _ _).2.2.1] at k2
  rw [Nat.add_sub_cancel_left, (mx_4 _ _ _ _).2.2.2, (mx_4 _ _ _ _).2.2.2] at k3
  refine getD_ext hl fun j hj => ?_
  by_cases e : o ≤ j ∧ j < o + 4
  · have : j = o ∨ j = o + 1 ∨ j = o + 2 ∨ j = o + 3 := by omega
    rcases this with rfl | rfl | rfl | rfl
    · exact mc_inj k0 k1 k2 k3
    · exact mc_inj k1 k2 k3 k0
    · exact mc_inj k2 k3 k0 k1
    · exact mc_inj k3 k0 k1 k2
  · have := k j
    rwa [if_neg e, if_neg e] at this

theorem mixN_inj {S T : List UInt8} (hS : S.length = 16) (hT : T.length = 16) : ∀ n, n ≤ 4 → mixN S n = mixN T n → S = T
  | 0, _, h => h
  | n + 1, hn, h => mixN_inj hS hT n (by omega) (mixP_inj (by rw [length_mixN, length_mixN]; omega) (by rw [length_mixN]; omega) h)

theorem roundP_inj {C S T : List UInt8} {r : Nat} (hS : S.length = 16) (hT : T.length = 16) (h : roundP C S r = roundP C T r) : S = T := by
  unfold roundP at h
  cases hd : decide (r < 13) with
  | true =>
    rw [hd, cond_true, cond_true] at h
    exact sub_inj hS hT (mixN_inj (length_subK _ _) (length_subK _ _) 4 (by omega) (addK_inj (by rw [length_mixN, length_subK]) (by rw [length_mixN, length_subK]) h))
  | false =>
    rw [hd, cond_false, cond_false] at h
    exact sub_inj hS hT (addK_inj (length_subK _ _) (length_subK _ _) h)

theorem roundsP_inj {C S T : List UInt8} (hS : S.length = 16) (hT : T.length = 16) : ∀ r, roundsP C S r = roundsP C T r → S = T
  | 0, h => addK_inj hS hT h
  | r + 1, h => roundsP_inj hS hT r (roundP_inj (length_roundsP hS r) (length_roundsP hT r) h)

theorem encP_inj {C S T : List UInt8} (hS : S.length = 16) (hT : T.length = 16) (h : encP C S = encP C T) : S = T := roundsP_inj hS hT 14 h

end Go.AE
end
-- More operations: least, cut texts, new slices; the function that brings a text to its length.
section
set_option linter.unusedVariables false
set_option linter.unusedSimpArgs false
set_option maxRecDepth 100000
set_option maxHeartbeats 1000000
namespace Go.AE
variable {E : Env}

theorem w_minI {all os : List AOper} {dst : Option Nat} {xs : List AX} {a : Frm} {H : Heap} {Q : Frm → Heap → Prop} :
    WOps E all (⟨dst, .minI xs, none⟩ :: os) a H Q ↔ ∃ v, rd (.minI xs) a H = some v ∧ WOps E all os (put a dst v) H Q := WOps_rd rfl
theorem w_sliceStr {all os : List AOper} {dst : Option Nat} {x : AX} {l h : Option AX} {a : Frm} {H : Heap} {Q : Frm → Heap → Prop} :
    WOps E all (⟨dst, .sliceStr x l h, none⟩ :: os) a H Q ↔ ∃ v, rd (.sliceStr x l h) a H = some v ∧ WOps E all os (put a dst v) H Q := WOps_rd rfl
theorem w_sliceSl {all os : List AOper} {dst : Option Nat} {s : Nat} {x : AX} {l h m : Option AX} {a : Frm} {H : Heap} {Q : Frm → Heap → Prop} :
    WOps E all (⟨dst, .sliceSl s x l h m, none⟩ :: os) a H Q ↔ ∃ v, rd (.sliceSl s x l h m) a H = some v ∧ WOps E all os (put a dst v) H Q := WOps_rd rfl
theorem w_convI {all os : List AOper} {dst : Option Nat} {k : IntKind} {x : AX} {a : Frm} {H : Heap} {Q : Frm → Heap → Prop} :
    WOps E all (⟨dst, .convInt k x, none⟩ :: os) a H Q ↔ ∃ v, rd (.convInt k x) a H = some v ∧ WOps E all os (put a dst v) H Q := WOps_rd rfl
theorem w_eqv {all os : List AOper} {dst : Option Nat} {n : Bool} {k : EqKind} {x y : AX} {a : Frm} {H : Heap} {Q : Frm → Heap → Prop} :
    WOps E all (⟨dst, .eqv n k x y, none⟩ :: os) a H Q ↔ ∃ v, rd (.eqv n k x y) a H = some v ∧ WOps E all os (put a dst v) H Q := WOps_rd rfl
theorem w_extract {all os : List AOper} {dst : Option Nat} {i : Nat} {x : AX} {a : Frm} {H : Heap} {Q : Frm → Heap → Prop} :
    WOps E all (⟨dst, .extract i x, none⟩ :: os) a H Q ↔ ∃ v, rd (.extract i x) a H = some v ∧ WOps E all os (put a dst v) H Q := WOps_rd rfl
theorem w_sbin {all os : List AOper} {dst : Option Nat} {o : BinOp} {x y : AX} {a : Frm} {H : Heap} {Q : Frm → Heap → Prop} :
    WOps E all (⟨dst, .sbin o x y, none⟩ :: os) a H Q ↔ ∃ v, sbin o (evalX a x) (evalX a y) = some v ∧ WOps E all os (put a dst v) H Q := WOps_rd rfl
theorem wantedA_some {ops : List AOper} {a : Frm} {j d : Nat} {want b : Bool} (h : dstOf ops j = some d) (hb : a.get d = some (.bool b)) : wantedA ops a (some (j, want)) = (b == want) := by
  simp only [wantedA, h, hb]
theorem sbin_eql (x y : List UInt8) : sbin .eql (.str x) (.str y) = some (.bool (x == y)) := by simp only [sbin, beqBytes_eq]
theorem sbin_neq (x y : List UInt8) : sbin .neq (.str x) (.str y) = some (.bool !(x == y)) := by simp only [sbin, beqBytes_eq]
theorem sbin_add {x y : List UInt8} (h : x.length + y.length ≤ 9223372036854775807) : sbin .add (.str x) (.str y) = some (.str (x ++ y)) := by
  simp only [sbin, (Nat.ble_eq.mpr h), cond_true]
theorem WCall.told {f : Nat} {args : List AV} {H H' : Heap} {v : AV} {Q : AV → Heap → Prop} (h : E.sums f args H = some (v, H')) (q : Q v H') : WCall E f args H Q :=
  ⟨0, v, H', fun m _ => by rw [acall_run]; simp only [h], q⟩

theorem min_nn (a b : Nat) : minI2 (nn a) [nn b] = some (nn (min a b)) := by
  simp only [nn, minI2, fits.Int.ble']
  cases h : Nat.ble a b with
  | true => rw [Nat.ble_eq] at h; simp only [cond_true, Nat.min_eq_left h]
  | false =>
    have : ¬ a ≤ b := fun h' => by rw [← Nat.ble_eq, h] at h'; exact nomatch h'
    simp only [cond_false, Nat.min_eq_right (show b ≤ a by omega)]

theorem bounds_hi {a : Frm} {x : AX} {len cap h : Nat} (hx : evalX a x = nn h) (hc : h ≤ cap) : bounds a len cap none (some x) none = some (0, h, cap) := by
  delta bounds
  simp only [bound, hx, natOf_nn, Nat.ble_eq.mpr hc, cond_true]
theorem bounds_lo {a : Frm} {x : AX} {len cap l : Nat} (hx : evalX a x = nn l) (hl : l ≤ len) : bounds a len cap (some x) none none = some (l, len, cap) := by
  delta bounds
  simp only [bound, hx, natOf_nn, Nat.ble_eq.mpr hl, cond_true]
theorem bounds_lh {a : Frm} {x y : AX} {len cap l h : Nat} (hx : evalX a x = nn l) (hy : evalX a y = nn h) (hl : l ≤ h) (hc : h ≤ cap) : bounds a len cap (some x) (some y) none = some (l, h, cap) := by
  delta bounds
  simp only [bound, hx, hy, natOf_nn, Nat.ble_eq.mpr hl, Nat.ble_eq.mpr hc, cond_true]

theorem repl_zero : ∀ n, repl n [AV.int .u8 0] = bs (List.replicate n 0)
  | 0 => rfl
  | n + 1 => by rw [repl, repl_zero n, List.replicate_succ]; rfl

theorem w_makeBytes {all os : List AOper} {dst : Option Nat} {e : TypeId} {x y : AX} {a : Frm} {H : Heap} {Q : Frm → Heap → Prop} {n : Nat} (hx : evalX a x = nn n) (hy : evalX a y = nn n) (hn : n ≤ 281474976710656)
    (h : WOps E all os (put a dst (.slice (some (H.next, 0)) n (.known n))) (H.push (.cells (bs (List.replicate n 0)) e false false)) Q) : WOps E all (⟨dst, .makeSlice e 1 [.int .u8 0] x y, none⟩ :: os) a H Q := by
  rw [WOps_al rfl]
  have e1 : Nat.ble (n * 1) 281474976710656 = true := by rw [Nat.ble_eq]; omega
  have e2 : Nat.ble n 9223372036854775807 = true := by rw [Nat.ble_eq]; omega
  refine ⟨.cells (bs (List.replicate n 0)) e false false, fun i => .slice (some (i, 0)) n (.known n), ?_, h⟩
  simp only [al, hx, hy, natOf_nn, Nat.ble_eq.mpr (Nat.le_refl n), e1, e2, Bool.and_self, cond_true, repl_zero]

/-- a text brought to a length -/
def broughtP (S : List UInt8) (n : Nat) : List UInt8 := S.take n ++ List.replicate (n - S.length) 0
theorem length_broughtP (S : List UInt8) (n : Nat) : (broughtP S n).length = n := by
  simp only [broughtP, List.length_append, List.length_take, List.length_replicate]; omega

theorem brought_ok (hE : ∀ f, E.funcs f = Aes.funcsT.get f) (hx : ∀ f args H, special f = false → E.sums f args H = none) {H : Heap} {S : List UInt8} {n : Nat} (hn : n < 1000000) {Q : AV → Heap → Prop}
    (hQ : ∀ H', H.next ≤ H'.next → (∀ j, j < H.next → H'.t.get j = H.t.get j) → Q (.str (broughtP S n)) H') : WCall E 11 [.str S, nn n] H Q := by
  refine WCall.func (hx 11 _ _ (by decide)) ((hE 11).trans rfl) ?_
  have f0 : (frameOf [.str S, nn n] 0 .nil).get 0 = some (.str S) := rfl
  have f1 : (frameOf [.str S, nn n] 0 .nil).get 1 = some (nn n) := rfl
  generalize frameOf [.str S, nn n] 0 .nil = a at f0 f1
  have e32 : ∀ n : Nat, AV.int .i64 (.ofNat n) = nn n := fun _ => rfl
  refine W.seq (W.region ?_)
  simp only [w_mov, w_ibin, w_load1, w_loadN, w_nilCheck, w_indexArr, w_indexSl, w_indexVal, w_indexStr, w_lenStr, w_lenSl, w_store, w_alloc, w_box, w_build, w_sliceArr, w_bytesToStr, w_pick, WOps_nil, thenQ_normal, eX_t, eX_c, put_s, put_n, getset, Nat.reduceEqDiff, if_false, if_true, Option.getD_some, rd, natOf_nn, natOf_by, Option.some.injEq, exists_eq_left', Prod.mk.injEq, and_assoc, exists_and_left, true_and, Nat.zero_add, Nat.add_zero, Nat.mul_one, ble_t, mul_nn, quo_nn, rem_nn, add_nn, sub_nn, lss_nn, eql_nn, neq_nn, xor_by, k0, k1, k2, k3, k4, k5, k6, k7, k8, k12, k13, k14, k15, k16, k32, k60, k254, k256]
  refine W.seq (W.region ?_)
  simp only [w_mov, w_ibin, w_load1, w_loadN, w_nilCheck, w_indexArr, w_indexSl, w_indexVal, w_indexStr, w_lenStr, w_lenSl, w_store, w_alloc, w_box, w_build, w_sliceArr, w_bytesToStr, w_pick, WOps_nil, thenQ_normal, eX_t, eX_c, put_s, put_n, getset, Nat.reduceEqDiff, if_false, if_true, Option.getD_some, rd, natOf_nn, natOf_by, Option.some.injEq, exists_eq_left', Prod.mk.injEq, and_assoc, exists_and_left, true_and, Nat.zero_add, Nat.add_zero, Nat.mul_one, ble_t, mul_nn, quo_nn, rem_nn, add_nn, sub_nn, lss_nn, eql_nn, neq_nn, xor_by, k0, k1, k2, k3, k4, k5, k6, k7, k8, k12, k13, k14, k15, k16, k32, k60, k254, k256, w_minI, f0, f1, e32, List.map_cons, List.map_nil, min_nn]
  rw [w_sliceStr]
  refine ⟨.str (S.take (min S.length n)), ?_, ?_⟩
  · simp only [rd, eX_t, eX_c, put_s, put_n, getset, Nat.reduceEqDiff, if_false, if_true, Option.getD_some]
    rw [bounds_hi (h := min S.length n) (by simp only [eX_t, eX_c, put_s, put_n, getset, Nat.reduceEqDiff, if_false, if_true, Option.getD_some]) (by omega)]
    rfl
  simp only [w_mov, w_ibin, w_load1, w_loadN, w_nilCheck, w_indexArr, w_indexSl, w_indexVal, w_indexStr, w_lenStr, w_lenSl, w_store, w_alloc, w_box, w_build, w_sliceArr, w_bytesToStr, w_pick, WOps_nil, thenQ_normal, eX_t, eX_c, put_s, put_n, getset, Nat.reduceEqDiff, if_false, if_true, Option.getD_some, rd, natOf_nn, natOf_by, Option.some.injEq, exists_eq_left', Prod.mk.injEq, and_assoc, exists_and_left, true_and, Nat.zero_add, Nat.add_zero, Nat.mul_one, ble_t, mul_nn, quo_nn, rem_nn, add_nn, sub_nn, lss_nn, eql_nn, neq_nn, xor_by, k0, k1, k2, k3, k4, k5, k6, k7, k8, k12, k13, k14, k15, k16, k32, k60, k254, k256]
  refine W.seq (W.region ?_)
  have hl : (S.take (min S.length n)).length = min S.length n := by rw [List.length_take]; omega
  simp only [w_mov, w_ibin, w_load1, w_loadN, w_nilCheck, w_indexArr, w_indexSl, w_indexVal, w_indexStr, w_lenStr, w_lenSl, w_store, w_alloc, w_box, w_build, w_sliceArr, w_bytesToStr, w_pick, WOps_nil, thenQ_normal, eX_t, eX_c, put_s, put_n, getset, Nat.reduceEqDiff, if_false, if_true, Option.getD_some, rd, natOf_nn, natOf_by, Option.some.injEq, exists_eq_left', Prod.mk.injEq, and_assoc, exists_and_left, true_and, Nat.zero_add, Nat.add_zero, Nat.mul_one, ble_t, mul_nn, quo_nn, rem_nn, add_nn, sub_nn, lss_nn, eql_nn, neq_nn, xor_by, k0, k1, k2, k3, k4, k5, k6, k7, k8, k12, k13, k14, k15, k16, k32, k60, k254, k256, f1, e32, hl]
  rw [sub_nn (by omega) (by omega)]
  simp only [rd, natOf_nn, natOf_by, Option.some.injEq, exists_eq_left', Prod.mk.injEq, and_assoc, exists_and_left, true_and, Nat.zero_add, Nat.add_zero, Nat.mul_one, ble_t]
  refine w_makeBytes (n := n - min S.length n) (by simp only [eX_t, eX_c, put_s, put_n, getset, Nat.reduceEqDiff, if_false, if_true, Option.getD_some]) (by simp only [eX_t, eX_c, put_s, put_n, getset, Nat.reduceEqDiff, if_false, if_true, Option.getD_some]) (by omega) ?_
  have hp := get_push H (.cells (bs (List.replicate (n - min S.length n) 0)) 5 false false)
  have hpn := next_push H (.cells (bs (List.replicate (n - min S.length n) 0)) 5 false false)
  generalize H.push (.cells (bs (List.replicate (n - min S.length n) 0)) 5 false false) = H1 at hp hpn ⊢
  obtain ⟨T1, n1⟩ := H1
  simp only at hp hpn
  rw [w_bytesToStr]
  refine ⟨.str (List.replicate (n - min S.length n) 0), ?_, ?_⟩
  · simp only [rd, eX_t, eX_c, put_s, put_n, getset, Nat.reduceEqDiff, if_false, if_true, Option.getD_some]
    cases hm : n - min S.length n with
    | zero => rfl
    | succ k =>
      rw [hm] at hp
      have e := loadN_bs (T0 := T1) (nx := n1) (b := H.next) (n := k + 1) (S := List.replicate (k + 1) 0) (by rw [hp, if_pos rfl]) List.length_replicate
      simp only [e, bytesOf_bs]
  simp only [w_mov, w_ibin, w_load1, w_loadN, w_nilCheck, w_indexArr, w_indexSl, w_indexVal, w_indexStr, w_lenStr, w_lenSl, w_store, w_alloc, w_box, w_build, w_sliceArr, w_bytesToStr, w_pick, WOps_nil, thenQ_normal, eX_t, eX_c, put_s, put_n, getset, Nat.reduceEqDiff, if_false, if_true, Option.getD_some, rd, natOf_nn, natOf_by, Option.some.injEq, exists_eq_left', Prod.mk.injEq, and_assoc, exists_and_left, true_and, Nat.zero_add, Nat.add_zero, Nat.mul_one, ble_t, mul_nn, quo_nn, rem_nn, add_nn, sub_nn, lss_nn, eql_nn, neq_nn, xor_by, k0, k1, k2, k3, k4, k5, k6, k7, k8, k12, k13, k14, k15, k16, k32, k60, k254, k256, w_sbin, f0]
  refine ⟨.str (broughtP S n), ?_, ?_⟩
  · rw [sbin_add (by rw [hl, List.length_replicate]; omega)]
    congr 2
    simp only [broughtP]
    congr 1
    · rw [List.take_eq_take_iff]; omega
    · congr 1; omega
  refine W.ret ⟨.inr rfl, ?_⟩
  simp only [resultsOf, resOf, eX_t, eX_c, put_s, put_n, getset, Nat.reduceEqDiff, if_false, if_true, Option.getD_some, Option.some.injEq, exists_eq_left', oneOf]
  exact hQ _ (by simp only; omega) fun j hj => by rw [hp, if_neg (by omega)]
end Go.AE
end
-- Calls that are told, not run: strings.IndexByte; closed calls.
section
set_option linter.unusedVariables false
set_option maxRecDepth 100000
namespace Go.AE
open Go.Proofs

def sum29 : CallF := fun f args H => match f, args with
  | 29, [.str s, .int .u8 c] => some (.int .i64 (Lib.indexByte s c.toNat.toUInt8), H)
  | _, _ => none

theorem sum29_ok : CallOk Try.prog sum29 := by
  intro f args H v H' h
  unfold sum29 at h
  split at h
  · rename_i s c
    simp only [Option.some.injEq, Prod.mk.injEq] at h
    obtain ⟨rfl, rfl⟩ := h
    refine ⟨⟨_, Try.func29, by kernel_rfl, by kernel_rfl⟩, Nat.le_refl _, fun B r w args' hS hr => ?_⟩
    obtain ⟨l⟩ := args'
    simp only [rels] at hr
    obtain ⟨y, ys, rfl, h1, y2, ys2, rfl, h2, rfl⟩ := hr
    simp only [rel] at h1 h2
    subst h1 h2
    refine (Try.strings_IndexByte ⟨⟨s⟩⟩ c w).mono fun e w' he => ?_
    obtain ⟨rfl, rfl⟩ := he
    exact ⟨r, _, rfl, hS, Step.refl _ _ _ _, by simp [rel]⟩
  · exact absurd h (by simp)

def E0 : Env := { funcs := fun f => Aes.funcsT.get f, sums := sum29, ms := [] }

theorem E0_ok : EnvOk Try.prog E0 where
  mixed := by kernel_rfl
  sums := sum29_ok
  ms := fun t name f h => nomatch h
  funcs := fun f af h => Each.get Aes.funcsT_ok f af h

end Go.AE
end
-- Closed calls, reckoned once: rising, Unhex, Hex at the published block.
section
set_option linter.unusedVariables false
set_option maxRecDepth 100000
namespace Go.AE
open Go.Proofs

def hexIn : List UInt8 := [48, 48, 49, 49, 50, 50, 51, 51, 52, 52, 53, 53, 54, 54, 55, 55, 56, 56, 57, 57, 97, 97, 98, 98, 99, 99, 100, 100, 101, 101, 102, 102]
def rawIn : List UInt8 := [0, 17, 34, 51, 68, 85, 102, 119, 136, 153, 170, 187, 204, 221, 238, 255]
def risingK : List UInt8 := [0, 1, 2, 3, 4, 5, 6, 7, 8, 9, 10, 11, 12, 13, 14, 15, 16, 17, 18, 19, 20, 21, 22, 23, 24, 25, 26, 27, 28, 29, 30, 31]
def rawOut : List UInt8 := [0x8e, 0xa2, 0xb7, 0xca, 0x51, 0x67, 0x45, 0xbf, 0xea, 0xfc, 0x49, 0x90, 0x4b, 0x49, 0x60, 0x89]
def hexOut : List UInt8 := [56, 101, 97, 50, 98, 55, 99, 97, 53, 49, 54, 55, 52, 53, 98, 102, 101, 97, 102, 99, 52, 57, 57, 48, 52, 98, 52, 57, 54, 48, 56, 57]

/-- what a call comes to, the heap left aside -/
def valOf : Option (AV × Heap) → Option AV
  | some (v, _) => some v
  | none => none

theorem run14 : valOf (acall E0 1000 14 [] ⟨.nil, 0⟩) = some (.str risingK) := by kernel_rfl
theorem run23 : valOf (acall E0 1000 23 [.str hexIn] ⟨.nil, 0⟩) = some (.tuple [.str rawIn, .bool true]) := by kernel_rfl
theorem run15 : valOf (acall E0 1000 15 [.str rawOut] ⟨.nil, 0⟩) = some (.str hexOut) := by kernel_rfl

theorem valOf_some {o : Option (AV × Heap)} {v : AV} (h : valOf o = some v) : ∃ H, o = some (v, H) := by
  cases o with
  | none => exact nomatch h
  | some p => obtain ⟨v', H⟩ := p; simp only [valOf, Option.some.injEq] at h; subst h; exact ⟨H, rfl⟩

theorem call0_ok (n : Nat) : CallOk Try.prog (acall E0 n) := call_sound E0_ok (exec_sound E0_ok n) (next_ok E0_ok n).1

end Go.AE
end
-- The machine's surroundings for the laws of aes: what is told, what is run.
section
set_option linter.unusedVariables false
set_option maxRecDepth 100000
namespace Go.AE
open Go.Proofs

def sums1 : CallF := fun f args H => match f, args with
  | 29, [.str s, .int .u8 c] => some (.int .i64 (Lib.indexByte s c.toNat.toUInt8), H)
  | 14, [] => some (.str risingK, H)
  | 23, [.str s] => bif beqBytes s hexIn then some (.tuple [.str rawIn, .bool true], H) else none
  | 15, [.str s] => bif beqBytes s rawOut then some (.str hexOut, H) else none
  | _, _ => none

theorem lifted {f : Nat} {args : List AV} {v : AV} (h : valOf (acall E0 1000 f args ⟨.nil, 0⟩) = some v) (ha : AV.flats args = true) (hv : AV.flat v = true) (H : Heap) :
    (∃ fn, Try.prog.funcs[f]? = some fn ∧ (fn.name == "runtime.NumGoroutine") = false ∧ fn.body.isNone = false) ∧ H.next ≤ H.next ∧
    ∀ B r w (args' : Array Value), Sim B r H w → rels r args args'.toList → Calls Try.prog f args' w (fun e w' => ∃ r' v', e = .returned v' ∧ Sim B r' H w' ∧ Step B H.next r w r' w' ∧ rel r' v v') := by
  obtain ⟨H1, h1⟩ := valOf_some h
  exact lift_ok (call0_ok 1000) h1 ha hv H

theorem sums1_ok : CallOk Try.prog sums1 := by
  intro f args H v H' h
  unfold sums1 at h
  split at h
  · exact sum29_ok _ _ _ _ _ h
  · simp only [Option.some.injEq, Prod.mk.injEq] at h
    obtain ⟨rfl, rfl⟩ := h
    exact lifted run14 rfl rfl H
  · rename_i s
    cases hb : beqBytes s hexIn with
    | false => rw [hb] at h; exact nomatch h
    | true =>
      rw [beqBytes_eq] at hb
      obtain rfl := eq_of_beq hb
      simp only [beqBytes_eq, beq_self_eq_true, cond_true, Option.some.injEq, Prod.mk.injEq] at h
      obtain ⟨rfl, rfl⟩ := h
      exact lifted run23 rfl rfl H
  · rename_i s
    cases hb : beqBytes s rawOut with
    | false => rw [hb] at h; exact nomatch h
    | true =>
      rw [beqBytes_eq] at hb
      obtain rfl := eq_of_beq hb
      simp only [beqBytes_eq, beq_self_eq_true, cond_true, Option.some.injEq, Prod.mk.injEq] at h
      obtain ⟨rfl, rfl⟩ := h
      exact lifted run15 rfl rfl H
  · exact absurd h (by simp)

def E1 : Env := { funcs := fun f => Aes.funcsT.get f, sums := sums1, ms := [] }

theorem E1_ok : EnvOk Try.prog E1 where
  mixed := by kernel_rfl
  sums := sums1_ok
  ms := fun t name f h => nomatch h
  funcs := fun f af h => Each.get Aes.funcsT_ok f af h

theorem call1_ok (n : Nat) : CallOk Try.prog (acall E1 n) := call_sound E1_ok (exec_sound E1_ok n) (next_ok E1_ok n).1

end Go.AE
end
-- Contracts: works, and the law AesBlocks, run on the machine.
section
set_option linter.unusedVariables false
set_option linter.unusedSimpArgs false
set_option maxRecDepth 100000
set_option maxHeartbeats 1000000
namespace Go.AE
variable {E : Env}

/-- what the laws of aes take as told -/
structure Told (E : Env) : Prop where
  funcs : ∀ f, E.funcs f = Aes.funcsT.get f
  none : ∀ f args H, special f = false → E.sums f args H = none
  rising : ∀ H, E.sums 14 [] H = some (.str risingK, H)
  unhex : ∀ H, E.sums 23 [.str hexIn] H = some (.tuple [.str rawIn, .bool true], H)
  hex : ∀ H, E.sums 15 [.str rawOut] H = some (.str hexOut, H)

theorem known_block : blockP risingK rawIn = (rawOut, 0) := by kernel_rfl

attribute [local irreducible] keysP encP blockP
theorem works_ok (hT : Told E) {H : Heap} {Q : AV → Heap → Prop}
    (hQ : ∀ H', H.next ≤ H'.next → (∀ j, j < H.next → H'.t.get j = H.t.get j) → Q (.bool true) H') : WCall E 10 [] H Q := by
  refine WCall.func (hT.none 10 _ _ (by decide)) ((hT.funcs 10).trans rfl) ?_
  generalize frameOf [] 0 .nil = a
  refine W.seq (W.region ?_)
  simp only [w_mov, w_ibin, w_load1, w_loadN, w_nilCheck, w_indexArr, w_indexSl, w_indexVal, w_indexStr, w_lenStr, w_lenSl, w_store, w_alloc, w_box, w_build, w_sliceArr, w_bytesToStr, w_pick, WOps_nil, thenQ_normal, eX_t, eX_c, put_s, put_n, getset, Nat.reduceEqDiff, if_false, if_true, Option.getD_some, rd, natOf_nn, natOf_by, Option.some.injEq, exists_eq_left', Prod.mk.injEq, and_assoc, exists_and_left, true_and, Nat.zero_add, Nat.add_zero, Nat.mul_one, ble_t, mul_nn, quo_nn, rem_nn, add_nn, sub_nn, lss_nn, eql_nn, neq_nn, xor_by, k0, k1, k2, k3, k4, k5, k6, k7, k8, k12, k13, k14, k15, k16, k32, k60, k254, k256]
  refine W.seq (W.region ?_)
  refine WOps.call (g := 23) (first := []) (captured := []) rfl ?_
  simp only [List.map_nil, List.map_cons, List.nil_append, List.append_nil]
  refine WCall.told (hT.unhex H) ?_
  simp only [w_mov, w_ibin, w_load1, w_loadN, w_nilCheck, w_indexArr, w_indexSl, w_indexVal, w_indexStr, w_lenStr, w_lenSl, w_store, w_alloc, w_box, w_build, w_sliceArr, w_bytesToStr, w_pick, WOps_nil, thenQ_normal, eX_t, eX_c, put_s, put_n, getset, Nat.reduceEqDiff, if_false, if_true, Option.getD_some, rd, natOf_nn, natOf_by, Option.some.injEq, exists_eq_left', Prod.mk.injEq, and_assoc, exists_and_left, true_and, Nat.zero_add, Nat.add_zero, Nat.mul_one, ble_t, mul_nn, quo_nn, rem_nn, add_nn, sub_nn, lss_nn, eql_nn, neq_nn, xor_by, k0, k1, k2, k3, k4, k5, k6, k7, k8, k12, k13, k14, k15, k16, k32, k60, k254, k256, w_extract, List.getElem?_cons_zero, List.getElem?_cons_succ]
  refine W.seq (W.region ?_)
  refine WOps.call (g := 14) (first := []) (captured := []) rfl ?_
  simp only [List.map_nil, List.map_cons, List.nil_append, List.append_nil]
  refine WCall.told (hT.rising H) ?_
  simp only [w_mov, w_ibin, w_load1, w_loadN, w_nilCheck, w_indexArr, w_indexSl, w_indexVal, w_indexStr, w_lenStr, w_lenSl, w_store, w_alloc, w_box, w_build, w_sliceArr, w_bytesToStr, w_pick, WOps_nil, thenQ_normal, eX_t, eX_c, put_s, put_n, getset, Nat.reduceEqDiff, if_false, if_true, Option.getD_some, rd, natOf_nn, natOf_by, Option.some.injEq, exists_eq_left', Prod.mk.injEq, and_assoc, exists_and_left, true_and, Nat.zero_add, Nat.add_zero, Nat.mul_one, ble_t, mul_nn, quo_nn, rem_nn, add_nn, sub_nn, lss_nn, eql_nn, neq_nn, xor_by, k0, k1, k2, k3, k4, k5, k6, k7, k8, k12, k13, k14, k15, k16, k32, k60, k254, k256]
  refine WOps.call (g := 8) (first := []) (captured := []) rfl ?_
  simp only [List.map_nil, List.map_cons, List.nil_append, List.append_nil, eX_t, eX_c, put_s, put_n, getset, Nat.reduceEqDiff, if_false, if_true, Option.getD_some]
  refine Block_ok hT.funcs hT.none ?_
  intro H' hn hb
  rw [known_block]
  simp only [w_mov, w_ibin, w_load1, w_loadN, w_nilCheck, w_indexArr, w_indexSl, w_indexVal, w_indexStr, w_lenStr, w_lenSl, w_store, w_alloc, w_box, w_build, w_sliceArr, w_bytesToStr, w_pick, WOps_nil, thenQ_normal, eX_t, eX_c, put_s, put_n, getset, Nat.reduceEqDiff, if_false, if_true, Option.getD_some, rd, natOf_nn, natOf_by, Option.some.injEq, exists_eq_left', Prod.mk.injEq, and_assoc, exists_and_left, true_and, Nat.zero_add, Nat.add_zero, Nat.mul_one, ble_t, mul_nn, quo_nn, rem_nn, add_nn, sub_nn, lss_nn, eql_nn, neq_nn, xor_by, k0, k1, k2, k3, k4, k5, k6, k7, k8, k12, k13, k14, k15, k16, k32, k60, k254, k256, w_extract, List.getElem?_cons_zero, List.getElem?_cons_succ]
  refine W.seq (W.region ?_)
  simp only [w_mov, w_ibin, w_load1, w_loadN, w_nilCheck, w_indexArr, w_indexSl, w_indexVal, w_indexStr, w_lenStr, w_lenSl, w_store, w_alloc, w_box, w_build, w_sliceArr, w_bytesToStr, w_pick, WOps_nil, thenQ_normal, eX_t, eX_c, put_s, put_n, getset, Nat.reduceEqDiff, if_false, if_true, Option.getD_some, rd, natOf_nn, natOf_by, Option.some.injEq, exists_eq_left', Prod.mk.injEq, and_assoc, exists_and_left, true_and, Nat.zero_add, Nat.add_zero, Nat.mul_one, ble_t, mul_nn, quo_nn, rem_nn, add_nn, sub_nn, lss_nn, eql_nn, neq_nn, xor_by, k0, k1, k2, k3, k4, k5, k6, k7, k8, k12, k13, k14, k15, k16, k32, k60, k254, k256, decide_true]
  refine WOps_want ((wantedA_some (d := 17) (b := true) rfl (by simp only [eX_t, eX_c, put_s, put_n, getset, Nat.reduceEqDiff, if_false, if_true, Option.getD_some])).trans rfl) ?_
  simp only [w_mov, w_ibin, w_load1, w_loadN, w_nilCheck, w_indexArr, w_indexSl, w_indexVal, w_indexStr, w_lenStr, w_lenSl, w_store, w_alloc, w_box, w_build, w_sliceArr, w_bytesToStr, w_pick, WOps_nil, thenQ_normal, eX_t, eX_c, put_s, put_n, getset, Nat.reduceEqDiff, if_false, if_true, Option.getD_some, rd, natOf_nn, natOf_by, Option.some.injEq, exists_eq_left', Prod.mk.injEq, and_assoc, exists_and_left, true_and, Nat.zero_add, Nat.add_zero, Nat.mul_one, ble_t, mul_nn, quo_nn, rem_nn, add_nn, sub_nn, lss_nn, eql_nn, neq_nn, xor_by, k0, k1, k2, k3, k4, k5, k6, k7, k8, k12, k13, k14, k15, k16, k32, k60, k254, k256]
  refine WOps_want ((wantedA_some (d := 17) (b := true) rfl (by simp only [eX_t, eX_c, put_s, put_n, getset, Nat.reduceEqDiff, if_false, if_true, Option.getD_some])).trans rfl) ?_
  refine WOps.call (g := 15) (first := []) (captured := []) rfl ?_
  simp only [List.map_nil, List.map_cons, List.nil_append, List.append_nil, eX_t, eX_c, put_s, put_n, getset, Nat.reduceEqDiff, if_false, if_true, Option.getD_some]
  refine WCall.told (hT.hex H') ?_
  refine WOps_want ((wantedA_some (d := 17) (b := true) rfl (by simp only [eX_t, eX_c, put_s, put_n, getset, Nat.reduceEqDiff, if_false, if_true, Option.getD_some])).trans rfl) ?_
  simp only [w_mov, w_ibin, w_load1, w_loadN, w_nilCheck, w_indexArr, w_indexSl, w_indexVal, w_indexStr, w_lenStr, w_lenSl, w_store, w_alloc, w_box, w_build, w_sliceArr, w_bytesToStr, w_pick, WOps_nil, thenQ_normal, eX_t, eX_c, put_s, put_n, getset, Nat.reduceEqDiff, if_false, if_true, Option.getD_some, rd, natOf_nn, natOf_by, Option.some.injEq, exists_eq_left', Prod.mk.injEq, and_assoc, exists_and_left, true_and, Nat.zero_add, Nat.add_zero, Nat.mul_one, ble_t, mul_nn, quo_nn, rem_nn, add_nn, sub_nn, lss_nn, eql_nn, neq_nn, xor_by, k0, k1, k2, k3, k4, k5, k6, k7, k8, k12, k13, k14, k15, k16, k32, k60, k254, k256, w_sbin]
  refine ⟨.bool true, by kernel_rfl, ?_⟩
  refine W.ret ⟨.inr rfl, ?_⟩
  simp only [resultsOf, resOf, eX_t, eX_c, put_s, put_n, getset, Nat.reduceEqDiff, if_false, if_true, Option.getD_some, Option.some.injEq, exists_eq_left', oneOf]
  exact hQ _ hn hb

theorem AesBlocks_run (hT : Told E) {H : Heap} {K S : List UInt8} {Q : AV → Heap → Prop}
    (hQ : ∀ H', H.next ≤ H'.next → (∀ j, j < H.next → H'.t.get j = H.t.get j) → Q (.bool true) H') : WCall E 3 [.str K, .str S] H Q := by
  refine WCall.func (hT.none 3 _ _ (by decide)) ((hT.funcs 3).trans rfl) ?_
  have f0 : (frameOf [.str K, .str S] 0 .nil).get 0 = some (.str K) := rfl
  have f1 : (frameOf [.str K, .str S] 0 .nil).get 1 = some (.str S) := rfl
  generalize frameOf [.str K, .str S] 0 .nil = a at f0 f1
  refine W.seq (W.region ?_)
  simp only [w_mov, w_ibin, w_load1, w_loadN, w_nilCheck, w_indexArr, w_indexSl, w_indexVal, w_indexStr, w_lenStr, w_lenSl, w_store, w_alloc, w_box, w_build, w_sliceArr, w_bytesToStr, w_pick, WOps_nil, thenQ_normal, eX_t, eX_c, put_s, put_n, getset, Nat.reduceEqDiff, if_false, if_true, Option.getD_some, rd, natOf_nn, natOf_by, Option.some.injEq, exists_eq_left', Prod.mk.injEq, and_assoc, exists_and_left, true_and, Nat.zero_add, Nat.add_zero, Nat.mul_one, ble_t, mul_nn, quo_nn, rem_nn, add_nn, sub_nn, lss_nn, eql_nn, neq_nn, xor_by, k0, k1, k2, k3, k4, k5, k6, k7, k8, k12, k13, k14, k15, k16, k32, k60, k254, k256]
  refine W.seq (W.region ?_)
  simp only [w_mov, w_ibin, w_load1, w_loadN, w_nilCheck, w_indexArr, w_indexSl, w_indexVal, w_indexStr, w_lenStr, w_lenSl, w_store, w_alloc, w_box, w_build, w_sliceArr, w_bytesToStr, w_pick, WOps_nil, thenQ_normal, eX_t, eX_c, put_s, put_n, getset, Nat.reduceEqDiff, if_false, if_true, Option.getD_some, rd, natOf_nn, natOf_by, Option.some.injEq, exists_eq_left', Prod.mk.injEq, and_assoc, exists_and_left, true_and, Nat.zero_add, Nat.add_zero, Nat.mul_one, ble_t, mul_nn, quo_nn, rem_nn, add_nn, sub_nn, lss_nn, eql_nn, neq_nn, xor_by, k0, k1, k2, k3, k4, k5, k6, k7, k8, k12, k13, k14, k15, k16, k32, k60, k254, k256, f0, f1]
  refine WOps.call (g := 8) (first := []) (captured := []) rfl ?_
  simp only [List.map_nil, List.map_cons, List.nil_append, List.append_nil, eX_t, eX_c, put_s, put_n, getset, Nat.reduceEqDiff, if_false, if_true, Option.getD_some]
  refine Block_ok hT.funcs hT.none ?_
  intro H1 hn1 hb1
  simp only [w_mov, w_ibin, w_load1, w_loadN, w_nilCheck, w_indexArr, w_indexSl, w_indexVal, w_indexStr, w_lenStr, w_lenSl, w_store, w_alloc, w_box, w_build, w_sliceArr, w_bytesToStr, w_pick, WOps_nil, thenQ_normal, eX_t, eX_c, put_s, put_n, getset, Nat.reduceEqDiff, if_false, if_true, Option.getD_some, rd, natOf_nn, natOf_by, Option.some.injEq, exists_eq_left', Prod.mk.injEq, and_assoc, exists_and_left, true_and, Nat.zero_add, Nat.add_zero, Nat.mul_one, ble_t, mul_nn, quo_nn, rem_nn, add_nn, sub_nn, lss_nn, eql_nn, neq_nn, xor_by, k0, k1, k2, k3, k4, k5, k6, k7, k8, k12, k13, k14, k15, k16, k32, k60, k254, k256, w_extract, List.getElem?_cons_zero, List.getElem?_cons_succ]
  refine W.seq (W.region ?_)
  simp only [w_mov, w_ibin, w_load1, w_loadN, w_nilCheck, w_indexArr, w_indexSl, w_indexVal, w_indexStr, w_lenStr, w_lenSl, w_store, w_alloc, w_box, w_build, w_sliceArr, w_bytesToStr, w_pick, WOps_nil, thenQ_normal, eX_t, eX_c, put_s, put_n, getset, Nat.reduceEqDiff, if_false, if_true, Option.getD_some, rd, natOf_nn, natOf_by, Option.some.injEq, exists_eq_left', Prod.mk.injEq, and_assoc, exists_and_left, true_and, Nat.zero_add, Nat.add_zero, Nat.mul_one, ble_t, mul_nn, quo_nn, rem_nn, add_nn, sub_nn, lss_nn, eql_nn, neq_nn, xor_by, k0, k1, k2, k3, k4, k5, k6, k7, k8, k12, k13, k14, k15, k16, k32, k60, k254, k256, f0, f1]
  refine WOps.call (g := 9) (first := []) (captured := []) rfl ?_
  simp only [List.map_nil, List.map_cons, List.nil_append, List.append_nil, eX_t, eX_c, put_s, put_n, getset, Nat.reduceEqDiff, if_false, if_true, Option.getD_some]
  refine rBlock_ok hT.funcs hT.none ?_
  intro H2 hn2 hb2
  generalize blockP K S = bp
  simp only [w_mov, w_ibin, w_load1, w_loadN, w_nilCheck, w_indexArr, w_indexSl, w_indexVal, w_indexStr, w_lenStr, w_lenSl, w_store, w_alloc, w_box, w_build, w_sliceArr, w_bytesToStr, w_pick, WOps_nil, thenQ_normal, eX_t, eX_c, put_s, put_n, getset, Nat.reduceEqDiff, if_false, if_true, Option.getD_some, rd, natOf_nn, natOf_by, Option.some.injEq, exists_eq_left', Prod.mk.injEq, and_assoc, exists_and_left, true_and, Nat.zero_add, Nat.add_zero, Nat.mul_one, ble_t, mul_nn, quo_nn, rem_nn, add_nn, sub_nn, lss_nn, eql_nn, neq_nn, xor_by, k0, k1, k2, k3, k4, k5, k6, k7, k8, k12, k13, k14, k15, k16, k32, k60, k254, k256, w_extract, List.getElem?_cons_zero, List.getElem?_cons_succ]
  refine W.seq (W.region ?_)
  simp only [w_mov, w_ibin, w_load1, w_loadN, w_nilCheck, w_indexArr, w_indexSl, w_indexVal, w_indexStr, w_lenStr, w_lenSl, w_store, w_alloc, w_box, w_build, w_sliceArr, w_bytesToStr, w_pick, WOps_nil, thenQ_normal, eX_t, eX_c, put_s, put_n, getset, Nat.reduceEqDiff, if_false, if_true, Option.getD_some, rd, natOf_nn, natOf_by, Option.some.injEq, exists_eq_left', Prod.mk.injEq, and_assoc, exists_and_left, true_and, Nat.zero_add, Nat.add_zero, Nat.mul_one, ble_t, mul_nn, quo_nn, rem_nn, add_nn, sub_nn, lss_nn, eql_nn, neq_nn, xor_by, k0, k1, k2, k3, k4, k5, k6, k7, k8, k12, k13, k14, k15, k16, k32, k60, k254, k256, w_sbin, sbin_eql, beq_self_eq_true]
  refine WOps_want ((wantedA_some (d := 24) (b := true) rfl (by simp only [eX_t, eX_c, put_s, put_n, getset, Nat.reduceEqDiff, if_false, if_true, Option.getD_some])).trans rfl) ?_
  simp only [w_mov, w_ibin, w_load1, w_loadN, w_nilCheck, w_indexArr, w_indexSl, w_indexVal, w_indexStr, w_lenStr, w_lenSl, w_store, w_alloc, w_box, w_build, w_sliceArr, w_bytesToStr, w_pick, WOps_nil, thenQ_normal, eX_t, eX_c, put_s, put_n, getset, Nat.reduceEqDiff, if_false, if_true, Option.getD_some, rd, natOf_nn, natOf_by, Option.some.injEq, exists_eq_left', Prod.mk.injEq, and_assoc, exists_and_left, true_and, Nat.zero_add, Nat.add_zero, Nat.mul_one, ble_t, mul_nn, quo_nn, rem_nn, add_nn, sub_nn, lss_nn, eql_nn, neq_nn, xor_by, k0, k1, k2, k3, k4, k5, k6, k7, k8, k12, k13, k14, k15, k16, k32, k60, k254, k256]
  refine WOps_want ((wantedA_some (d := 24) (b := true) rfl (by simp only [eX_t, eX_c, put_s, put_n, getset, Nat.reduceEqDiff, if_false, if_true, Option.getD_some])).trans rfl) ?_
  simp only [w_mov, w_ibin, w_load1, w_loadN, w_nilCheck, w_indexArr, w_indexSl, w_indexVal, w_indexStr, w_lenStr, w_lenSl, w_store, w_alloc, w_box, w_build, w_sliceArr, w_bytesToStr, w_pick, WOps_nil, thenQ_normal, eX_t, eX_c, put_s, put_n, getset, Nat.reduceEqDiff, if_false, if_true, Option.getD_some, rd, natOf_nn, natOf_by, Option.some.injEq, exists_eq_left', Prod.mk.injEq, and_assoc, exists_and_left, true_and, Nat.zero_add, Nat.add_zero, Nat.mul_one, ble_t, mul_nn, quo_nn, rem_nn, add_nn, sub_nn, lss_nn, eql_nn, neq_nn, xor_by, k0, k1, k2, k3, k4, k5, k6, k7, k8, k12, k13, k14, k15, k16, k32, k60, k254, k256]
  refine WOps_want ((wantedA_some (d := 24) (b := true) rfl (by simp only [eX_t, eX_c, put_s, put_n, getset, Nat.reduceEqDiff, if_false, if_true, Option.getD_some])).trans rfl) ?_
  simp only [w_mov, w_ibin, w_load1, w_loadN, w_nilCheck, w_indexArr, w_indexSl, w_indexVal, w_indexStr, w_lenStr, w_lenSl, w_store, w_alloc, w_box, w_build, w_sliceArr, w_bytesToStr, w_pick, WOps_nil, thenQ_normal, eX_t, eX_c, put_s, put_n, getset, Nat.reduceEqDiff, if_false, if_true, Option.getD_some, rd, natOf_nn, natOf_by, Option.some.injEq, exists_eq_left', Prod.mk.injEq, and_assoc, exists_and_left, true_and, Nat.zero_add, Nat.add_zero, Nat.mul_one, ble_t, mul_nn, quo_nn, rem_nn, add_nn, sub_nn, lss_nn, eql_nn, neq_nn, xor_by, k0, k1, k2, k3, k4, k5, k6, k7, k8, k12, k13, k14, k15, k16, k32, k60, k254, k256, decide_true]
  refine WOps_want ((wantedA_some (d := 29) (b := true) rfl (by simp only [eX_t, eX_c, put_s, put_n, getset, Nat.reduceEqDiff, if_false, if_true, Option.getD_some, cond_true])).trans rfl) ?_
  refine WOps.call (g := 10) (first := []) (captured := []) rfl ?_
  simp only [List.map_nil, List.map_cons, List.nil_append, List.append_nil, eX_t, eX_c, put_s, put_n, getset, Nat.reduceEqDiff, if_false, if_true, Option.getD_some]
  refine works_ok hT ?_
  intro H3 hn3 hb3
  simp only [w_mov, w_ibin, w_load1, w_loadN, w_nilCheck, w_indexArr, w_indexSl, w_indexVal, w_indexStr, w_lenStr, w_lenSl, w_store, w_alloc, w_box, w_build, w_sliceArr, w_bytesToStr, w_pick, WOps_nil, thenQ_normal, eX_t, eX_c, put_s, put_n, getset, Nat.reduceEqDiff, if_false, if_true, Option.getD_some, rd, natOf_nn, natOf_by, Option.some.injEq, exists_eq_left', Prod.mk.injEq, and_assoc, exists_and_left, true_and, Nat.zero_add, Nat.add_zero, Nat.mul_one, ble_t, mul_nn, quo_nn, rem_nn, add_nn, sub_nn, lss_nn, eql_nn, neq_nn, xor_by, k0, k1, k2, k3, k4, k5, k6, k7, k8, k12, k13, k14, k15, k16, k32, k60, k254, k256, cond_true]
  refine W.ret ⟨.inr rfl, ?_⟩
  simp only [resultsOf, resOf, eX_t, eX_c, put_s, put_n, getset, Nat.reduceEqDiff, if_false, if_true, Option.getD_some, Option.some.injEq, exists_eq_left', oneOf]
  exact hQ _ (by omega) fun j hj => by rw [hb3 _ (by omega), hb2 _ (by omega), hb1 _ hj]
end Go.AE
end
-- From a run of the machine to a row of the seat.
section
set_option linter.unusedVariables false
set_option maxRecDepth 100000
namespace Go.AE
open Go.Proofs Go.ChangeShapes Go.WideShapes Go.ChangeAt Go.RowKit

theorem special_none {f : Nat} (h : special f = false) (args : List AV) (H : Heap) : sums1 f args H = none := by
  unfold sums1
  split
  · exact absurd h (by decide)
  · exact absurd h (by decide)
  · exact absurd h (by decide)
  · exact absurd h (by decide)
  · rfl

theorem told1 : Told E1 where
  funcs := fun f => rfl
  none := fun f args H h => special_none h args H
  rising := fun H => rfl
  unhex := fun H => by
    have e : E1.sums 23 [.str hexIn] H = bif beqBytes hexIn hexIn then some (.tuple [.str rawIn, .bool true], H) else none := rfl
    rw [e, beqBytes_eq, beq_self_eq_true, cond_true]
  hex := fun H => by
    have e : E1.sums 15 [.str rawOut] H = bif beqBytes rawOut rawOut then some (.str hexOut, H) else none := rfl
    rw [e, beqBytes_eq, beq_self_eq_true, cond_true]

/-- what a run of the machine says of a call of the program -/
theorem law_calls {f : Nat} {args : List AV} {args' : Array Value} {W : World} (h : WCall E1 f args ⟨.nil, 0⟩ fun v _ => v = .bool true) (hr : rels Ren.none args args'.toList) :
    Calls Try.prog f args' W fun e W' => e = .returned (.bool true) ∧ Below W.heap.size W W' := by
  obtain ⟨n, v, H', h1, rfl⟩ := h
  refine (((call1_ok n) _ _ _ _ _ (h1 n (Nat.le_refl _))).2.2 W.heap.size Ren.none W args' (Sim.none W 0) hr).mono fun e W' he => ?_
  obtain ⟨r', v', rfl, hS, hT, hv⟩ := he
  simp only [rel] at hv
  subst hv
  exact ⟨rfl, hT.os, hT.tape, hT.output, hT.size, fun k hk => hT.frame k hk fun b hb => nomatch hb⟩

theorem post_of_below {H : Type} {enc : TypeId × Value → H} {P : Program} {f : Func} {s : ChangeSpec} {apart fresh handsOn again : Bool} {W W' : World} {args : Array Value} {v : Value} {ds gs : List (DataW H)} {before pa pv : List MemPlace}
    (hW : DataW.Whole enc P f.params.toList s.vars apart W args.toList ds gs before)
    (hres : ∀ (b : Nat) (sp : Nat → Bool) (hd : Bool), DataW.TrodAll enc P W' b sp hd f.resultTypes.toList (v.resultList f.resultTypes.size) (s.fn H (ds ++ gs)).results [])
    (hargs : ∀ sp : Nat → Bool, (∀ p ∈ before, sp p.block = true) → DataW.TrodAll enc P W' 0 sp true f.params.toList args.toList (s.fn H (ds ++ gs)).args pa)
    (hvars : ∀ sp : Nat → Bool, (∀ p ∈ before, sp p.block = true) → DataW.TrodVars enc P W' sp s.vars (s.fn H (ds ++ gs)).vars pv)
    (hps : before = pa ++ pv) (hB : Below W.heap.size W W')
    (hok : ∀ (j : Nat) (t : TypeId) (r : Value), f.resultTypes[j]? = some t → (v.resultList f.resultTypes.size)[j]? = some r → Value.okWide P W' .any 0 t r) :
    s.post enc P f apart fresh handsOn again W args v W' := by
  have hold : ∀ p ∈ before, (fun b => decide (b < W.heap.size)) p.block = true := fun p hp => by simpa using hW.lt p hp
  have hlt := hW.lt
  refine ⟨ds, gs, before, [], pa, pv, hW, hres _ _ _, hargs _ hold, hvars _ hold, World.keptBut_mono (fun p hp => ⟨hp, ?_⟩) (hB.frame (· ∈ before)), fun _ => ?_⟩
  · rw [hps, List.mem_append] at hp
    exact Or.inr hp
  · obtain ⟨_, _, _, _, _, hz, hn⟩ := hW
    refine ⟨hok, _, _, ([] ++ pa) ++ pv, ⟨[] ++ pa, pv, trodAll_append (hargs _ (fun _ _ => rfl)) (hres _ _ _), hvars _ (fun _ _ => rfl), rfl, ?_, ?_⟩, ?_⟩
    · intro b off hp
      have hp' : MemPlace.cell b off ∈ before := by rw [hps]; simpa using hp
      rw [hB.frozen (hlt _ hp')]
      exact hz b off hp'
    · intro ha
      have := hn ha
      rw [hps] at this
      simpa using this
    · intro p hp _
      rw [hps]
      simpa using hp

end Go.AE
end
