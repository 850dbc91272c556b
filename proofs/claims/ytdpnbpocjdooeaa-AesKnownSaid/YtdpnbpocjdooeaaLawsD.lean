/- Contracts of aes: Ctr, its loops. -/
import Derived.Test.YtdpnbpocjdooeaaLawsC
set_option linter.unusedVariables false
set_option linter.unusedSimpArgs false
section
set_option linter.unusedVariables false
set_option linter.unusedSimpArgs false
set_option maxRecDepth 100000
set_option maxHeartbeats 1000000
namespace Go.AE
variable {E : Env}
attribute [local irreducible] keysP encP

def ctDraw : ADraw := (ADraw.mk [(AOper.mk (some 68) (.mov (.tmp 9)) none), (AOper.mk (some 69) (.mov (.tmp 11)) none), (AOper.mk (some 70) (.mov (.tmp 14)) none), (AOper.mk (some 71) (.ibin .add (.tmp 69) (.tmp 70)) none), (AOper.mk (some 72) (.indexSl 1 (.tmp 68) (.tmp 71)) none), (AOper.mk (some 73) (.load1 (.tmp 72)) none), (AOper.mk (some 74) (.mov (.tmp 14)) none), (AOper.mk (some 75) (.indexArr 16 1 (.tmp 13) (.tmp 74)) none), (AOper.mk (some 76) (.load1 (.tmp 75)) none), (AOper.mk (some 77) (.ibin .xor (.tmp 73) (.tmp 76)) none), (AOper.mk (some 78) (.indexSl 1 (.tmp 68) (.tmp 71)) none), (AOper.mk none (.store 1 (.tmp 78) (.tmp 77)) none)] [0, 1, 2, 3, 4, 5, 6, 7, 8, 9, 10, 11] [0, 0, 0, 6, 15, 31, 0, 64, 192, 511, 1023, 2047] [(0, 0), (0, 0), (0, 0), (0, 0), (0, 0), (0, 0), (0, 0), (0, 0), (0, 0), (0, 0), (0, 0), (0, 1)] false)
def ctLoop3 : ACode := (.block 3 (.loop (.seq (.region [(AOper.mk (some 41) (.ibin .lss (.tmp 40) (.const (.int .i64 4))) none)]) (.seq (.cond (.tmp 41) .skip (.exit 3)) (.seq (.block 4 (.seq (.region [(AOper.mk (some 42) (.mov (.tmp 40)) none), (AOper.mk (some 12) (.mov (.tmp 42)) none)]) (.region [(AOper.mk (some 43) (.mov (.tmp 12)) none), (AOper.mk (some 44) (.ibin .sub (.const (.int .i64 15)) (.tmp 43)) none), (AOper.mk (some 45) (.mov (.tmp 11)) none), (AOper.mk (some 46) (.ibin .quo (.tmp 45) (.const (.int .i64 16))) none), (AOper.mk (some 47) (.mov (.tmp 12)) none), (AOper.mk (some 48) (.ibin .mul (.const (.int .i64 8)) (.tmp 47)) none), (AOper.mk (some 49) (.ibin .shr (.tmp 46) (.tmp 48)) none), (AOper.mk (some 50) (.convInt .u8 (.tmp 49)) none), (AOper.mk (some 51) (.indexArr 16 1 (.tmp 10) (.tmp 44)) none), (AOper.mk none (.store 1 (.tmp 51) (.tmp 50)) none)]))) (.region [(AOper.mk (some 52) (.ibin .add (.tmp 40) (.const (.int .i64 1))) none), (AOper.mk (some 40) (.mov (.tmp 52)) none)]))))))
def ctLoop5 : ACode := (.block 5 (.loop (.seq (.region [(AOper.mk (some 66) (.ibin .lss (.tmp 65) (.tmp 64)) none)]) (.seq (.cond (.tmp 66) .skip (.exit 5)) (.seq (.block 6 (.seq (.region [(AOper.mk (some 67) (.mov (.tmp 65)) none), (AOper.mk (some 14) (.mov (.tmp 67)) none)]) (.draw (ADraw.mk [(AOper.mk (some 68) (.mov (.tmp 9)) none), (AOper.mk (some 69) (.mov (.tmp 11)) none), (AOper.mk (some 70) (.mov (.tmp 14)) none), (AOper.mk (some 71) (.ibin .add (.tmp 69) (.tmp 70)) none), (AOper.mk (some 72) (.indexSl 1 (.tmp 68) (.tmp 71)) none), (AOper.mk (some 73) (.load1 (.tmp 72)) none), (AOper.mk (some 74) (.mov (.tmp 14)) none), (AOper.mk (some 75) (.indexArr 16 1 (.tmp 13) (.tmp 74)) none), (AOper.mk (some 76) (.load1 (.tmp 75)) none), (AOper.mk (some 77) (.ibin .xor (.tmp 73) (.tmp 76)) none), (AOper.mk (some 78) (.indexSl 1 (.tmp 68) (.tmp 71)) none), (AOper.mk none (.store 1 (.tmp 78) (.tmp 77)) none)] [0, 1, 2, 3, 4, 5, 6, 7, 8, 9, 10, 11] [0, 0, 0, 6, 15, 31, 0, 64, 192, 511, 1023, 2047] [(0, 0), (0, 0), (0, 0), (0, 0), (0, 0), (0, 0), (0, 0), (0, 0), (0, 0), (0, 0), (0, 0), (0, 1)] false)))) (.region [(AOper.mk (some 79) (.ibin .add (.tmp 65) (.const (.int .i64 1))) none), (AOper.mk (some 65) (.mov (.tmp 79)) none)]))))))
def ctMain : ACode := (.block 1 (.loop (.seq (.seq (.region [(AOper.mk (some 34) (.mov (.tmp 11)) none), (AOper.mk (some 35) (.mov (.tmp 9)) none), (AOper.mk (some 36) (.lenSl (.tmp 35)) none), (AOper.mk (some 37) (.ibin .lss (.tmp 34) (.tmp 36)) none)]) (.cond (.tmp 37) .skip (.exit 1))) (.seq (.block 2 (.seq (.seq (.region [(AOper.mk (some 40) (.mov (.const (.int .i64 0))) none)]) (.block 3 (.loop (.seq (.region [(AOper.mk (some 41) (.ibin .lss (.tmp 40) (.const (.int .i64 4))) none)]) (.seq (.cond (.tmp 41) .skip (.exit 3)) (.seq (.block 4 (.seq (.region [(AOper.mk (some 42) (.mov (.tmp 40)) none), (AOper.mk (some 12) (.mov (.tmp 42)) none)]) (.region [(AOper.mk (some 43) (.mov (.tmp 12)) none), (AOper.mk (some 44) (.ibin .sub (.const (.int .i64 15)) (.tmp 43)) none), (AOper.mk (some 45) (.mov (.tmp 11)) none), (AOper.mk (some 46) (.ibin .quo (.tmp 45) (.const (.int .i64 16))) none), (AOper.mk (some 47) (.mov (.tmp 12)) none), (AOper.mk (some 48) (.ibin .mul (.const (.int .i64 8)) (.tmp 47)) none), (AOper.mk (some 49) (.ibin .shr (.tmp 46) (.tmp 48)) none), (AOper.mk (some 50) (.convInt .u8 (.tmp 49)) none), (AOper.mk (some 51) (.indexArr 16 1 (.tmp 10) (.tmp 44)) none), (AOper.mk none (.store 1 (.tmp 51) (.tmp 50)) none)]))) (.region [(AOper.mk (some 52) (.ibin .add (.tmp 40) (.const (.int .i64 1))) none), (AOper.mk (some 40) (.mov (.tmp 52)) none)]))))))) (.seq (.region [(AOper.mk (some 53) (.mov (.tmp 8)) none), (AOper.mk (some 54) (.loadN 16 (.tmp 10)) none), (AOper.mk (some 55) (.call (.const (.func (.func 18) [] [])) [(.tmp 53), (.tmp 54)]) none), (AOper.mk (some 13) (.alloc 38 [(.int .u8 0), (.int .u8 0), (.int .u8 0), (.int .u8 0), (.int .u8 0), (.int .u8 0), (.int .u8 0), (.int .u8 0), (.int .u8 0), (.int .u8 0), (.int .u8 0), (.int .u8 0), (.int .u8 0), (.int .u8 0), (.int .u8 0), (.int .u8 0)]) none), (AOper.mk none (.store 16 (.tmp 13) (.tmp 55)) none)]) (.seq (.region [(AOper.mk (some 56) (.mov (.tmp 9)) none), (AOper.mk (some 57) (.mov (.tmp 11)) none), (AOper.mk (some 58) (.mov (.tmp 11)) none), (AOper.mk (some 59) (.ibin .add (.tmp 58) (.const (.int .i64 16))) none), (AOper.mk (some 60) (.mov (.tmp 9)) none), (AOper.mk (some 61) (.lenSl (.tmp 60)) none), (AOper.mk (some 62) (.minI [(.tmp 59), (.tmp 61)]) none), (AOper.mk (some 63) (.sliceSl 1 (.tmp 56) (some (.tmp 57)) (some (.tmp 62)) none) none), (AOper.mk (some 64) (.lenSl (.tmp 63)) none), (AOper.mk (some 65) (.mov (.const (.int .i64 0))) none)]) (.block 5 (.loop (.seq (.region [(AOper.mk (some 66) (.ibin .lss (.tmp 65) (.tmp 64)) none)]) (.seq (.cond (.tmp 66) .skip (.exit 5)) (.seq (.block 6 (.seq (.region [(AOper.mk (some 67) (.mov (.tmp 65)) none), (AOper.mk (some 14) (.mov (.tmp 67)) none)]) (.draw (ADraw.mk [(AOper.mk (some 68) (.mov (.tmp 9)) none), (AOper.mk (some 69) (.mov (.tmp 11)) none), (AOper.mk (some 70) (.mov (.tmp 14)) none), (AOper.mk (some 71) (.ibin .add (.tmp 69) (.tmp 70)) none), (AOper.mk (some 72) (.indexSl 1 (.tmp 68) (.tmp 71)) none), (AOper.mk (some 73) (.load1 (.tmp 72)) none), (AOper.mk (some 74) (.mov (.tmp 14)) none), (AOper.mk (some 75) (.indexArr 16 1 (.tmp 13) (.tmp 74)) none), (AOper.mk (some 76) (.load1 (.tmp 75)) none), (AOper.mk (some 77) (.ibin .xor (.tmp 73) (.tmp 76)) none), (AOper.mk (some 78) (.indexSl 1 (.tmp 68) (.tmp 71)) none), (AOper.mk none (.store 1 (.tmp 78) (.tmp 77)) none)] [0, 1, 2, 3, 4, 5, 6, 7, 8, 9, 10, 11] [0, 0, 0, 6, 15, 31, 0, 64, 192, 511, 1023, 2047] [(0, 0), (0, 0), (0, 0), (0, 0), (0, 0), (0, 0), (0, 0), (0, 0), (0, 0), (0, 0), (0, 0), (0, 1)] false)))) (.region [(AOper.mk (some 79) (.ibin .add (.tmp 65) (.const (.int .i64 1))) none), (AOper.mk (some 65) (.mov (.tmp 79)) none)])))))))))) (.region [(AOper.mk (some 38) (.mov (.tmp 11)) none), (AOper.mk (some 39) (.ibin .add (.tmp 38) (.const (.int .i64 16))) none), (AOper.mk (some 11) (.mov (.tmp 39)) none)])))))

theorem shr_nn {a b : Nat} (h : b < 64) : ibin .shr (nn a) (nn b) = some (nn (a / 2 ^ b)) := by
  have e1 : Nat.ble b 64 = true := by rw [Nat.ble_eq]; omega
  show (let n := bif Nat.ble b 64 then b else 64; some (AV.int .i64 (.ofNat (Nat.div a (Nat.pow 2 n))))) = _
  rw [e1]; rfl
theorem shr_nu {a b : Nat} (h : b < 64) : ibin .shr (nn a) (.int .u64 (.ofNat b)) = some (nn (a / 2 ^ b)) := by
  have e1 : Nat.ble b 64 = true := by rw [Nat.ble_eq]; omega
  show (let n := bif Nat.ble b 64 then b else 64; some (AV.int .i64 (.ofNat (Nat.div a (Nat.pow 2 n))))) = _
  rw [e1]; rfl

/-- the counter's bytes, so many set -/
def cnK (C : List UInt8) (n : Nat) : Nat → List UInt8
  | 0 => C
  | i + 1 => (cnK C n i).set (15 - i) (UInt8.ofNat (n / 2 ^ (8 * i)))
theorem length_cnK (C : List UInt8) (n : Nat) : ∀ i, (cnK C n i).length = C.length
  | 0 => rfl
  | i + 1 => by rw [cnK, List.length_set, length_cnK C n i]

/-- the block of nonce and counter -/
def cntP (N : List UInt8) (n : Nat) : List UInt8 := N ++ [UInt8.ofNat (n / 2 ^ 24), UInt8.ofNat (n / 2 ^ 16), UInt8.ofNat (n / 2 ^ 8), UInt8.ofNat n]

theorem cnK_4 {N Z : List UInt8} (hN : N.length = 12) (hZ : Z.length = 4) (n : Nat) : cnK (N ++ Z) n 4 = cntP N n := by
  match Z, hZ with
  | [z0, z1, z2, z3], _ =>
    simp only [cnK, cntP]
    have e : ∀ (i : Nat) (v : UInt8) (Y : List UInt8), (N ++ Y).set (12 + i) v = N ++ Y.set i v := fun i v Y => by
      rw [List.set_append, if_neg (by omega), hN, Nat.add_sub_cancel_left]
    rw [show 15 - 0 = 12 + 3 from rfl, e, show 15 - 1 = 12 + 2 from rfl, e, show 15 - 2 = 12 + 1 from rfl, e, show 15 - 3 = 12 + 0 from rfl, e]
    simp

theorem ct_l3 {a : Frm} {H : Heap} {c p : Nat} {C : List UInt8} {e : TypeId} (h10 : a.get 10 = some (.ptr (some (c, 0)))) (h11 : a.get 11 = some (nn p)) (hp : p < 1099511627776) (hC : C.length = 16)
    (hc : H.t.get c = some (.cells (bs C) e false false)) {Q : AExit → Frm → Heap → Prop}
    (hQ : ∀ a' H', a'.get 1 = a.get 1 → a'.get 8 = a.get 8 → a'.get 9 = a.get 9 → a'.get 10 = a.get 10 → a'.get 11 = a.get 11 → H'.next = H.next → (∀ j, H'.t.get j = if c = j then some (.cells (bs (cnK C (p / 16) 4)) e false false) else H.t.get j) → Q .normal a' H') :
    W E ctLoop3 (a.set 40 (nn 0)) H Q := by
  refine W.block ?_
  refine W.count 4 (fun i a' H' => H'.next = H.next ∧ (∀ j, H'.t.get j = if c = j then some (.cells (bs (cnK C (p / 16) i)) e false false) else H.t.get j) ∧ a'.get 1 = a.get 1 ∧ a'.get 8 = a.get 8 ∧ a'.get 9 = a.get 9 ∧ a'.get 10 = a.get 10 ∧ a'.get 11 = a.get 11 ∧ a'.get 40 = some (nn i)) ?_ ?_ 0 _ H (by omega) ?_
  · intro i a1 H1 hi ⟨hn, hb, g1, g8, g9, g10, g11, g40⟩
    rw [h10] at g10
    rw [h11] at g11
    obtain ⟨T1, n1⟩ := H1
    refine W.seq (W.region ?_)
    simp only [w_mov, w_ibin, w_load1, w_loadN, w_nilCheck, w_indexArr, w_indexSl, w_indexVal, w_indexStr, w_lenStr, w_lenSl, w_store, w_alloc, w_box, w_build, w_sliceArr, w_bytesToStr, w_pick, WOps_nil, thenQ_normal, eX_t, eX_c, put_s, put_n, getset, Nat.reduceEqDiff, if_false, if_true, Option.getD_some, rd, natOf_nn, natOf_by, Option.some.injEq, exists_eq_left', Prod.mk.injEq, and_assoc, exists_and_left, true_and, Nat.zero_add, Nat.add_zero, Nat.mul_one, ble_t, mul_nn, quo_nn, rem_nn, add_nn, sub_nn, lss_nn, eql_nn, neq_nn, xor_by, k0, k1, k2, k3, k4, k5, k6, k7, k8, k12, k13, k14, k15, k16, k32, k60, k254, k256, g40]
    refine W.seq (W.cond (b := true) (by simp only [eX_t, eX_c, put_s, put_n, getset, Nat.reduceEqDiff, if_false, if_true, Option.getD_some]; simp [hi]) (W.skip ?_))
    rw [thenQ_normal]
    refine W.seq (W.block (W.seq (W.region ?_)))
    simp only [w_mov, w_ibin, w_load1, w_loadN, w_nilCheck, w_indexArr, w_indexSl, w_indexVal, w_indexStr, w_lenStr, w_lenSl, w_store, w_alloc, w_box, w_build, w_sliceArr, w_bytesToStr, w_pick, WOps_nil, thenQ_normal, eX_t, eX_c, put_s, put_n, getset, Nat.reduceEqDiff, if_false, if_true, Option.getD_some, rd, natOf_nn, natOf_by, Option.some.injEq, exists_eq_left', Prod.mk.injEq, and_assoc, exists_and_left, true_and, Nat.zero_add, Nat.add_zero, Nat.mul_one, ble_t, mul_nn, quo_nn, rem_nn, add_nn, sub_nn, lss_nn, eql_nn, neq_nn, xor_by, k0, k1, k2, k3, k4, k5, k6, k7, k8, k12, k13, k14, k15, k16, k32, k60, k254, k256, g40]
    refine W.region ?_
    have hcb : T1.get c = some (.cells (bs (cnK C (p / 16) i)) e false false) := by have := hb c; rwa [if_pos rfl] at this
    simp (disch := omega) only [w_mov, w_ibin, w_load1, w_loadN, w_nilCheck, w_indexArr, w_indexSl, w_indexVal, w_indexStr, w_lenStr, w_lenSl, w_store, w_alloc, w_box, w_build, w_sliceArr, w_bytesToStr, w_pick, WOps_nil, thenQ_normal, eX_t, eX_c, put_s, put_n, getset, Nat.reduceEqDiff, if_false, if_true, Option.getD_some, rd, natOf_nn, natOf_by, Option.some.injEq, exists_eq_left', Prod.mk.injEq, and_assoc, exists_and_left, true_and, Nat.zero_add, Nat.add_zero, Nat.mul_one, ble_t, mul_nn, quo_nn, rem_nn, add_nn, sub_nn, lss_nn, eql_nn, neq_nn, xor_by, k0, k1, k2, k3, k4, k5, k6, k7, k8, k12, k13, k14, k15, k16, k32, k60, k254, k256, g11, shr_nn]
    rw [w_convI]
    refine ⟨_, conv_nn (n := p / 16 / 2 ^ (8 * i)) (by simp only [eX_t, eX_c, put_s, put_n, getset, Nat.reduceEqDiff, if_false, if_true, Option.getD_some]), ?_⟩
    simp (disch := omega) only [w_mov, w_ibin, w_load1, w_loadN, w_nilCheck, w_indexArr, w_indexSl, w_indexVal, w_indexStr, w_lenStr, w_lenSl, w_store, w_alloc, w_box, w_build, w_sliceArr, w_bytesToStr, w_pick, WOps_nil, thenQ_normal, eX_t, eX_c, put_s, put_n, getset, Nat.reduceEqDiff, if_false, if_true, Option.getD_some, rd, natOf_nn, natOf_by, Option.some.injEq, exists_eq_left', Prod.mk.injEq, and_assoc, exists_and_left, true_and, Nat.zero_add, Nat.add_zero, Nat.mul_one, ble_t, mul_nn, quo_nn, rem_nn, add_nn, sub_nn, lss_nn, eql_nn, neq_nn, xor_by, k0, k1, k2, k3, k4, k5, k6, k7, k8, k12, k13, k14, k15, k16, k32, k60, k254, k256, g10]
    simp (disch := omega) only [w_store, eX_t, eX_c, put_s, put_n, getset, Nat.reduceEqDiff, if_false, if_true, Option.getD_some, wst_by hcb (show 15 - i < (cnK C (p / 16) i).length by rw [length_cnK]; omega), Option.some.injEq, Prod.mk.injEq, exists_eq_left', and_assoc, exists_and_left, WOps_nil, blockQ_normal, thenQ_normal]
    refine W.region ?_
    simp (disch := omega) only [w_mov, w_ibin, w_load1, w_loadN, w_nilCheck, w_indexArr, w_indexSl, w_indexVal, w_indexStr, w_lenStr, w_lenSl, w_store, w_alloc, w_box, w_build, w_sliceArr, w_bytesToStr, w_pick, WOps_nil, thenQ_normal, eX_t, eX_c, put_s, put_n, getset, Nat.reduceEqDiff, if_false, if_true, Option.getD_some, rd, natOf_nn, natOf_by, Option.some.injEq, exists_eq_left', Prod.mk.injEq, and_assoc, exists_and_left, true_and, Nat.zero_add, Nat.add_zero, Nat.mul_one, ble_t, mul_nn, quo_nn, rem_nn, add_nn, sub_nn, lss_nn, eql_nn, neq_nn, xor_by, k0, k1, k2, k3, k4, k5, k6, k7, k8, k12, k13, k14, k15, k16, k32, k60, k254, k256, g40]
    refine ⟨hn, ?_, g1, g8, g9, by rw [h10]; exact g10, by rw [h11]; exact g11, trivial⟩
    intro j
    by_cases h : c = j
    · rw [if_pos h, if_pos h, cnK]
    · rw [if_neg h, if_neg h]; have := hb j; rwa [if_neg h] at this
  · intro a1 H1 ⟨hn, hb, g1, g8, g9, g10, g11, g40⟩
    refine W.seq (W.region ?_)
    simp only [w_mov, w_ibin, w_load1, w_loadN, w_nilCheck, w_indexArr, w_indexSl, w_indexVal, w_indexStr, w_lenStr, w_lenSl, w_store, w_alloc, w_box, w_build, w_sliceArr, w_bytesToStr, w_pick, WOps_nil, thenQ_normal, eX_t, eX_c, put_s, put_n, getset, Nat.reduceEqDiff, if_false, if_true, Option.getD_some, rd, natOf_nn, natOf_by, Option.some.injEq, exists_eq_left', Prod.mk.injEq, and_assoc, exists_and_left, true_and, Nat.zero_add, Nat.add_zero, Nat.mul_one, ble_t, mul_nn, quo_nn, rem_nn, add_nn, sub_nn, lss_nn, eql_nn, neq_nn, xor_by, k0, k1, k2, k3, k4, k5, k6, k7, k8, k12, k13, k14, k15, k16, k32, k60, k254, k256, g40]
    refine W.seq (W.cond (b := false) (by simp only [eX_t, eX_c, put_s, put_n, getset, Nat.reduceEqDiff, if_false, if_true, Option.getD_some]; simp) (W.exit ?_))
    refine ⟨nofun, ?_⟩
    simp only [blockQ_exit, Nat.beq_refl, cond_true]
    refine hQ _ _ ?_ ?_ ?_ ?_ ?_ hn hb <;> simp only [getset, Nat.reduceEqDiff, if_false] <;> assumption
  · refine ⟨rfl, ?_, ?_, ?_, ?_, ?_, ?_, ?_⟩
    · intro j
      by_cases h : c = j
      · subst h; rw [if_pos rfl]; exact hc
      · rw [if_neg h]
    all_goals simp only [getset, Nat.reduceEqDiff, if_false, if_true]

end Go.AE
end
-- Contracts of aes: Ctr: a block's bytes laid over the text.
section
set_option linter.unusedVariables false
set_option linter.unusedSimpArgs false
set_option maxRecDepth 100000
set_option maxHeartbeats 1000000
namespace Go.AE
variable {E : Env}
attribute [local irreducible] keysP encP

/-- a text with so many bytes of a stream laid over it, from a place on -/
def xoK (O S : List UInt8) (p : Nat) : Nat → List UInt8
  | 0 => O
  | i + 1 => (xoK O S p i).set (p + i) ((xoK O S p i).getD (p + i) 0 ^^^ S.getD i 0)
theorem length_xoK (O S : List UInt8) (p : Nat) : ∀ i, (xoK O S p i).length = O.length
  | 0 => rfl
  | i + 1 => by rw [xoK, List.length_set, length_xoK O S p i]

theorem ct_d {a : Frm} {H : Heap} {b s p i L : Nat} {cap : ACap} {O S : List UInt8} {e e' : TypeId} {op : Bool} (h9 : a.get 9 = some (.slice (some (b, 0)) L cap)) (h11 : a.get 11 = some (nn p)) (h13 : a.get 13 = some (.ptr (some (s, 0)))) (h14 : a.get 14 = some (nn i))
    (hi : i < 16) (hp : p + i < L) (hL : L < 1099511627776) (hO : O.length = L) (hS : S.length = 16)
    (hb : H.t.get b = some (.cells (bs O) e op false)) (hs : H.t.get s = some (.cells (bs S) e' false false)) {Q : AExit → Frm → Heap → Prop}
    (hQ : ∀ a', a'.get 1 = a.get 1 → a'.get 8 = a.get 8 → a'.get 9 = a.get 9 → a'.get 10 = a.get 10 → a'.get 11 = a.get 11 → a'.get 13 = a.get 13 → a'.get 64 = a.get 64 → a'.get 65 = a.get 65 →
      Q .normal a' ⟨H.t.set b (.cells (bs (O.set (p + i) (O.getD (p + i) 0 ^^^ S.getD i 0))) e op false), H.next + 12⟩) : W E (.draw ctDraw) a H Q := by
  refine W_draw (l := _) rfl (N := 12) rfl ?_
  have e1 : (bs O)[p + i]? = some (by' (O.getD (p + i) 0)) := getbs (by omega)
  have e2 : (bs S)[i]? = some (by' (S.getD i 0)) := getbs (by omega)
  simp (disch := omega) only [ctDraw, l_mov, l_ibin, l_load1, l_loadN, l_nilCheck, l_indexArr, l_indexSl, l_indexVal, l_indexStr, l_lenStr, l_lenSl, l_store, l_build, WL_nil, eX_t, eX_c, put_s, put_n, getset, Nat.reduceEqDiff, if_false, if_true, Option.getD_some, rd, natOf_nn, natOf_by, Option.some.injEq, exists_eq_left', Prod.mk.injEq, and_assoc, exists_and_left, true_and, Nat.zero_add, Nat.add_zero, Nat.mul_one, ble_t, mul_nn, quo_nn, rem_nn, add_nn, sub_nn, lss_nn, eql_nn, neq_nn, xor_by, k0, k1, k2, k3, k4, k5, k6, k7, k8, k12, k13, k14, k15, k16, k32, k60, k254, k256, h9, h11, h13, h14, load_blk' hs, load_blk' hb, e1, e2]
  simp (disch := omega) only [wr0_store, eX_t, eX_c, put_s, put_n, getset, Nat.reduceEqDiff, if_false, if_true, Option.getD_some, wst_by hb, Option.some.injEq, Prod.mk.injEq, exists_eq_left', and_assoc, exists_and_left, WL_nil, true_and]
  refine ⟨?_, _, _, rfl, ?_⟩
  · simp only [stable_cons, stable_nil, sm_mov, sm_ibin, sm_nilCheck, sm_indexArr, sm_indexSl, sm_indexVal, sm_indexStr, sm_lenStr, sm_lenSl, sm_build, sm_store, sm_call, Bool.true_and, Bool.and_true, Bool.and_eq_true, List.reverse_cons, List.reverse_nil, List.nil_append, List.cons_append, List.drop_zero, List.drop_succ_cons, Nat.sub_zero, Nat.succ_eq_add_one, Nat.zero_add, Nat.reduceAdd, Nat.reduceSub, List.take_succ_cons, List.take_zero, List.take_nil]
    refine ⟨sm_load1 rfl (b := b) (o := p + i) (v := by' (O.getD (p + i) 0)) ?_ ?_ ?_ (AVbeq_by _), sm_load1 rfl (b := s) (o := i) (v := by' (S.getD i 0)) ?_ ?_ ?_ (AVbeq_by _)⟩
    all_goals first
      | simp only [eX_t, eX_c, put_s, put_n, getset, Nat.reduceEqDiff, if_false, if_true, Option.getD_some]; done
      | (intro H' hH'; simp only [List.mem_singleton] at hH'; subst hH'; simp only [load_blk' hs, load_blk' hb, e1, e2])
  · refine hQ _ ?_ ?_ ?_ ?_ ?_ ?_ ?_ ?_ <;> simp only [getset, Nat.reduceEqDiff, if_false]

theorem ct_l5 {a : Frm} {H : Heap} {b s p L m : Nat} {cap : ACap} {O S : List UInt8} {e e' : TypeId} {op : Bool} (h9 : a.get 9 = some (.slice (some (b, 0)) L cap)) (h11 : a.get 11 = some (nn p)) (h13 : a.get 13 = some (.ptr (some (s, 0))))
    (h64 : a.get 64 = some (nn m)) (hm : m ≤ 16) (hp : p + m ≤ L) (hL : L < 1099511627776) (hO : O.length = L) (hS : S.length = 16) (hbs : b ≠ s)
    (hb : H.t.get b = some (.cells (bs O) e op false)) (hs : H.t.get s = some (.cells (bs S) e' false false)) {Q : AExit → Frm → Heap → Prop}
    (hQ : ∀ a' H', a'.get 1 = a.get 1 → a'.get 8 = a.get 8 → a'.get 9 = a.get 9 → a'.get 10 = a.get 10 → a'.get 11 = a.get 11 → H.next ≤ H'.next →
      (∀ j, H'.t.get j = if b = j then some (.cells (bs (xoK O S p m)) e op false) else H.t.get j) → Q .normal a' H') : W E ctLoop5 (a.set 65 (nn 0)) H Q := by
  refine W.block ?_
  refine W.count m (fun i a' H' => H.next ≤ H'.next ∧ (∀ j, H'.t.get j = if b = j then some (.cells (bs (xoK O S p i)) e op false) else H.t.get j) ∧ a'.get 1 = a.get 1 ∧ a'.get 8 = a.get 8 ∧ a'.get 9 = a.get 9 ∧ a'.get 10 = a.get 10 ∧ a'.get 11 = a.get 11 ∧ a'.get 13 = a.get 13 ∧ a'.get 64 = a.get 64 ∧ a'.get 65 = some (nn i)) ?_ ?_ 0 _ H (by omega) ?_
  · intro i a1 H1 hi ⟨hn, hk, g1, g8, g9, g10, g11, g13, g64, g65⟩
    rw [h64] at g64
    refine W.seq (W.region ?_)
    simp only [w_mov, w_ibin, w_load1, w_loadN, w_nilCheck, w_indexArr, w_indexSl, w_indexVal, w_indexStr, w_lenStr, w_lenSl, w_store, w_alloc, w_box, w_build, w_sliceArr, w_bytesToStr, w_pick, WOps_nil, thenQ_normal, eX_t, eX_c, put_s, put_n, getset, Nat.reduceEqDiff, if_false, if_true, Option.getD_some, rd, natOf_nn, natOf_by, Option.some.injEq, exists_eq_left', Prod.mk.injEq, and_assoc, exists_and_left, true_and, Nat.zero_add, Nat.add_zero, Nat.mul_one, ble_t, mul_nn, quo_nn, rem_nn, add_nn, sub_nn, lss_nn, eql_nn, neq_nn, xor_by, k0, k1, k2, k3, k4, k5, k6, k7, k8, k12, k13, k14, k15, k16, k32, k60, k254, k256, g64, g65]
    refine W.seq (W.cond (b := true) (by simp only [eX_t, eX_c, put_s, put_n, getset, Nat.reduceEqDiff, if_false, if_true, Option.getD_some]; simp [hi]) (W.skip ?_))
    rw [thenQ_normal]
    refine W.seq (W.block (W.seq (W.region ?_)))
    simp only [w_mov, w_ibin, w_load1, w_loadN, w_nilCheck, w_indexArr, w_indexSl, w_indexVal, w_indexStr, w_lenStr, w_lenSl, w_store, w_alloc, w_box, w_build, w_sliceArr, w_bytesToStr, w_pick, WOps_nil, thenQ_normal, eX_t, eX_c, put_s, put_n, getset, Nat.reduceEqDiff, if_false, if_true, Option.getD_some, rd, natOf_nn, natOf_by, Option.some.injEq, exists_eq_left', Prod.mk.injEq, and_assoc, exists_and_left, true_and, Nat.zero_add, Nat.add_zero, Nat.mul_one, ble_t, mul_nn, quo_nn, rem_nn, add_nn, sub_nn, lss_nn, eql_nn, neq_nn, xor_by, k0, k1, k2, k3, k4, k5, k6, k7, k8, k12, k13, k14, k15, k16, k32, k60, k254, k256, g65]
    refine ct_d (O := xoK O S p i) (S := S) (p := p) (i := i) (b := b) (s := s) (L := L) (cap := cap) (e := e) (e' := e') (op := op) (by simp only [eX_t, eX_c, put_s, put_n, getset, Nat.reduceEqDiff, if_false, if_true, Option.getD_some]; rw [g9]; exact h9) (by simp only [eX_t, eX_c, put_s, put_n, getset, Nat.reduceEqDiff, if_false, if_true, Option.getD_some]; rw [g11]; exact h11) (by simp only [eX_t, eX_c, put_s, put_n, getset, Nat.reduceEqDiff, if_false, if_true, Option.getD_some]; rw [g13]; exact h13) (by simp only [eX_t, eX_c, put_s, put_n, getset, Nat.reduceEqDiff, if_false, if_true, Option.getD_some])
      (by omega) (by omega) hL (by rw [length_xoK]; exact hO) hS (by have := hk b; rwa [if_pos rfl] at this) (by have := hk s; rw [if_neg hbs] at this; rw [this]; exact hs) ?_
    intro a' f1 f8 f9 f10 f11 f13 f64 f65
    simp only [getset, Nat.reduceEqDiff, if_false] at f1 f8 f9 f10 f11 f13 f64 f65
    simp only [blockQ_normal, thenQ_normal]
    refine W.region ?_
    rw [g65] at f65
    simp (disch := omega) only [w_mov, w_ibin, w_load1, w_loadN, w_nilCheck, w_indexArr, w_indexSl, w_indexVal, w_indexStr, w_lenStr, w_lenSl, w_store, w_alloc, w_box, w_build, w_sliceArr, w_bytesToStr, w_pick, WOps_nil, thenQ_normal, eX_t, eX_c, put_s, put_n, getset, Nat.reduceEqDiff, if_false, if_true, Option.getD_some, rd, natOf_nn, natOf_by, Option.some.injEq, exists_eq_left', Prod.mk.injEq, and_assoc, exists_and_left, true_and, Nat.zero_add, Nat.add_zero, Nat.mul_one, ble_t, mul_nn, quo_nn, rem_nn, add_nn, sub_nn, lss_nn, eql_nn, neq_nn, xor_by, k0, k1, k2, k3, k4, k5, k6, k7, k8, k12, k13, k14, k15, k16, k32, k60, k254, k256, f65]
    refine ⟨by omega, ?_, f1.trans g1, f8.trans g8, f9.trans g9, f10.trans g10, f11.trans g11, f13.trans g13, f64.trans (g64.trans h64.symm), trivial⟩
    intro j
    by_cases h : b = j
    · rw [if_pos h, if_pos h, xoK]
    · rw [if_neg h, if_neg h]; have := hk j; rwa [if_neg h] at this
  · intro a1 H1 ⟨hn, hk, g1, g8, g9, g10, g11, g13, g64, g65⟩
    rw [h64] at g64
    refine W.seq (W.region ?_)
    simp only [w_mov, w_ibin, w_load1, w_loadN, w_nilCheck, w_indexArr, w_indexSl, w_indexVal, w_indexStr, w_lenStr, w_lenSl, w_store, w_alloc, w_box, w_build, w_sliceArr, w_bytesToStr, w_pick, WOps_nil, thenQ_normal, eX_t, eX_c, put_s, put_n, getset, Nat.reduceEqDiff, if_false, if_true, Option.getD_some, rd, natOf_nn, natOf_by, Option.some.injEq, exists_eq_left', Prod.mk.injEq, and_assoc, exists_and_left, true_and, Nat.zero_add, Nat.add_zero, Nat.mul_one, ble_t, mul_nn, quo_nn, rem_nn, add_nn, sub_nn, lss_nn, eql_nn, neq_nn, xor_by, k0, k1, k2, k3, k4, k5, k6, k7, k8, k12, k13, k14, k15, k16, k32, k60, k254, k256, g64, g65]
    refine W.seq (W.cond (b := false) (by simp only [eX_t, eX_c, put_s, put_n, getset, Nat.reduceEqDiff, if_false, if_true, Option.getD_some]; simp) (W.exit ?_))
    refine ⟨nofun, ?_⟩
    simp only [blockQ_exit, Nat.beq_refl, cond_true]
    refine hQ _ _ ?_ ?_ ?_ ?_ ?_ hn hk <;> simp only [getset, Nat.reduceEqDiff, if_false] <;> assumption
  · refine ⟨Nat.le_refl _, ?_, ?_, ?_, ?_, ?_, ?_, ?_, ?_, ?_⟩
    · intro j
      by_cases h : b = j
      · subst h; rw [if_pos rfl]; exact hb
      · rw [if_neg h]
    all_goals simp only [getset, Nat.reduceEqDiff, if_false, if_true]

end Go.AE
end
-- Contracts of aes: Ctr, the main loop.
section
set_option linter.unusedVariables false
set_option linter.unusedSimpArgs false
set_option maxRecDepth 100000
set_option maxHeartbeats 1000000
namespace Go.AE
variable {E : Env}

/-- a block of the stream -/
def stP (C N : List UInt8) (n : Nat) : List UInt8 := encP C (cntP N n)
theorem length_cntP {N : List UInt8} (h : N.length = 12) (n : Nat) : (cntP N n).length = 16 := by simp [cntP, h]
theorem length_stP {C N : List UInt8} (h : N.length = 12) (n : Nat) : (stP C N n).length = 16 := length_encP (length_cntP h n)

attribute [local irreducible] keysP encP stP

/-- a text under the stream, so many blocks done -/
def xsP (C N T : List UInt8) : Nat → List UInt8
  | 0 => T
  | i + 1 => xoK (xsP C N T i) (stP C N i) (16 * i) (min (16 * i + 16) T.length - 16 * i)
theorem length_xsP (C N T : List UInt8) : ∀ i, (xsP C N T i).length = T.length
  | 0 => rfl
  | i + 1 => by rw [xsP, length_xoK, length_xsP C N T i]

theorem ct_main (hE : ∀ f, E.funcs f = Aes.funcsT.get f) (hx : ∀ f args H, special f = false → E.sums f args H = none) {a : Frm} {H : Heap} {k b c L : Nat} {C N Z T : List UInt8} {e e' e2 : TypeId} {op op' ro' : Bool}
    (h8 : a.get 8 = some (.ptr (some (k, 0)))) (h9 : a.get 9 = some (.slice (some (b, 0)) L (.unk 1))) (h10 : a.get 10 = some (.ptr (some (c, 0)))) (hL : L < 1099511627776) (hT : T.length = L) (hN : N.length = 12) (hZ : Z.length = 4) (hC : C.length = 240)
    (hkn : k < H.next) (hbn : b < H.next) (hcn : c < H.next) (hkb : k ≠ b) (hkc : k ≠ c) (hbc : b ≠ c)
    (hk : H.t.get k = some (.cells (bs C) e' op' ro')) (hb : H.t.get b = some (.cells (bs T) e op false)) (hc : H.t.get c = some (.cells (bs (N ++ Z)) e2 false false)) {Q : AExit → Frm → Heap → Prop}
    (hQ : ∀ a' H', a'.get 9 = a.get 9 → H.next ≤ H'.next → (∀ j, j < H.next → j ≠ c → H'.t.get j = if b = j then some (.cells (bs (xsP C N T ((L + 15) / 16))) e op false) else H.t.get j) → Q .normal a' H') : W E ctMain (a.set 11 (nn 0)) H Q := by
  refine W.block ?_
  refine W.count ((L + 15) / 16) (fun i a' H' => H.next ≤ H'.next ∧ (∃ Z : List UInt8, Z.length = 4 ∧ ∀ j, j < H.next → H'.t.get j = if b = j then some (.cells (bs (xsP C N T i)) e op false) else if c = j then some (.cells (bs (N ++ Z)) e2 false false) else H.t.get j) ∧ a'.get 8 = a.get 8 ∧ a'.get 9 = a.get 9 ∧ a'.get 10 = a.get 10 ∧ a'.get 11 = some (nn (16 * i))) ?_ ?_ 0 _ H (by omega) ?_
  · intro i a1 H1 hi ⟨hn, ⟨Z1, hZ1, hk1⟩, g8, g9, g10, g11⟩
    have hiL : 16 * i < L := by omega
    rw [h8] at g8
    rw [h9] at g9
    rw [h10] at g10
    have e32 : ∀ n : Nat, AV.int .i64 (.ofNat n) = nn n := fun _ => rfl
    refine W.seq (W.seq (W.region ?_))
    simp only [w_mov, w_ibin, w_load1, w_loadN, w_nilCheck, w_indexArr, w_indexSl, w_indexVal, w_indexStr, w_lenStr, w_lenSl, w_store, w_alloc, w_box, w_build, w_sliceArr, w_bytesToStr, w_pick, WOps_nil, thenQ_normal, eX_t, eX_c, put_s, put_n, getset, Nat.reduceEqDiff, if_false, if_true, Option.getD_some, rd, natOf_nn, natOf_by, Option.some.injEq, exists_eq_left', Prod.mk.injEq, and_assoc, exists_and_left, true_and, Nat.zero_add, Nat.add_zero, Nat.mul_one, ble_t, mul_nn, quo_nn, rem_nn, add_nn, sub_nn, lss_nn, eql_nn, neq_nn, xor_by, k0, k1, k2, k3, k4, k5, k6, k7, k8, k12, k13, k14, k15, k16, k32, k60, k254, k256, g9, g11, e32]
    refine W.cond (b := true) (by simp only [eX_t, eX_c, put_s, put_n, getset, Nat.reduceEqDiff, if_false, if_true, Option.getD_some]; simp [hiL]) (W.skip ?_)
    rw [thenQ_normal]
    refine W.seq (W.block (W.seq (W.seq (W.region ?_))))
    simp only [w_mov, w_ibin, w_load1, w_loadN, w_nilCheck, w_indexArr, w_indexSl, w_indexVal, w_indexStr, w_lenStr, w_lenSl, w_store, w_alloc, w_box, w_build, w_sliceArr, w_bytesToStr, w_pick, WOps_nil, thenQ_normal, eX_t, eX_c, put_s, put_n, getset, Nat.reduceEqDiff, if_false, if_true, Option.getD_some, rd, natOf_nn, natOf_by, Option.some.injEq, exists_eq_left', Prod.mk.injEq, and_assoc, exists_and_left, true_and, Nat.zero_add, Nat.add_zero, Nat.mul_one, ble_t, mul_nn, quo_nn, rem_nn, add_nn, sub_nn, lss_nn, eql_nn, neq_nn, xor_by, k0, k1, k2, k3, k4, k5, k6, k7, k8, k12, k13, k14, k15, k16, k32, k60, k254, k256]
    refine ct_l3 (c := c) (p := 16 * i) (C := N ++ Z1) (e := e2) (by simp only [eX_t, eX_c, put_s, put_n, getset, Nat.reduceEqDiff, if_false, if_true, Option.getD_some]; exact g10) (by simp only [eX_t, eX_c, put_s, put_n, getset, Nat.reduceEqDiff, if_false, if_true, Option.getD_some]; exact g11) (by omega) (by simp [hN, hZ1]) (by rw [hk1 c hcn, if_neg hbc, if_pos rfl]) ?_
    intro a2 H2 f1 f8 f9 f10 f11 hn2 hk2
    simp only [getset, Nat.reduceEqDiff, if_false] at f8 f9 f10 f11
    rw [g8] at f8
    rw [g9] at f9
    rw [g10] at f10
    rw [g11] at f11
    rw [Nat.mul_div_cancel_left i (by omega : 0 < 16), cnK_4 hN hZ1] at hk2
    simp only [thenQ_normal]
    refine W.seq (W.region ?_)
    obtain ⟨T2, n2⟩ := H2
    simp only at hn2 hk2
    have hcb : T2.get c = some (.cells (bs (cntP N i)) e2 false false) := by rw [hk2, if_pos rfl]
    simp only [w_mov, w_ibin, w_load1, w_loadN, w_nilCheck, w_indexArr, w_indexSl, w_indexVal, w_indexStr, w_lenStr, w_lenSl, w_store, w_alloc, w_box, w_build, w_sliceArr, w_bytesToStr, w_pick, WOps_nil, thenQ_normal, eX_t, eX_c, put_s, put_n, getset, Nat.reduceEqDiff, if_false, if_true, Option.getD_some, rd, natOf_nn, natOf_by, Option.some.injEq, exists_eq_left', Prod.mk.injEq, and_assoc, exists_and_left, true_and, Nat.zero_add, Nat.add_zero, Nat.mul_one, ble_t, mul_nn, quo_nn, rem_nn, add_nn, sub_nn, lss_nn, eql_nn, neq_nn, xor_by, k0, k1, k2, k3, k4, k5, k6, k7, k8, k12, k13, k14, k15, k16, k32, k60, k254, k256, f8, f10, loadN_bs hcb (length_cntP hN i)]
    refine WOps.call (g := 18) (first := []) (captured := []) rfl ?_
    simp only [List.map_nil, List.map_cons, List.nil_append, List.append_nil, eX_t, eX_c, put_s, put_n, getset, Nat.reduceEqDiff, if_false, if_true, Option.getD_some]
    refine enc_ok hE hx (length_cntP hN i) hC (e' := e') (op' := op') (ro' := ro') (by show k < n2; omega) (by show T2.get k = _; rw [hk2, if_neg (Ne.symm hkc), hk1 k hkn, if_neg (Ne.symm hkb), if_neg (Ne.symm hkc)]; exact hk) ?_
    intro H3 hn3 hk3
    simp only at hn3 hk3
    have hst : encP C (cntP N i) = stP C N i := by unfold stP; rfl
    rw [hst]
    have hsl := length_stP (C := C) hN i
    rw [zero16, w_alloc]
    have hp := get_push H3 (.cells (bs (List.replicate 16 0)) 38 false false)
    have hpn := next_push H3 (.cells (bs (List.replicate 16 0)) 38 false false)
    generalize H3.push (.cells (bs (List.replicate 16 0)) 38 false false) = H4 at hp hpn ⊢
    obtain ⟨T4, n4⟩ := H4
    simp only at hp hpn
    have hz : T4.get H3.next = some (.cells (bs (List.replicate 16 0)) 38 false false) := by rw [hp, if_pos rfl]
    simp only [w_store, eX_t, eX_c, put_s, put_n, getset, Nat.reduceEqDiff, if_false, if_true, Option.getD_some, wst_agg hz List.length_replicate hsl, Option.some.injEq, Prod.mk.injEq, exists_eq_left', and_assoc, exists_and_left, WOps_nil, thenQ_normal]
    refine W.seq (W.region ?_)
    simp (disch := omega) only [w_mov, w_ibin, w_load1, w_loadN, w_nilCheck, w_indexArr, w_indexSl, w_indexVal, w_indexStr, w_lenStr, w_lenSl, w_store, w_alloc, w_box, w_build, w_sliceArr, w_bytesToStr, w_pick, WOps_nil, thenQ_normal, eX_t, eX_c, put_s, put_n, getset, Nat.reduceEqDiff, if_false, if_true, Option.getD_some, rd, natOf_nn, natOf_by, Option.some.injEq, exists_eq_left', Prod.mk.injEq, and_assoc, exists_and_left, true_and, Nat.zero_add, Nat.add_zero, Nat.mul_one, ble_t, mul_nn, quo_nn, rem_nn, add_nn, sub_nn, lss_nn, eql_nn, neq_nn, xor_by, k0, k1, k2, k3, k4, k5, k6, k7, k8, k12, k13, k14, k15, k16, k32, k60, k254, k256, w_minI, f9, f11, e32, List.map_cons, List.map_nil, min_nn]
    rw [w_sliceSl]
    refine ⟨.slice (some (b, 16 * i)) (min (16 * i + 16) L - 16 * i) (.unk 1), ?_, ?_⟩
    · simp only [rd, eX_t, eX_c, put_s, put_n, getset, Nat.reduceEqDiff, if_false, if_true, Option.getD_some]
      rw [bounds_lh (l := 16 * i) (h := min (16 * i + 16) L) (by simp only [eX_t, eX_c, put_s, put_n, getset, Nat.reduceEqDiff, if_false, if_true, Option.getD_some]) (by simp only [eX_t, eX_c, put_s, put_n, getset, Nat.reduceEqDiff, if_false, if_true, Option.getD_some]) (by omega) (by omega)]
      show some (AV.slice (some (b, 0 + 16 * i * 1)) _ _) = _
      rw [Nat.zero_add, Nat.mul_one]
    simp only [w_mov, w_ibin, w_load1, w_loadN, w_nilCheck, w_indexArr, w_indexSl, w_indexVal, w_indexStr, w_lenStr, w_lenSl, w_store, w_alloc, w_box, w_build, w_sliceArr, w_bytesToStr, w_pick, WOps_nil, thenQ_normal, eX_t, eX_c, put_s, put_n, getset, Nat.reduceEqDiff, if_false, if_true, Option.getD_some, rd, natOf_nn, natOf_by, Option.some.injEq, exists_eq_left', Prod.mk.injEq, and_assoc, exists_and_left, true_and, Nat.zero_add, Nat.add_zero, Nat.mul_one, ble_t, mul_nn, quo_nn, rem_nn, add_nn, sub_nn, lss_nn, eql_nn, neq_nn, xor_by, k0, k1, k2, k3, k4, k5, k6, k7, k8, k12, k13, k14, k15, k16, k32, k60, k254, k256, e32]
    refine ct_l5 (b := b) (s := H3.next) (p := 16 * i) (L := L) (m := min (16 * i + 16) L - 16 * i) (cap := .unk 1) (O := xsP C N T i) (S := stP C N i) (e := e) (e' := 38) (op := op) (by simp only [eX_t, eX_c, put_s, put_n, getset, Nat.reduceEqDiff, if_false, if_true, Option.getD_some]; exact f9) (by simp only [eX_t, eX_c, put_s, put_n, getset, Nat.reduceEqDiff, if_false, if_true, Option.getD_some]; exact f11) (by simp only [eX_t, eX_c, put_s, put_n, getset, Nat.reduceEqDiff, if_false, if_true, Option.getD_some]) (by simp only [eX_t, eX_c, put_s, put_n, getset, Nat.reduceEqDiff, if_false, if_true, Option.getD_some]) (by omega) (by omega) hL (by rw [length_xsP]; exact hT) hsl (by omega)
      (by simp only [getset]; rw [if_neg (by omega), hp, if_neg (by omega), hk3 b (by omega), hk2, if_neg (Ne.symm hbc), hk1 b hbn, if_pos rfl]) (by simp only [getset, if_true]) ?_
    intro a5 H5 q1 q8 q9 q10 q11 hn5 hk5
    simp only [getset, Nat.reduceEqDiff, if_false] at q8 q9 q10 q11
    rw [f8] at q8
    rw [f9] at q9
    rw [f10] at q10
    rw [f11] at q11
    simp only at hn5 hk5
    simp only [blockQ_normal, thenQ_normal]
    refine W.region ?_
    simp (disch := omega) only [w_mov, w_ibin, w_load1, w_loadN, w_nilCheck, w_indexArr, w_indexSl, w_indexVal, w_indexStr, w_lenStr, w_lenSl, w_store, w_alloc, w_box, w_build, w_sliceArr, w_bytesToStr, w_pick, WOps_nil, thenQ_normal, eX_t, eX_c, put_s, put_n, getset, Nat.reduceEqDiff, if_false, if_true, Option.getD_some, rd, natOf_nn, natOf_by, Option.some.injEq, exists_eq_left', Prod.mk.injEq, and_assoc, exists_and_left, true_and, Nat.zero_add, Nat.add_zero, Nat.mul_one, ble_t, mul_nn, quo_nn, rem_nn, add_nn, sub_nn, lss_nn, eql_nn, neq_nn, xor_by, k0, k1, k2, k3, k4, k5, k6, k7, k8, k12, k13, k14, k15, k16, k32, k60, k254, k256, q11]
    refine ⟨by omega, ⟨[UInt8.ofNat (i / 2 ^ 24), UInt8.ofNat (i / 2 ^ 16), UInt8.ofNat (i / 2 ^ 8), UInt8.ofNat i], rfl, ?_⟩, by rw [h8]; exact q8, by rw [h9]; exact q9, by rw [h10]; exact q10, by congr 1⟩
    intro j hj
    rw [hk5 j]
    by_cases h : b = j
    · rw [if_pos h, if_pos h, xsP, hT]
    · rw [if_neg h, if_neg h]
      simp only [getset]
      rw [if_neg (by omega), hp, if_neg (by omega), hk3 j (by omega), hk2]
      by_cases h2 : c = j
      · rw [if_pos h2, if_pos h2]; rfl
      · rw [if_neg h2, if_neg h2, hk1 j hj, if_neg h, if_neg h2]
  · intro a1 H1 ⟨hn, ⟨Z1, hZ1, hk1⟩, g8, g9, g10, g11⟩
    rw [h9] at g9
    have e32 : ∀ n : Nat, AV.int .i64 (.ofNat n) = nn n := fun _ => rfl
    refine W.seq (W.seq (W.region ?_))
    simp only [w_mov, w_ibin, w_load1, w_loadN, w_nilCheck, w_indexArr, w_indexSl, w_indexVal, w_indexStr, w_lenStr, w_lenSl, w_store, w_alloc, w_box, w_build, w_sliceArr, w_bytesToStr, w_pick, WOps_nil, thenQ_normal, eX_t, eX_c, put_s, put_n, getset, Nat.reduceEqDiff, if_false, if_true, Option.getD_some, rd, natOf_nn, natOf_by, Option.some.injEq, exists_eq_left', Prod.mk.injEq, and_assoc, exists_and_left, true_and, Nat.zero_add, Nat.add_zero, Nat.mul_one, ble_t, mul_nn, quo_nn, rem_nn, add_nn, sub_nn, lss_nn, eql_nn, neq_nn, xor_by, k0, k1, k2, k3, k4, k5, k6, k7, k8, k12, k13, k14, k15, k16, k32, k60, k254, k256, g9, g11, e32]
    refine W.cond (b := false) (by simp only [eX_t, eX_c, put_s, put_n, getset, Nat.reduceEqDiff, if_false, if_true, Option.getD_some]; simp; omega) (W.exit ?_)
    refine ⟨nofun, ?_⟩
    simp only [blockQ_exit, Nat.beq_refl, cond_true]
    refine hQ _ _ ?_ hn ?_
    · simp only [getset, Nat.reduceEqDiff, if_false]; rw [g9, h9]
    · intro j hj hjc
      rw [hk1 j hj]
      by_cases h : b = j
      · rw [if_pos h, if_pos h]
      · rw [if_neg h, if_neg h, if_neg (Ne.symm hjc)]
  · refine ⟨Nat.le_refl _, ⟨Z, hZ, ?_⟩, ?_, ?_, ?_, ?_⟩
    · intro j hj
      by_cases h : b = j
      · subst h; rw [if_pos rfl]; exact hb
      · rw [if_neg h]
        by_cases h2 : c = j
        · subst h2; rw [if_pos rfl]; exact hc
        · rw [if_neg h2]
    all_goals simp only [getset, Nat.reduceEqDiff, if_false, if_true, Nat.mul_zero]

end Go.AE
end
-- Contracts of aes: Ctr, whole.
section
set_option linter.unusedVariables false
set_option linter.unusedSimpArgs false
set_option maxRecDepth 100000
set_option maxHeartbeats 1000000
namespace Go.AE
variable {E : Env}
attribute [local irreducible] keysP encP stP xsP

theorem kM : AV.int .i64 1048576 = nn 1048576 := rfl
theorem kA : AV.int .i64 1000 = nn 1000 := rfl
theorem kB : AV.int .i64 2000 = nn 2000 := rfl
theorem gtr_nn (a b : Nat) : ibin .gtr (nn a) (nn b) = some (.bool (decide (b < a))) := by
  simp only [nn, ibin, kindEq, cond_true, fits.Int.ble']
  congr 2
  cases h : Nat.ble a b with
  | true => rw [Nat.ble_eq] at h; simp; omega
  | false => have : ¬ a ≤ b := fun h' => by rw [← Nat.ble_eq, h] at h'; exact nomatch h'
             simp; omega

/-- what Ctr answers -/
def ctrP (K N T : List UInt8) : List UInt8 × Nat :=
  if K.length ≠ 32 then ([], 8) else if N.length ≠ 12 then ([], 2) else if 1048576 < T.length then ([], 3) else (xsP (keysP K) N T ((T.length + 15) / 16), 0)

theorem lay_app : ∀ (xs cs : List AV), xs.length ≤ cs.length → lay cs 0 xs = some (xs ++ cs.drop xs.length)
  | [], cs, _ => by cases cs <;> rfl
  | x :: xs, [], h => by simp at h
  | x :: xs, c :: cs, h => by simp only [lay, lay_app xs cs (by simpa using h)]; simp
theorem bs_append (x y : List UInt8) : bs x ++ bs y = bs (x ++ y) := by simp [bs]
theorem bs_drop (x : List UInt8) (n : Nat) : (bs x).drop n = bs (x.drop n) := by simp [bs]
theorem ofBytes_bs (x : List UInt8) : ofBytes x = bs x := rfl

theorem copy_str {T0 : T ABlk} {nx c n : Nat} {a : Frm} {x y : AX} {N C : List UInt8} {e : TypeId} {op : Bool} (hx : evalX a x = .slice (some (c, 0)) n (.known n)) (hy : evalX a y = .str N) (hn : C.length = n) (h0 : N.length ≤ n) (h1 : N.length ≠ 0)
    (hc : T0.get c = some (.cells (bs C) e op false)) : wr0 (.copy 1 x y) a ⟨T0, nx⟩ = some (nn N.length, ⟨T0.set c (.cells (bs (N ++ C.drop N.length)) e op false), nx⟩) := by
  obtain ⟨m, hm⟩ : ∃ m, N.length = m + 1 := ⟨N.length - 1, by omega⟩
  have e1 : Nat.ble (m + 1) n = true := Nat.ble_eq.mpr (by omega)
  have e2 : N.take (m + 1) = N := by rw [← hm, List.take_length]
  simp only [wr0, wr, hx, hy, lenOfA, hm, e1, cond_true, source, e2, ofBytes_bs, Heap.store, hc, all_atom_bs, Bool.not_true, Bool.or_false, cond_false]
  rw [lay_app _ _ (by rw [length_bs, length_bs]; omega)]
  simp only [length_bs, bs_drop, bs_append, hm]
  rfl
theorem w_copy {all os : List AOper} {dst : Option Nat} {n : Nat} {x y : AX} {a : Frm} {H : Heap} {Q : Frm → Heap → Prop} :
    WOps E all (⟨dst, .copy n x y, none⟩ :: os) a H Q ↔ ∃ v H', wr0 (.copy n x y) a H = some (v, H') ∧ WOps E all os (put a dst v) H' Q := WOps_wr rfl rfl
theorem w_strToBytes {all os : List AOper} {dst : Option Nat} {e : TypeId} {x : AX} {a : Frm} {H : Heap} {Q : Frm → Heap → Prop} {S : List UInt8} (hx : evalX a x = .str S)
    (h : WOps E all os (put a dst (.slice (some (H.next, 0)) S.length (.unk 1))) (H.push (.cells (bs S) e true false)) Q) : WOps E all (⟨dst, .strToBytes e x, none⟩ :: os) a H Q := by
  rw [WOps_al rfl]
  refine ⟨.cells (bs S) e true false, fun i => .slice (some (i, 0)) S.length (.unk 1), ?_, h⟩
  simp only [al, hx]
  rfl

theorem toStr {a : Frm} {x : AX} {b L : Nat} {cap : ACap} {S : List UInt8} {T0 : T ABlk} {nx : Nat} {e : TypeId} {op ro : Bool} (hx : evalX a x = .slice (some (b, 0)) L cap) (hl : S.length = L) (hb : T0.get b = some (.cells (bs S) e op ro)) :
    rd (.bytesToStr x) a ⟨T0, nx⟩ = some (.str S) := by
  simp only [rd, hx]
  cases L with
  | zero => obtain rfl := List.eq_nil_of_length_eq_zero hl; rfl
  | succ L => simp only [loadN_bs (nx := nx) hb hl, bytesOf_bs]

theorem Ctr_ok (hE : ∀ f, E.funcs f = Aes.funcsT.get f) (hx : ∀ f args H, special f = false → E.sums f args H = none) {H : Heap} {K N T : List UInt8} {Q : AV → Heap → Prop}
    (hQ : ∀ H', H.next ≤ H'.next → (∀ j, j < H.next → H'.t.get j = H.t.get j) → Q (.tuple [.str (ctrP K N T).1, nn (ctrP K N T).2]) H') : WCall E 12 [.str K, .str N, .str T] H Q := by
  refine WCall.func (hx 12 _ _ (by decide)) ((hE 12).trans rfl) ?_
  have f0 : (frameOf [.str K, .str N, .str T] 0 .nil).get 0 = some (.str K) := rfl
  have f1 : (frameOf [.str K, .str N, .str T] 0 .nil).get 1 = some (.str N) := rfl
  have f2 : (frameOf [.str K, .str N, .str T] 0 .nil).get 2 = some (.str T) := rfl
  generalize frameOf [.str K, .str N, .str T] 0 .nil = a at f0 f1 f2
  have e32 : ∀ n : Nat, AV.int .i64 (.ofNat n) = nn n := fun _ => rfl
  refine W.seq (W.region ?_)
  simp only [w_mov, w_ibin, w_load1, w_loadN, w_nilCheck, w_indexArr, w_indexSl, w_indexVal, w_indexStr, w_lenStr, w_lenSl, w_store, w_alloc, w_box, w_build, w_sliceArr, w_bytesToStr, w_pick, WOps_nil, thenQ_normal, eX_t, eX_c, put_s, put_n, getset, Nat.reduceEqDiff, if_false, if_true, Option.getD_some, rd, natOf_nn, natOf_by, Option.some.injEq, exists_eq_left', Prod.mk.injEq, and_assoc, exists_and_left, true_and, Nat.zero_add, Nat.add_zero, Nat.mul_one, ble_t, mul_nn, quo_nn, rem_nn, add_nn, sub_nn, lss_nn, eql_nn, neq_nn, xor_by, k0, k1, k2, k3, k4, k5, k6, k7, k8, k12, k13, k14, k15, k16, k32, k60, k254, k256]
  refine W.seq (W.block (W.seq (W.region ?_)))
  simp only [w_mov, w_ibin, w_load1, w_loadN, w_nilCheck, w_indexArr, w_indexSl, w_indexVal, w_indexStr, w_lenStr, w_lenSl, w_store, w_alloc, w_box, w_build, w_sliceArr, w_bytesToStr, w_pick, WOps_nil, thenQ_normal, eX_t, eX_c, put_s, put_n, getset, Nat.reduceEqDiff, if_false, if_true, Option.getD_some, rd, natOf_nn, natOf_by, Option.some.injEq, exists_eq_left', Prod.mk.injEq, and_assoc, exists_and_left, true_and, Nat.zero_add, Nat.add_zero, Nat.mul_one, ble_t, mul_nn, quo_nn, rem_nn, add_nn, sub_nn, lss_nn, eql_nn, neq_nn, xor_by, k0, k1, k2, k3, k4, k5, k6, k7, k8, k12, k13, k14, k15, k16, k32, k60, k254, k256, f0, e32]
  refine W.cond (b := decide (K.length ≠ 32)) (by simp only [eX_t, eX_c, put_s, put_n, getset, Nat.reduceEqDiff, if_false, if_true, Option.getD_some]) ?_
  by_cases hK : K.length = 32
  · simp only [hK, ne_eq, not_true_eq_false, decide_false, cond_false]
    refine W.seq (W.region ?_)
    simp only [w_mov, w_ibin, w_load1, w_loadN, w_nilCheck, w_indexArr, w_indexSl, w_indexVal, w_indexStr, w_lenStr, w_lenSl, w_store, w_alloc, w_box, w_build, w_sliceArr, w_bytesToStr, w_pick, WOps_nil, thenQ_normal, eX_t, eX_c, put_s, put_n, getset, Nat.reduceEqDiff, if_false, if_true, Option.getD_some, rd, natOf_nn, natOf_by, Option.some.injEq, exists_eq_left', Prod.mk.injEq, and_assoc, exists_and_left, true_and, Nat.zero_add, Nat.add_zero, Nat.mul_one, ble_t, mul_nn, quo_nn, rem_nn, add_nn, sub_nn, lss_nn, eql_nn, neq_nn, xor_by, k0, k1, k2, k3, k4, k5, k6, k7, k8, k12, k13, k14, k15, k16, k32, k60, k254, k256, f1, e32]
    refine W.cond (b := decide (N.length ≠ 12)) (by simp only [eX_t, eX_c, put_s, put_n, getset, Nat.reduceEqDiff, if_false, if_true, Option.getD_some]) ?_
    by_cases hN : N.length = 12
    · simp only [hN, ne_eq, not_true_eq_false, decide_false, cond_false]
      refine W.seq (W.region ?_)
      simp only [w_mov, w_ibin, w_load1, w_loadN, w_nilCheck, w_indexArr, w_indexSl, w_indexVal, w_indexStr, w_lenStr, w_lenSl, w_store, w_alloc, w_box, w_build, w_sliceArr, w_bytesToStr, w_pick, WOps_nil, thenQ_normal, eX_t, eX_c, put_s, put_n, getset, Nat.reduceEqDiff, if_false, if_true, Option.getD_some, rd, natOf_nn, natOf_by, Option.some.injEq, exists_eq_left', Prod.mk.injEq, and_assoc, exists_and_left, true_and, Nat.zero_add, Nat.add_zero, Nat.mul_one, ble_t, mul_nn, quo_nn, rem_nn, add_nn, sub_nn, lss_nn, eql_nn, neq_nn, xor_by, k0, k1, k2, k3, k4, k5, k6, k7, k8, k12, k13, k14, k15, k16, k32, k60, k254, k256, f2, e32, kM, gtr_nn]
      refine W.cond (b := decide (1048576 < T.length)) (by simp only [eX_t, eX_c, put_s, put_n, getset, Nat.reduceEqDiff, if_false, if_true, Option.getD_some]) ?_
      by_cases hT : 1048576 < T.length
      · simp only [hT, decide_true, cond_true]
        refine W.seq (W.region ?_)
        simp only [w_mov, w_ibin, w_load1, w_loadN, w_nilCheck, w_indexArr, w_indexSl, w_indexVal, w_indexStr, w_lenStr, w_lenSl, w_store, w_alloc, w_box, w_build, w_sliceArr, w_bytesToStr, w_pick, WOps_nil, thenQ_normal, eX_t, eX_c, put_s, put_n, getset, Nat.reduceEqDiff, if_false, if_true, Option.getD_some, rd, natOf_nn, natOf_by, Option.some.injEq, exists_eq_left', Prod.mk.injEq, and_assoc, exists_and_left, true_and, Nat.zero_add, Nat.add_zero, Nat.mul_one, ble_t, mul_nn, quo_nn, rem_nn, add_nn, sub_nn, lss_nn, eql_nn, neq_nn, xor_by, k0, k1, k2, k3, k4, k5, k6, k7, k8, k12, k13, k14, k15, k16, k32, k60, k254, k256]
        refine W.ret ?_
        simp only [blockQ_ret, thenQ_ret]
        refine ⟨.inr rfl, ?_⟩
        simp only [resultsOf, resOf, eX_t, eX_c, put_s, put_n, getset, Nat.reduceEqDiff, if_false, if_true, Option.getD_some, Option.some.injEq, exists_eq_left', oneOf]
        have := hQ H (Nat.le_refl _) fun _ _ => rfl
        simp only [ctrP, hK, hN, hT, ne_eq, not_true_eq_false, if_false, if_true] at this
        exact this
      · simp only [hT, decide_false, cond_false]
        refine W.skip ?_
        simp only [blockQ_normal, thenQ_normal]
        refine W.seq (W.region ?_)
        simp only [w_mov, w_ibin, w_load1, w_loadN, w_nilCheck, w_indexArr, w_indexSl, w_indexVal, w_indexStr, w_lenStr, w_lenSl, w_store, w_alloc, w_box, w_build, w_sliceArr, w_bytesToStr, w_pick, WOps_nil, thenQ_normal, eX_t, eX_c, put_s, put_n, getset, Nat.reduceEqDiff, if_false, if_true, Option.getD_some, rd, natOf_nn, natOf_by, Option.some.injEq, exists_eq_left', Prod.mk.injEq, and_assoc, exists_and_left, true_and, Nat.zero_add, Nat.add_zero, Nat.mul_one, ble_t, mul_nn, quo_nn, rem_nn, add_nn, sub_nn, lss_nn, eql_nn, neq_nn, xor_by, k0, k1, k2, k3, k4, k5, k6, k7, k8, k12, k13, k14, k15, k16, k32, k60, k254, k256, f0]
        refine WOps.call (g := 17) (first := []) (captured := []) rfl ?_
        simp only [List.map_nil, List.map_cons, List.nil_append, List.append_nil, eX_t, eX_c, put_s, put_n, getset, Nat.reduceEqDiff, if_false, if_true, Option.getD_some]
        refine keys_ok hE hx hK ?_
        intro H1 hn1 hk1
        simp only [w_mov, w_ibin, w_load1, w_loadN, w_nilCheck, w_indexArr, w_indexSl, w_indexVal, w_indexStr, w_lenStr, w_lenSl, w_store, w_alloc, w_box, w_build, w_sliceArr, w_bytesToStr, w_pick, WOps_nil, thenQ_normal, eX_t, eX_c, put_s, put_n, getset, Nat.reduceEqDiff, if_false, if_true, Option.getD_some, rd, natOf_nn, natOf_by, Option.some.injEq, exists_eq_left', Prod.mk.injEq, and_assoc, exists_and_left, true_and, Nat.zero_add, Nat.add_zero, Nat.mul_one, ble_t, mul_nn, quo_nn, rem_nn, add_nn, sub_nn, lss_nn, eql_nn, neq_nn, xor_by, k0, k1, k2, k3, k4, k5, k6, k7, k8, k12, k13, k14, k15, k16, k32, k60, k254, k256]
        refine W.seq (W.region ?_)
        simp only [w_mov, w_ibin, w_load1, w_loadN, w_nilCheck, w_indexArr, w_indexSl, w_indexVal, w_indexStr, w_lenStr, w_lenSl, w_store, w_alloc, w_box, w_build, w_sliceArr, w_bytesToStr, w_pick, WOps_nil, thenQ_normal, eX_t, eX_c, put_s, put_n, getset, Nat.reduceEqDiff, if_false, if_true, Option.getD_some, rd, natOf_nn, natOf_by, Option.some.injEq, exists_eq_left', Prod.mk.injEq, and_assoc, exists_and_left, true_and, Nat.zero_add, Nat.add_zero, Nat.mul_one, ble_t, mul_nn, quo_nn, rem_nn, add_nn, sub_nn, lss_nn, eql_nn, neq_nn, xor_by, k0, k1, k2, k3, k4, k5, k6, k7, k8, k12, k13, k14, k15, k16, k32, k60, k254, k256, f2]
        refine w_strToBytes (S := T) (by simp only [eX_t, eX_c, put_s, put_n, getset, Nat.reduceEqDiff, if_false, if_true, Option.getD_some]) ?_
        have hp := get_push H1 (.cells (bs T) 5 true false)
        have hpn := next_push H1 (.cells (bs T) 5 true false)
        generalize H1.push (.cells (bs T) 5 true false) = H2 at hp hpn ⊢
        simp only [w_mov, w_ibin, w_load1, w_loadN, w_nilCheck, w_indexArr, w_indexSl, w_indexVal, w_indexStr, w_lenStr, w_lenSl, w_store, w_alloc, w_box, w_build, w_sliceArr, w_bytesToStr, w_pick, WOps_nil, thenQ_normal, eX_t, eX_c, put_s, put_n, getset, Nat.reduceEqDiff, if_false, if_true, Option.getD_some, rd, natOf_nn, natOf_by, Option.some.injEq, exists_eq_left', Prod.mk.injEq, and_assoc, exists_and_left, true_and, Nat.zero_add, Nat.add_zero, Nat.mul_one, ble_t, mul_nn, quo_nn, rem_nn, add_nn, sub_nn, lss_nn, eql_nn, neq_nn, xor_by, k0, k1, k2, k3, k4, k5, k6, k7, k8, k12, k13, k14, k15, k16, k32, k60, k254, k256]
        refine W.seq (W.region ?_)
        rw [zero16, w_alloc]
        have hp2 := get_push H2 (.cells (bs (List.replicate 16 0)) 38 false false)
        have hpn2 := next_push H2 (.cells (bs (List.replicate 16 0)) 38 false false)
        generalize H2.push (.cells (bs (List.replicate 16 0)) 38 false false) = H3 at hp2 hpn2 ⊢
        obtain ⟨T3, n3⟩ := H3
        simp only at hp2 hpn2
        simp only [w_mov, w_ibin, w_load1, w_loadN, w_nilCheck, w_indexArr, w_indexSl, w_indexVal, w_indexStr, w_lenStr, w_lenSl, w_store, w_alloc, w_box, w_build, w_sliceArr, w_bytesToStr, w_pick, WOps_nil, thenQ_normal, eX_t, eX_c, put_s, put_n, getset, Nat.reduceEqDiff, if_false, if_true, Option.getD_some, rd, natOf_nn, natOf_by, Option.some.injEq, exists_eq_left', Prod.mk.injEq, and_assoc, exists_and_left, true_and, Nat.zero_add, Nat.add_zero, Nat.mul_one, ble_t, mul_nn, quo_nn, rem_nn, add_nn, sub_nn, lss_nn, eql_nn, neq_nn, xor_by, k0, k1, k2, k3, k4, k5, k6, k7, k8, k12, k13, k14, k15, k16, k32, k60, k254, k256]
        refine W.seq (W.region ?_)
        rw [w_sliceArr]
        refine ⟨.slice (some (H2.next, 0)) 16 (.known 16), by simp only [rd, eX_t, eX_c, put_s, put_n, getset, Nat.reduceEqDiff, if_false, if_true, Option.getD_some]; rfl, ?_⟩
        simp only [w_mov, w_ibin, w_load1, w_loadN, w_nilCheck, w_indexArr, w_indexSl, w_indexVal, w_indexStr, w_lenStr, w_lenSl, w_store, w_alloc, w_box, w_build, w_sliceArr, w_bytesToStr, w_pick, WOps_nil, thenQ_normal, eX_t, eX_c, put_s, put_n, getset, Nat.reduceEqDiff, if_false, if_true, Option.getD_some, rd, natOf_nn, natOf_by, Option.some.injEq, exists_eq_left', Prod.mk.injEq, and_assoc, exists_and_left, true_and, Nat.zero_add, Nat.add_zero, Nat.mul_one, ble_t, mul_nn, quo_nn, rem_nn, add_nn, sub_nn, lss_nn, eql_nn, neq_nn, xor_by, k0, k1, k2, k3, k4, k5, k6, k7, k8, k12, k13, k14, k15, k16, k32, k60, k254, k256, f1]
        rw [w_copy, copy_str (c := H2.next) (n := 16) (N := N) (C := List.replicate 16 0) (e := 38) (op := false) (by simp only [eX_t, eX_c, put_s, put_n, getset, Nat.reduceEqDiff, if_false, if_true, Option.getD_some]) (by simp only [eX_t, eX_c, put_s, put_n, getset, Nat.reduceEqDiff, if_false, if_true, Option.getD_some]) List.length_replicate (by omega) (by omega) (by rw [hp2, if_pos rfl])]
        refine ⟨_, _, rfl, ?_⟩
        rw [hN, show (List.replicate 16 (0 : UInt8)).drop 12 = List.replicate 4 0 from rfl]
        simp only [w_mov, w_ibin, w_load1, w_loadN, w_nilCheck, w_indexArr, w_indexSl, w_indexVal, w_indexStr, w_lenStr, w_lenSl, w_store, w_alloc, w_box, w_build, w_sliceArr, w_bytesToStr, w_pick, WOps_nil, thenQ_normal, eX_t, eX_c, put_s, put_n, getset, Nat.reduceEqDiff, if_false, if_true, Option.getD_some, rd, natOf_nn, natOf_by, Option.some.injEq, exists_eq_left', Prod.mk.injEq, and_assoc, exists_and_left, true_and, Nat.zero_add, Nat.add_zero, Nat.mul_one, ble_t, mul_nn, quo_nn, rem_nn, add_nn, sub_nn, lss_nn, eql_nn, neq_nn, xor_by, k0, k1, k2, k3, k4, k5, k6, k7, k8, k12, k13, k14, k15, k16, k32, k60, k254, k256]
        refine W.seq (W.seq (W.region ?_))
        simp only [w_mov, w_ibin, w_load1, w_loadN, w_nilCheck, w_indexArr, w_indexSl, w_indexVal, w_indexStr, w_lenStr, w_lenSl, w_store, w_alloc, w_box, w_build, w_sliceArr, w_bytesToStr, w_pick, WOps_nil, thenQ_normal, eX_t, eX_c, put_s, put_n, getset, Nat.reduceEqDiff, if_false, if_true, Option.getD_some, rd, natOf_nn, natOf_by, Option.some.injEq, exists_eq_left', Prod.mk.injEq, and_assoc, exists_and_left, true_and, Nat.zero_add, Nat.add_zero, Nat.mul_one, ble_t, mul_nn, quo_nn, rem_nn, add_nn, sub_nn, lss_nn, eql_nn, neq_nn, xor_by, k0, k1, k2, k3, k4, k5, k6, k7, k8, k12, k13, k14, k15, k16, k32, k60, k254, k256]
        refine ct_main hE hx (k := H.next) (b := H1.next) (c := H2.next) (L := T.length) (C := keysP K) (N := N) (Z := List.replicate 4 0) (T := T) (e := 5) (e' := 53) (e2 := 38) (op := true) (op' := false) (ro' := false)
          (by simp only [eX_t, eX_c, put_s, put_n, getset, Nat.reduceEqDiff, if_false, if_true, Option.getD_some]) (by simp only [eX_t, eX_c, put_s, put_n, getset, Nat.reduceEqDiff, if_false, if_true, Option.getD_some]) (by simp only [eX_t, eX_c, put_s, put_n, getset, Nat.reduceEqDiff, if_false, if_true, Option.getD_some]) (by omega) rfl hN rfl (length_keysP K) (by show H.next < n3; omega) (by show H1.next < n3; omega) (by show H2.next < n3; omega) (by omega) (by omega) (by omega)
          (by simp only [getset]; rw [if_neg (by omega), hp2, if_neg (by omega), hp, if_neg (by omega), hk1 _ (by omega), if_pos rfl]) (by simp only [getset]; rw [if_neg (by omega), hp2, if_neg (by omega), hp, if_pos rfl]) (by simp only [getset, if_true]) ?_
        intro a5 H5 q9 hn5 hk5
        simp only [getset, Nat.reduceEqDiff, if_false, if_true] at q9 hk5 hn5
        simp only [thenQ_normal]
        refine W.seq (W.region ?_)
        obtain ⟨T5, n5⟩ := H5
        simp only at hn5 hk5
        simp only [w_mov, eX_t, eX_c, put_s, put_n, getset, Nat.reduceEqDiff, if_false, if_true, Option.getD_some, q9]
        rw [w_bytesToStr]
        refine ⟨_, toStr (b := H1.next) (L := T.length) (cap := .unk 1) (S := xsP (keysP K) N T ((T.length + 15) / 16)) (e := 5) (op := true) (ro := false) (by simp only [eX_t, eX_c, put_s, put_n, getset, Nat.reduceEqDiff, if_false, if_true, Option.getD_some]) (length_xsP _ _ _ _) (by rw [hk5 _ (by omega) (by omega), if_pos rfl]), ?_⟩
        simp only [w_mov, w_ibin, w_load1, w_loadN, w_nilCheck, w_indexArr, w_indexSl, w_indexVal, w_indexStr, w_lenStr, w_lenSl, w_store, w_alloc, w_box, w_build, w_sliceArr, w_bytesToStr, w_pick, WOps_nil, thenQ_normal, eX_t, eX_c, put_s, put_n, getset, Nat.reduceEqDiff, if_false, if_true, Option.getD_some, rd, natOf_nn, natOf_by, Option.some.injEq, exists_eq_left', Prod.mk.injEq, and_assoc, exists_and_left, true_and, Nat.zero_add, Nat.add_zero, Nat.mul_one, ble_t, mul_nn, quo_nn, rem_nn, add_nn, sub_nn, lss_nn, eql_nn, neq_nn, xor_by, k0, k1, k2, k3, k4, k5, k6, k7, k8, k12, k13, k14, k15, k16, k32, k60, k254, k256]
        refine W.ret ⟨.inr rfl, ?_⟩
        simp only [resultsOf, resOf, eX_t, eX_c, put_s, put_n, getset, Nat.reduceEqDiff, if_false, if_true, Option.getD_some, Option.some.injEq, exists_eq_left', oneOf]
        have := hQ ⟨T5, n5⟩ (by show H.next ≤ n5; omega) fun j hj => by
          show T5.get j = _
          rw [hk5 _ (by omega) (by omega), if_neg (by omega), if_neg (by omega), hp2, if_neg (by omega), hp, if_neg (by omega), hk1 _ (by omega), if_neg (by omega)]
        simp only [ctrP, hK, hN, hT, ne_eq, not_true_eq_false, if_false] at this
        exact this
    · simp only [hN, ne_eq, not_false_eq_true, decide_true, cond_true]
      refine W.seq (W.region ?_)
      simp only [w_mov, w_ibin, w_load1, w_loadN, w_nilCheck, w_indexArr, w_indexSl, w_indexVal, w_indexStr, w_lenStr, w_lenSl, w_store, w_alloc, w_box, w_build, w_sliceArr, w_bytesToStr, w_pick, WOps_nil, thenQ_normal, eX_t, eX_c, put_s, put_n, getset, Nat.reduceEqDiff, if_false, if_true, Option.getD_some, rd, natOf_nn, natOf_by, Option.some.injEq, exists_eq_left', Prod.mk.injEq, and_assoc, exists_and_left, true_and, Nat.zero_add, Nat.add_zero, Nat.mul_one, ble_t, mul_nn, quo_nn, rem_nn, add_nn, sub_nn, lss_nn, eql_nn, neq_nn, xor_by, k0, k1, k2, k3, k4, k5, k6, k7, k8, k12, k13, k14, k15, k16, k32, k60, k254, k256]
      refine W.ret ?_
      simp only [blockQ_ret, thenQ_ret]
      refine ⟨.inr rfl, ?_⟩
      simp only [resultsOf, resOf, eX_t, eX_c, put_s, put_n, getset, Nat.reduceEqDiff, if_false, if_true, Option.getD_some, Option.some.injEq, exists_eq_left', oneOf]
      have := hQ H (Nat.le_refl _) fun _ _ => rfl
      simp only [ctrP, hK, hN, ne_eq, not_true_eq_false, not_false_eq_true, if_false, if_true] at this
      exact this
  · simp only [hK, ne_eq, not_false_eq_true, decide_true, cond_true]
    refine W.seq (W.region ?_)
    simp only [w_mov, w_ibin, w_load1, w_loadN, w_nilCheck, w_indexArr, w_indexSl, w_indexVal, w_indexStr, w_lenStr, w_lenSl, w_store, w_alloc, w_box, w_build, w_sliceArr, w_bytesToStr, w_pick, WOps_nil, thenQ_normal, eX_t, eX_c, put_s, put_n, getset, Nat.reduceEqDiff, if_false, if_true, Option.getD_some, rd, natOf_nn, natOf_by, Option.some.injEq, exists_eq_left', Prod.mk.injEq, and_assoc, exists_and_left, true_and, Nat.zero_add, Nat.add_zero, Nat.mul_one, ble_t, mul_nn, quo_nn, rem_nn, add_nn, sub_nn, lss_nn, eql_nn, neq_nn, xor_by, k0, k1, k2, k3, k4, k5, k6, k7, k8, k12, k13, k14, k15, k16, k32, k60, k254, k256]
    refine W.ret ?_
    simp only [blockQ_ret, thenQ_ret]
    refine ⟨.inr rfl, ?_⟩
    simp only [resultsOf, resOf, eX_t, eX_c, put_s, put_n, getset, Nat.reduceEqDiff, if_false, if_true, Option.getD_some, Option.some.injEq, exists_eq_left', oneOf]
    have := hQ H (Nat.le_refl _) fun _ _ => rfl
    simp only [ctrP, hK, ne_eq, not_false_eq_true, if_true] at this
    exact this
end Go.AE
end
-- Contracts of the reference of aes: Ctr: the stream's block.
section
set_option linter.unusedVariables false
set_option linter.unusedSimpArgs false
set_option maxRecDepth 100000
set_option maxHeartbeats 1000000
namespace Go.AE
variable {E : Env}
attribute [local irreducible] keysP encP

theorem sm_rd {d : ADraw} {a0 afin : Frm} {base i e : Nat} {op : AOp} {hs : List Heap} (hk : kindOf op = .rd) (hl : looks op = true) (hw : d.war = false) {v : AV} (hv : afin.get e = some v) (h : ∀ H ∈ hs, rd op afin H = some v) (hb : AV.beq v v = true) :
    sameAt d a0 afin base i ⟨some e, op, none⟩ hs = true := by
  simp only [sameAt, hk, hl, cond_true, frameFor, hw, cond_false, wantedA, List.all_eq_true]
  intro H hH
  simp only [h H hH, hv, hb]
theorem sm_conv {d : ADraw} {a0 afin : Frm} {base i : Nat} {dst : Option Nat} {g : Option (Nat × Bool)} {hs : List Heap} {k : IntKind} {x : AX} : sameAt d a0 afin base i ⟨dst, .convInt k x, g⟩ hs = true := same_rd rfl rfl
theorem sm_sbin {d : ADraw} {a0 afin : Frm} {base i : Nat} {dst : Option Nat} {g : Option (Nat × Bool)} {hs : List Heap} {o : BinOp} {x y : AX} : sameAt d a0 afin base i ⟨dst, .sbin o x y, g⟩ hs = true := same_rd rfl rfl
theorem l_conv {ops : List AOper} {base i : Nat} {is : List (Nat × AOper)} {dst : Option Nat} {a : Frm} {H : Heap} {hs : List Heap} {Q : Frm → List Heap → Prop} {k : IntKind} {x : AX} :
    WL E ops base ((i, ⟨dst, .convInt k x, none⟩) :: is) a H hs Q ↔ ∃ v, rd (.convInt k x) a H = some v ∧ WL E ops base is (put a dst v) H hs Q := WL_rd rfl
theorem l_sbin {ops : List AOper} {base i : Nat} {is : List (Nat × AOper)} {dst : Option Nat} {a : Frm} {H : Heap} {hs : List Heap} {Q : Frm → List Heap → Prop} {o : BinOp} {x y : AX} :
    WL E ops base ((i, ⟨dst, .sbin o x y, none⟩) :: is) a H hs Q ↔ ∃ v, sbin o (evalX a x) (evalX a y) = some v ∧ WL E ops base is (put a dst v) H hs Q := WL_rd rfl
theorem fill4 (a b c d : UInt8) : fillA [.int .u8 0, .int .u8 0, .int .u8 0, .int .u8 0] [(0, 1, by' a), (1, 1, by' b), (2, 1, by' c), (3, 1, by' d)] = some (bs [a, b, c, d]) := rfl
theorem fill1 (a : UInt8) : fillA [.int .u8 0] [(0, 1, by' a)] = some (bs [a]) := rfl
theorem beq_str (l : List UInt8) : AV.beq (.str l) (.str l) = true := by simp [AV.beq, beqBytes_eq]
theorem u24 : AV.int .u64 24 = .int .u64 (.ofNat 24) := rfl
theorem u16 : AV.int .u64 16 = .int .u64 (.ofNat 16) := rfl
theorem u8' : AV.int .u64 8 = .int .u64 (.ofNat 8) := rfl

def rcDraw0 : ADraw := (ADraw.mk [(AOper.mk (some 38) (.loadN 240 (.tmp 9)) none), (AOper.mk (some 39) (.loadN 256 (.tmp 8)) none), (AOper.mk (some 40) (.mov (.tmp 1)) none), (AOper.mk (some 41) (.mov (.tmp 13)) none), (AOper.mk (some 42) (.ibin .shr (.tmp 41) (.const (.int .u64 24))) none), (AOper.mk (some 43) (.convInt .u8 (.tmp 42)) none), (AOper.mk (some 44) (.mov (.tmp 13)) none), (AOper.mk (some 45) (.ibin .shr (.tmp 44) (.const (.int .u64 16))) none), (AOper.mk (some 46) (.convInt .u8 (.tmp 45)) none), (AOper.mk (some 47) (.mov (.tmp 13)) none), (AOper.mk (some 48) (.ibin .shr (.tmp 47) (.const (.int .u64 8))) none), (AOper.mk (some 49) (.convInt .u8 (.tmp 48)) none), (AOper.mk (some 50) (.mov (.tmp 13)) none), (AOper.mk (some 51) (.convInt .u8 (.tmp 50)) none), (AOper.mk (some 52) (.buildSlice 5 [(.int .u8 0), (.int .u8 0), (.int .u8 0), (.int .u8 0)] 4 [(0, (1, (.tmp 43))), (1, (1, (.tmp 46))), (2, (1, (.tmp 49))), (3, (1, (.tmp 51)))]) none), (AOper.mk (some 53) (.bytesToStr (.tmp 52)) none), (AOper.mk (some 54) (.sbin .add (.tmp 40) (.tmp 53)) none), (AOper.mk (some 55) (.call (.const (.func (.func 22) [] [])) [(.tmp 54)]) none), (AOper.mk (some 56) (.call (.const (.func (.func 20) [] [])) [(.tmp 38), (.tmp 39), (.tmp 55)]) none), (AOper.mk none (.store 16 (.tmp 11) (.tmp 56)) none)] [0, 1, 2, 3, 4, 5, 6, 7, 8, 9, 10, 11, 12, 13, 14, 15, 16, 17, 18, 19] [0, 0, 0, 0, 8, 24, 0, 64, 192, 0, 512, 1536, 0, 4096, 16376, 32760, 65532, 131068, 262143, 524287] [(0, 1), (0, 1), (0, 0), (0, 0), (0, 0), (0, 0), (0, 0), (0, 0), (0, 0), (0, 0), (0, 0), (0, 0), (0, 0), (0, 0), (0, 0), (0, 0), (0, 0), (0, 1), (1, 2), (2, 3)] false)
def rcDraw1 : ADraw := (ADraw.mk [(AOper.mk (some 57) (.mov (.tmp 10)) none), (AOper.mk (some 58) (.mov (.tmp 2)) none), (AOper.mk (some 59) (.mov (.tmp 12)) none), (AOper.mk (some 60) (.indexStr (.tmp 58) (.tmp 59)) none), (AOper.mk (some 61) (.mov (.tmp 12)) none), (AOper.mk (some 62) (.ibin .rem (.tmp 61) (.const (.int .i64 16))) none), (AOper.mk (some 63) (.indexArr 16 1 (.tmp 11) (.tmp 62)) none), (AOper.mk (some 64) (.load1 (.tmp 63)) none), (AOper.mk (some 65) (.ibin .xor (.tmp 60) (.tmp 64)) none), (AOper.mk (some 66) (.buildSlice 5 [(.int .u8 0)] 1 [(0, (1, (.tmp 65)))]) none), (AOper.mk (some 67) (.append 5 1 1 (.tmp 57) (.tmp 66)) none), (AOper.mk (some 10) (.mov (.tmp 67)) none)] [0, 1, 2, 3, 4, 5, 6, 7, 8, 9, 10, 11] [0, 0, 0, 6, 0, 16, 48, 112, 254, 510, 1023, 2047] [(0, 0), (0, 0), (0, 0), (0, 0), (0, 0), (0, 0), (0, 0), (0, 0), (0, 0), (0, 0), (0, 1), (1, 1)] true)
def rcMain : ACode := (.block 0 (.loop (.seq (.seq (.region [(AOper.mk (some 27) (.mov (.tmp 12)) none), (AOper.mk (some 28) (.mov (.tmp 2)) none), (AOper.mk (some 29) (.lenStr (.tmp 28)) none), (AOper.mk (some 30) (.ibin .lss (.tmp 27) (.tmp 29)) none)]) (.cond (.tmp 30) .skip (.exit 0))) (.seq (.block 1 (.seq (.seq (.region [(AOper.mk (some 33) (.mov (.tmp 12)) none), (AOper.mk (some 34) (.ibin .rem (.tmp 33) (.const (.int .i64 16))) none), (AOper.mk (some 35) (.ibin .eql (.tmp 34) (.const (.int .i64 0))) none)]) (.cond (.tmp 35) (.seq (.region [(AOper.mk (some 36) (.mov (.tmp 12)) none), (AOper.mk (some 37) (.ibin .quo (.tmp 36) (.const (.int .i64 16))) none), (AOper.mk (some 13) (.mov (.tmp 37)) none)]) (.draw (ADraw.mk [(AOper.mk (some 38) (.loadN 240 (.tmp 9)) none), (AOper.mk (some 39) (.loadN 256 (.tmp 8)) none), (AOper.mk (some 40) (.mov (.tmp 1)) none), (AOper.mk (some 41) (.mov (.tmp 13)) none), (AOper.mk (some 42) (.ibin .shr (.tmp 41) (.const (.int .u64 24))) none), (AOper.mk (some 43) (.convInt .u8 (.tmp 42)) none), (AOper.mk (some 44) (.mov (.tmp 13)) none), (AOper.mk (some 45) (.ibin .shr (.tmp 44) (.const (.int .u64 16))) none), (AOper.mk (some 46) (.convInt .u8 (.tmp 45)) none), (AOper.mk (some 47) (.mov (.tmp 13)) none), (AOper.mk (some 48) (.ibin .shr (.tmp 47) (.const (.int .u64 8))) none), (AOper.mk (some 49) (.convInt .u8 (.tmp 48)) none), (AOper.mk (some 50) (.mov (.tmp 13)) none), (AOper.mk (some 51) (.convInt .u8 (.tmp 50)) none), (AOper.mk (some 52) (.buildSlice 5 [(.int .u8 0), (.int .u8 0), (.int .u8 0), (.int .u8 0)] 4 [(0, (1, (.tmp 43))), (1, (1, (.tmp 46))), (2, (1, (.tmp 49))), (3, (1, (.tmp 51)))]) none), (AOper.mk (some 53) (.bytesToStr (.tmp 52)) none), (AOper.mk (some 54) (.sbin .add (.tmp 40) (.tmp 53)) none), (AOper.mk (some 55) (.call (.const (.func (.func 22) [] [])) [(.tmp 54)]) none), (AOper.mk (some 56) (.call (.const (.func (.func 20) [] [])) [(.tmp 38), (.tmp 39), (.tmp 55)]) none), (AOper.mk none (.store 16 (.tmp 11) (.tmp 56)) none)] [0, 1, 2, 3, 4, 5, 6, 7, 8, 9, 10, 11, 12, 13, 14, 15, 16, 17, 18, 19] [0, 0, 0, 0, 8, 24, 0, 64, 192, 0, 512, 1536, 0, 4096, 16376, 32760, 65532, 131068, 262143, 524287] [(0, 1), (0, 1), (0, 0), (0, 0), (0, 0), (0, 0), (0, 0), (0, 0), (0, 0), (0, 0), (0, 0), (0, 0), (0, 0), (0, 0), (0, 0), (0, 0), (0, 0), (0, 1), (1, 2), (2, 3)] false))) .skip)) (.draw (ADraw.mk [(AOper.mk (some 57) (.mov (.tmp 10)) none), (AOper.mk (some 58) (.mov (.tmp 2)) none), (AOper.mk (some 59) (.mov (.tmp 12)) none), (AOper.mk (some 60) (.indexStr (.tmp 58) (.tmp 59)) none), (AOper.mk (some 61) (.mov (.tmp 12)) none), (AOper.mk (some 62) (.ibin .rem (.tmp 61) (.const (.int .i64 16))) none), (AOper.mk (some 63) (.indexArr 16 1 (.tmp 11) (.tmp 62)) none), (AOper.mk (some 64) (.load1 (.tmp 63)) none), (AOper.mk (some 65) (.ibin .xor (.tmp 60) (.tmp 64)) none), (AOper.mk (some 66) (.buildSlice 5 [(.int .u8 0)] 1 [(0, (1, (.tmp 65)))]) none), (AOper.mk (some 67) (.append 5 1 1 (.tmp 57) (.tmp 66)) none), (AOper.mk (some 10) (.mov (.tmp 67)) none)] [0, 1, 2, 3, 4, 5, 6, 7, 8, 9, 10, 11] [0, 0, 0, 6, 0, 16, 48, 112, 254, 510, 1023, 2047] [(0, 0), (0, 0), (0, 0), (0, 0), (0, 0), (0, 0), (0, 0), (0, 0), (0, 0), (0, 0), (0, 1), (1, 1)] true)))) (.region [(AOper.mk (some 31) (.mov (.tmp 12)) none), (AOper.mk (some 32) (.ibin .add (.tmp 31) (.const (.int .i64 1))) none), (AOper.mk (some 12) (.mov (.tmp 32)) none)])))))

theorem rc_d0 (hE : ∀ f, E.funcs f = Aes.funcsT.get f) (hx : ∀ f args H, special f = false → E.sums f args H = none) {a : Frm} {H : Heap} {C N St : List UInt8} {n kb kw ks : Nat} {e e' e2 : TypeId}
    (h1 : a.get 1 = some (.str N)) (h8 : a.get 8 = some (.ptr (some (kb, 0)))) (h9 : a.get 9 = some (.ptr (some (kw, 0)))) (h11 : a.get 11 = some (.ptr (some (ks, 0)))) (h13 : a.get 13 = some (nn n))
    (hkb : kb < H.next) (hkw : kw < H.next) (hks : ks < H.next) (hN : N.length = 12) (hC : C.length = 240) (hSt : St.length = 16)
    (hb : H.t.get kb = some (.cells (bs boxL) e false false)) (hw : H.t.get kw = some (.cells (bs C) e' false false)) (hs : H.t.get ks = some (.cells (bs St) e2 false false))
    {Q : AExit → Frm → Heap → Prop} (hQ : ∀ a' H', a'.get 1 = a.get 1 → a'.get 2 = a.get 2 → a'.get 8 = a.get 8 → a'.get 9 = a.get 9 → a'.get 10 = a.get 10 → a'.get 11 = a.get 11 → a'.get 12 = a.get 12 → H.next ≤ H'.next →
      (∀ j, j < H.next → H'.t.get j = if ks = j then some (.cells (bs (stP C N n)) e2 false false) else H.t.get j) → Q .normal a' H') : W E (.draw rcDraw0) a H Q := by
  refine W_draw (l := _) rfl (N := 20) rfl ?_
  have hcl := length_cntP hN n
  have hst : encP C (cntP N n) = stP C N n := by unfold stP; rfl
  have hl : (encP C (cntP N n)).length = 16 := length_encP hcl
  simp only [rcDraw0, l_mov, l_loadN, rd, eX_t, eX_c, put_s, put_n, getset, Nat.reduceEqDiff, if_false, if_true, Option.getD_some, h1, h8, h9, h13, loadN_bs hb length_boxL, loadN_bs hw hC, Option.some.injEq, exists_eq_left', l_ibin, u24, u16, u8']
  simp (disch := omega) only [l_mov, l_ibin, shr_nu, eX_t, eX_c, put_s, put_n, getset, Nat.reduceEqDiff, if_false, if_true, Option.getD_some, h13, Option.some.injEq, exists_eq_left']
  rw [l_conv]
  refine ⟨_, conv_nn (n := n / 2 ^ 24) (by simp only [eX_t, eX_c, put_s, put_n, getset, Nat.reduceEqDiff, if_false, if_true, Option.getD_some]), ?_⟩
  simp (disch := omega) only [l_mov, l_ibin, shr_nu, eX_t, eX_c, put_s, put_n, getset, Nat.reduceEqDiff, if_false, if_true, Option.getD_some, h13, Option.some.injEq, exists_eq_left']
  rw [l_conv]
  refine ⟨_, conv_nn (n := n / 2 ^ 16) (by simp only [eX_t, eX_c, put_s, put_n, getset, Nat.reduceEqDiff, if_false, if_true, Option.getD_some]), ?_⟩
  simp (disch := omega) only [l_mov, l_ibin, shr_nu, eX_t, eX_c, put_s, put_n, getset, Nat.reduceEqDiff, if_false, if_true, Option.getD_some, h13, Option.some.injEq, exists_eq_left']
  rw [l_conv]
  refine ⟨_, conv_nn (n := n / 2 ^ 8) (by simp only [eX_t, eX_c, put_s, put_n, getset, Nat.reduceEqDiff, if_false, if_true, Option.getD_some]), ?_⟩
  simp (disch := omega) only [l_mov, l_ibin, shr_nu, eX_t, eX_c, put_s, put_n, getset, Nat.reduceEqDiff, if_false, if_true, Option.getD_some, h13, Option.some.injEq, exists_eq_left']
  rw [l_conv]
  refine ⟨_, conv_nn (n := n) (by simp only [eX_t, eX_c, put_s, put_n, getset, Nat.reduceEqDiff, if_false, if_true, Option.getD_some]), ?_⟩
  simp only [put_s]
  refine WL_al rfl (x := .cells (bs [UInt8.ofNat (n / 2 ^ 24), UInt8.ofNat (n / 2 ^ 16), UInt8.ofNat (n / 2 ^ 8), UInt8.ofNat n]) 5 false false) (f := fun i => .slice (some (i, 0)) 4 (.known 4)) (by simp only [al, List.map_cons, List.map_nil, eX_t, eX_c, put_s, put_n, getset, Nat.reduceEqDiff, if_false, if_true, Option.getD_some, fill4]) ?_
  simp only [put_s]
  have hb0 : ∀ j, j < H.next → (H.t.set (H.next + 14) (.cells (bs [UInt8.ofNat (n / 2 ^ 24), UInt8.ofNat (n / 2 ^ 16), UInt8.ofNat (n / 2 ^ 8), UInt8.ofNat n]) 5 false false)).get j = H.t.get j := fun j hj => by rw [getset, if_neg (by omega)]
  have hb7 : (H.t.set (H.next + 14) (.cells (bs [UInt8.ofNat (n / 2 ^ 24), UInt8.ofNat (n / 2 ^ 16), UInt8.ofNat (n / 2 ^ 8), UInt8.ofNat n]) 5 false false)).get (H.next + 14) = some (.cells (bs [UInt8.ofNat (n / 2 ^ 24), UInt8.ofNat (n / 2 ^ 16), UInt8.ofNat (n / 2 ^ 8), UInt8.ofNat n]) 5 false false) := by rw [getset, if_pos rfl]
  generalize H.t.set (H.next + 14) (.cells (bs [UInt8.ofNat (n / 2 ^ 24), UInt8.ofNat (n / 2 ^ 16), UInt8.ofNat (n / 2 ^ 8), UInt8.ofNat n]) 5 false false) = T0 at hb0 hb7 ⊢
  rw [l_bytesToStr]
  refine ⟨_, toStr (b := H.next + 14) (L := 4) (cap := .known 4) (S := [UInt8.ofNat (n / 2 ^ 24), UInt8.ofNat (n / 2 ^ 16), UInt8.ofNat (n / 2 ^ 8), UInt8.ofNat n]) (e := 5) (op := false) (ro := false) (by simp only [eX_t, eX_c, put_s, put_n, getset, Nat.reduceEqDiff, if_false, if_true, Option.getD_some]) rfl hb7, ?_⟩
  simp only [put_s, l_sbin, eX_t, eX_c, put_s, put_n, getset, Nat.reduceEqDiff, if_false, if_true, Option.getD_some]
  refine ⟨.str (cntP N n), by rw [sbin_add (by rw [hN]; show 12 + 4 ≤ 9223372036854775807; decide)]; rfl, ?_⟩
  refine WL_call rfl ?_
  simp only [List.map_cons, List.map_nil, List.nil_append, List.append_nil, eX_t, eX_c, put_s, put_n, getset, Nat.reduceEqDiff, if_false, if_true, Option.getD_some]
  refine of_ok hE hx hcl ?_
  intro H2 hn2 hk2
  simp only at hn2 hk2
  refine WL_call rfl ?_
  simp only [List.map_cons, List.map_nil, List.nil_append, List.append_nil, eX_t, eX_c, put_s, put_n, getset, Nat.reduceEqDiff, if_false, if_true, Option.getD_some]
  refine renc_ok hE hx hcl hC hl ?_
  intro H3 hn3 hk3
  rw [hst]
  rw [hst] at hl
  generalize stP C N n = SP at hl hQ ⊢
  obtain ⟨T3, n3⟩ := H3
  simp only at hn3 hk3
  have h27 : H2.t.get (H.next + 14) = some (.cells (bs [UInt8.ofNat (n / 2 ^ 24), UInt8.ofNat (n / 2 ^ 16), UInt8.ofNat (n / 2 ^ 8), UInt8.ofNat n]) 5 false false) := by rw [hk2 _ (by omega)]; exact hb7
  have hS3 : T3.get ks = some (.cells (bs St) e2 false false) := by rw [hk3 _ (by omega), hk2 _ (by omega), hb0 _ hks]; exact hs
  have hB0 : T0.get kb = some (.cells (bs boxL) e false false) := by rw [hb0 _ hkb]; exact hb
  have hB2 : H2.t.get kb = some (.cells (bs boxL) e false false) := by rw [hk2 _ (by omega)]; exact hB0
  have hW0 : T0.get kw = some (.cells (bs C) e' false false) := by rw [hb0 _ hkw]; exact hw
  have hW2 : H2.t.get kw = some (.cells (bs C) e' false false) := by rw [hk2 _ (by omega)]; exact hW0
  simp only [l_store, wr0_store, eX_t, eX_c, put_s, put_n, getset, Nat.reduceEqDiff, if_false, if_true, Option.getD_some, h11, wst_agg hS3 hSt hl, Option.some.injEq, Prod.mk.injEq, exists_eq_left', and_assoc, exists_and_left, WL_nil]
  refine ⟨?_, _, _, rfl, ?_⟩
  · simp only [stable_cons, stable_nil, sm_mov, sm_ibin, sm_nilCheck, sm_indexArr, sm_indexSl, sm_indexVal, sm_indexStr, sm_lenStr, sm_lenSl, sm_build, sm_store, sm_call, Bool.true_and, Bool.and_true, Bool.and_eq_true, List.reverse_cons, List.reverse_nil, List.nil_append, List.cons_append, List.drop_zero, List.drop_succ_cons, Nat.sub_zero, Nat.succ_eq_add_one, Nat.zero_add, Nat.reduceAdd, Nat.reduceSub, List.take_succ_cons, List.take_zero, List.take_nil, sm_conv, sm_sbin]
    refine ⟨?_, ?_, ?_, ?_⟩
    · refine sm_loadN rfl (b := kw) (o := 0) (l := bs C) (by simp only [eX_t, eX_c, put_s, put_n, getset, Nat.reduceEqDiff, if_false, if_true, Option.getD_some]; rw [h9]; rfl) (by simp only [eX_t, eX_c, put_s, put_n, getset, Nat.reduceEqDiff, if_false, if_true, Option.getD_some]) ?_ (beq_agg C)
      intro H' hH'
      simp only [List.mem_cons, List.not_mem_nil, or_false] at hH'
      rcases hH' with rfl | rfl
      · exact loadN_bs hW0 hC
      · exact loadN_bs hW2 hC
    · refine sm_loadN rfl (b := kb) (o := 0) (l := bs boxL) (by simp only [eX_t, eX_c, put_s, put_n, getset, Nat.reduceEqDiff, if_false, if_true, Option.getD_some]; rw [h8]; rfl) (by simp only [eX_t, eX_c, put_s, put_n, getset, Nat.reduceEqDiff, if_false, if_true, Option.getD_some]) ?_ (beq_agg boxL)
      intro H' hH'
      simp only [List.mem_cons, List.not_mem_nil, or_false] at hH'
      rcases hH' with rfl | rfl
      · exact loadN_bs hB0 length_boxL
      · exact loadN_bs hB2 length_boxL
    · refine sm_al rfl rfl (x := .cells (bs [UInt8.ofNat (n / 2 ^ 24), UInt8.ofNat (n / 2 ^ 16), UInt8.ofNat (n / 2 ^ 8), UInt8.ofNat n]) 5 false false) (f := fun i => .slice (some (i, 0)) 4 (.known 4)) (by simp only [al, List.map_cons, List.map_nil, eX_t, eX_c, put_s, put_n, getset, Nat.reduceEqDiff, if_false, if_true, Option.getD_some, fill4]) ?_
      intro H' hH'
      simp only [List.mem_cons, List.not_mem_nil, or_false] at hH'
      subst hH'
      exact blkIs_bs hb7
    · refine sm_rd rfl rfl rfl (v := .str [UInt8.ofNat (n / 2 ^ 24), UInt8.ofNat (n / 2 ^ 16), UInt8.ofNat (n / 2 ^ 8), UInt8.ofNat n]) (by simp only [eX_t, eX_c, put_s, put_n, getset, Nat.reduceEqDiff, if_false, if_true, Option.getD_some]) ?_ (beq_str _)
      intro H' hH'
      simp only [List.mem_cons, List.not_mem_nil, or_false] at hH'
      subst hH'
      exact toStr (b := H.next + 14) (L := 4) (cap := .known 4) (by simp only [eX_t, eX_c, put_s, put_n, getset, Nat.reduceEqDiff, if_false, if_true, Option.getD_some]) rfl hb7
  · refine hQ _ _ ?_ ?_ ?_ ?_ ?_ ?_ ?_ (by show H.next ≤ n3; omega) fun j hj => ?_
    iterate 7 simp only [getset, Nat.reduceEqDiff, if_false]
    rw [getset]
    by_cases h : ks = j
    · rw [if_pos h, if_pos h]
    · rw [if_neg h, if_neg h, hk3 _ (by omega), hk2 _ (by omega), hb0 _ hj]
end Go.AE
end
-- Contracts of the reference of aes: Ctr: a byte appended; the main loop.
section
set_option linter.unusedVariables false
set_option linter.unusedSimpArgs false
set_option maxRecDepth 100000
set_option maxHeartbeats 1000000
namespace Go.AE
variable {E : Env}
attribute [local irreducible] keysP encP stP

theorem l_append {ops : List AOper} {base i : Nat} {is : List (Nat × AOper)} {dst : Option Nat} {a : Frm} {H : Heap} {hs : List Heap} {Q : Frm → List Heap → Prop} {el : TypeId} {n m : Nat} {x y : AX} :
    WL E ops base ((i, ⟨dst, .append el n m x y, none⟩) :: is) a H hs Q ↔ ∃ v H', wr0 (.append el n m x y) a H = some (v, H') ∧ WL E ops base is (put a dst v) H' (H :: hs) Q := WL_wr rfl rfl
theorem w_append {all os : List AOper} {dst : Option Nat} {el : TypeId} {n m : Nat} {x y : AX} {a : Frm} {H : Heap} {Q : Frm → Heap → Prop} :
    WOps E all (⟨dst, .append el n m x y, none⟩ :: os) a H Q ↔ ∃ v H', wr0 (.append el n m x y) a H = some (v, H') ∧ WOps E all os (put a dst v) H' Q := WOps_wr rfl rfl
theorem sm_append {d : ADraw} {a0 afin : Frm} {base i : Nat} {dst : Option Nat} {g : Option (Nat × Bool)} {hs : List Heap} {el : TypeId} {n m : Nat} {x y : AX} : sameAt d a0 afin base i ⟨dst, .append el n m x y, g⟩ hs = true := same_wr rfl

/-- a slice that was appended to, from nil on -/
def outS (L b : Nat) : AV := if L = 0 then .slice none 0 (.known 0) else .slice (some (b, 0)) L (.unk 1)

theorem app1 {T0 : T ABlk} {nx b L y : Nat} {O : List UInt8} {x : UInt8} {cap : ACap} {e : TypeId} {op ro : Bool} (hO : O.length = L) (hb : L ≠ 0 → T0.get b = some (.cells (bs O) 5 true false)) (hy : T0.get y = some (.cells (bs [x]) e op ro)) (hL : L < 1000000000000) :
    ∃ T1, appendA 5 1 1 ⟨T0, nx⟩ (outS L b) (.slice (some (y, 0)) 1 cap) = some (.slice (some (nx, 0)) (L + 1) (.unk 1), ⟨T1, nx + 1⟩) ∧ T1.get nx = some (.cells (bs (O ++ [x])) 5 true false) ∧ ∀ j, j ≠ nx → j ≠ b → T1.get j = T0.get j := by
  have ey : Heap.loadN ⟨T0, nx⟩ y 0 ((0 + 1) * 1) = some (bs [x]) := loadN_bs hy rfl
  by_cases h0 : L = 0
  · subst h0
    obtain rfl := List.eq_nil_of_length_eq_zero hO
    refine ⟨T0.set nx (.cells (bs [x]) 5 true false), ?_, by rw [getset, if_pos rfl]; rfl, fun j h1 h2 => by rw [getset, if_neg (Ne.symm h1)]⟩
    simp only [outS, if_true, appendA, lenOfA, source, ey]
    rfl
  · have e1 : Nat.ble ((L + 1) * 1) 140737488355328 = true := Nat.ble_eq.mpr (by omega)
    have eg : grab (L * 1) 0 (bs O) = some (bs O) := by rw [Nat.mul_one]; exact grab_bs hO
    have el : Nat.beq ((bs O).length + (bs [x]).length) ((L + 1) * 1) = true := by rw [length_bs, length_bs, hO, Nat.mul_one]; exact Nat.beq_refl _
    refine ⟨(T0.del b).set nx (.cells (bs (O ++ [x])) 5 true false), ?_, by rw [getset, if_pos rfl], fun j h1 h2 => by rw [getset, if_neg (Ne.symm h1), T.get_del, if_neg (Ne.symm h2)]⟩
    have ea : (bs [x]).all AV.atom = true := rfl
    have e11 : Nat.beq 1 1 = true := rfl
    have e10 : Nat.beq 1 0 = false := rfl
    have e55 : Nat.beq 5 5 = true := rfl
    simp only [outS, if_neg h0, appendA, lenOfA, e10, cond_false, e1, Bool.not_true, Bool.or_self, source, ey, e11, ea, Bool.and_self, cond_true, hb h0, eg, el, e55, bs_append]

theorem sm_load1w {d : ADraw} {a0 afin : Frm} {base i e t : Nat} {hs : List Heap} (hl : looksOf d.ops ⟨some e, .load1 (.tmp t), none⟩ = [t]) (ha : ahead d i t = true) (hw : d.war = true) {b o : Nat} (ht : afin.get t = some (.ptr (some (b, o)))) {v : AV} (hv : afin.get e = some v)
    (hh : ∀ H ∈ hs, H.load b o = some v) (hb : AV.beq v v = true) : sameAt d a0 afin base i ⟨some e, .load1 (.tmp t), none⟩ hs = true := by
  have hf : (frameFor d a0 afin i ⟨some e, .load1 (.tmp t), none⟩).get t = some (.ptr (some (b, o))) := by
    simp only [frameFor, hw, cond_true, hl, List.foldl_cons, List.foldl_nil, mixSet, ha, ht, getset, if_true]
  simp only [sameAt, kindOf, looks, cond_true, wantedA, List.all_eq_true]
  intro H hH
  simp only [rd, eX_t, hf, Option.getD_some, hh H hH, hv, hb]
theorem sm_build1w {d : ADraw} {a0 afin : Frm} {base i e t : Nat} {hs : List Heap} (hl : looksOf d.ops ⟨some e, .buildSlice 5 [.int .u8 0] 1 [(0, (1, .tmp t))], none⟩ = [t]) (ha : ahead d i t = true) (hw : d.war = true) {x : UInt8} (ht : afin.get t = some (by' x))
    (hh : ∀ H ∈ hs, H.t.get (base + i) = some (.cells (bs [x]) 5 false false)) : sameAt d a0 afin base i ⟨some e, .buildSlice 5 [.int .u8 0] 1 [(0, (1, .tmp t))], none⟩ hs = true := by
  have hf : (frameFor d a0 afin i ⟨some e, .buildSlice 5 [.int .u8 0] 1 [(0, (1, .tmp t))], none⟩).get t = some (by' x) := by
    simp only [frameFor, hw, cond_true, hl, List.foldl_cons, List.foldl_nil, mixSet, ha, ht, getset, if_true]
  simp only [sameAt, kindOf, cond_true, wantedA, al, List.map_cons, List.map_nil, eX_t, hf, Option.getD_some, fill1, List.all_eq_true]
  intro H hH
  exact blkIs_bs (hh H hH)

theorem rc_d1 {a : Frm} {H : Heap} {S O Tx : List UInt8} {b i s : Nat} {e : TypeId} (h2 : a.get 2 = some (.str Tx)) (h10 : a.get 10 = some (outS i b)) (h11 : a.get 11 = some (.ptr (some (s, 0)))) (h12 : a.get 12 = some (nn i))
    (hi : i < Tx.length) (hT : i < 1000000000000) (hO : O.length = i) (hS : S.length = 16) (hbn : i ≠ 0 → b < H.next) (hsn : s < H.next)
    (hb : i ≠ 0 → H.t.get b = some (.cells (bs O) 5 true false)) (hs : H.t.get s = some (.cells (bs S) e false false)) {Q : AExit → Frm → Heap → Prop}
    (hQ : ∀ a' H', a'.get 1 = a.get 1 → a'.get 2 = a.get 2 → a'.get 8 = a.get 8 → a'.get 9 = a.get 9 → a'.get 11 = a.get 11 → a'.get 12 = a.get 12 → a'.get 10 = some (outS (i + 1) (H.next + 12)) → H'.next = H.next + 13 →
      H'.t.get (H.next + 12) = some (.cells (bs (O ++ [Tx.getD i 0 ^^^ S.getD (i % 16) 0])) 5 true false) → (∀ j, j < H.next → (i ≠ 0 → j ≠ b) → H'.t.get j = H.t.get j) → Q .normal a' H') : W E (.draw rcDraw1) a H Q := by
  refine W_draw (l := _) rfl (N := 12) rfl ?_
  have e2 : (bs S)[i % 16]? = some (by' (S.getD (i % 16) 0)) := getbs (by omega)
  have e1 : Tx[i]? = some (Tx.getD i 0) := by rw [List.getD_eq_getElem?_getD, List.getElem?_eq_getElem hi, Option.getD_some]
  have eb : ∀ b : UInt8, AV.int .u8 (.ofNat b.toNat) = by' b := fun _ => rfl
  simp (disch := omega) only [rcDraw1, l_mov, l_ibin, l_load1, l_loadN, l_nilCheck, l_indexArr, l_indexSl, l_indexVal, l_indexStr, l_lenStr, l_lenSl, l_store, l_build, WL_nil, eX_t, eX_c, put_s, put_n, getset, Nat.reduceEqDiff, if_false, if_true, Option.getD_some, rd, natOf_nn, natOf_by, Option.some.injEq, exists_eq_left', Prod.mk.injEq, and_assoc, exists_and_left, true_and, Nat.zero_add, Nat.add_zero, Nat.mul_one, ble_t, mul_nn, quo_nn, rem_nn, add_nn, sub_nn, lss_nn, eql_nn, neq_nn, xor_by, k0, k1, k2, k3, k4, k5, k6, k7, k8, k12, k13, k14, k15, k16, k32, k60, k254, k256, h2, h10, h11, h12, load_blk' hs, e1, e2, eb]
  refine WL_al rfl (x := .cells (bs [Tx.getD i 0 ^^^ S.getD (i % 16) 0]) 5 false false) (f := fun i => .slice (some (i, 0)) 1 (.known 1)) (by simp only [al, List.map_cons, List.map_nil, eX_t, eX_c, put_s, put_n, getset, Nat.reduceEqDiff, if_false, if_true, Option.getD_some, fill1]) ?_
  simp only [put_s]
  have hb0 : ∀ j, j < H.next → (H.t.set (H.next + 9) (.cells (bs [Tx.getD i 0 ^^^ S.getD (i % 16) 0]) 5 false false)).get j = H.t.get j := fun j hj => by rw [getset, if_neg (by omega)]
  have hb7 : (H.t.set (H.next + 9) (.cells (bs [Tx.getD i 0 ^^^ S.getD (i % 16) 0]) 5 false false)).get (H.next + 9) = some (.cells (bs [Tx.getD i 0 ^^^ S.getD (i % 16) 0]) 5 false false) := by rw [getset, if_pos rfl]
  generalize H.t.set (H.next + 9) (.cells (bs [Tx.getD i 0 ^^^ S.getD (i % 16) 0]) 5 false false) = T0 at hb0 hb7 ⊢
  obtain ⟨T1, ha, hn, hk⟩ := app1 (nx := H.next + 12) (b := if i = 0 then H.next + 12 else b) (cap := .known 1) hO (fun h => by rw [if_neg h, hb0 _ (hbn h)]; exact hb h) hb7 hT
  have eo : outS i (if i = 0 then H.next + 12 else b) = outS i b := by unfold outS; by_cases h : i = 0 <;> simp [h]
  rw [eo] at ha
  rw [l_append]
  refine ⟨_, _, by simp only [wr0, wr, eX_t, eX_c, put_s, put_n, getset, Nat.reduceEqDiff, if_false, if_true, Option.getD_some]; exact ha, ?_⟩
  simp only [l_mov, l_ibin, l_load1, l_loadN, l_nilCheck, l_indexArr, l_indexSl, l_indexVal, l_indexStr, l_lenStr, l_lenSl, l_store, l_build, WL_nil, eX_t, eX_c, put_s, put_n, getset, Nat.reduceEqDiff, if_false, if_true, Option.getD_some]
  refine ⟨?_, _, _, rfl, ?_⟩
  · simp only [stable_cons, stable_nil, sm_mov, sm_ibin, sm_nilCheck, sm_indexArr, sm_indexSl, sm_indexVal, sm_indexStr, sm_lenStr, sm_lenSl, sm_build, sm_store, sm_call, Bool.true_and, Bool.and_true, Bool.and_eq_true, List.reverse_cons, List.reverse_nil, List.nil_append, List.cons_append, List.drop_zero, List.drop_succ_cons, Nat.sub_zero, Nat.succ_eq_add_one, Nat.zero_add, Nat.reduceAdd, Nat.reduceSub, List.take_succ_cons, List.take_zero, List.take_nil, sm_append]
    refine ⟨sm_load1w rfl (by kernel_rfl) rfl (b := s) (o := i % 16) (v := by' (S.getD (i % 16) 0)) (by simp only [eX_t, eX_c, put_s, put_n, getset, Nat.reduceEqDiff, if_false, if_true, Option.getD_some]) (by simp only [eX_t, eX_c, put_s, put_n, getset, Nat.reduceEqDiff, if_false, if_true, Option.getD_some]) ?_ (AVbeq_by _), sm_build1w rfl (by kernel_rfl) rfl (x := Tx.getD i 0 ^^^ S.getD (i % 16) 0) (by simp only [eX_t, eX_c, put_s, put_n, getset, Nat.reduceEqDiff, if_false, if_true, Option.getD_some]) ?_⟩
    · intro H' hH'
      simp only [List.mem_singleton] at hH'
      subst hH'
      rw [load_blk' (by rw [hb0 _ hsn]; exact hs)]
      exact e2
    · intro H' hH'
      simp only [List.mem_singleton] at hH'
      subst hH'
      exact hb7
  · refine hQ _ _ ?_ ?_ ?_ ?_ ?_ ?_ ?_ rfl hn ?_
    iterate 6 simp only [getset, Nat.reduceEqDiff, if_false]
    · simp only [getset, if_true]
      rfl
    · intro j hj hjb
      show T1.get j = _
      rw [hk j (by omega) (by by_cases h : i = 0 <;> simp only [h, if_true, if_false]; omega; exact hjb h), hb0 _ hj]
end Go.AE
end
-- Contracts of the reference of aes: Ctr, the main loop.
section
set_option linter.unusedVariables false
set_option linter.unusedSimpArgs false
set_option maxRecDepth 100000
set_option maxHeartbeats 1000000
namespace Go.AE
variable {E : Env}
attribute [local irreducible] keysP encP stP

/-- so many bytes of a text under the stream, as the reference makes them -/
def rfP (C N Tx : List UInt8) : Nat → List UInt8
  | 0 => []
  | i + 1 => rfP C N Tx i ++ [Tx.getD i 0 ^^^ (stP C N (i / 16)).getD (i % 16) 0]
theorem length_rfP (C N Tx : List UInt8) : ∀ i, (rfP C N Tx i).length = i
  | 0 => rfl
  | i + 1 => by rw [rfP, List.length_append, length_rfP C N Tx i]; rfl

theorem rc_main (hE : ∀ f, E.funcs f = Aes.funcsT.get f) (hx : ∀ f args H, special f = false → E.sums f args H = none) {a : Frm} {H : Heap} {C N Tx : List UInt8} {kb kw ks : Nat} {e e' e2 : TypeId}
    (h1 : a.get 1 = some (.str N)) (h2 : a.get 2 = some (.str Tx)) (h8 : a.get 8 = some (.ptr (some (kb, 0)))) (h9 : a.get 9 = some (.ptr (some (kw, 0)))) (h10 : a.get 10 = some (.slice none 0 (.known 0))) (h11 : a.get 11 = some (.ptr (some (ks, 0))))
    (hkb : kb < H.next) (hkw : kw < H.next) (hks : ks < H.next) (n1 : ks ≠ kb) (n2 : ks ≠ kw) (hN : N.length = 12) (hC : C.length = 240) (hT : Tx.length < 1000000000000)
    (hb : H.t.get kb = some (.cells (bs boxL) e false false)) (hw : H.t.get kw = some (.cells (bs C) e' false false)) (hs : H.t.get ks = some (.cells (bs (List.replicate 16 0)) e2 false false))
    {Q : AExit → Frm → Heap → Prop} (hQ : ∀ a' H' b, a'.get 10 = some (outS Tx.length b) → H.next ≤ H'.next → (Tx.length ≠ 0 → H'.t.get b = some (.cells (bs (rfP C N Tx Tx.length)) 5 true false)) →
      (∀ j, j < H.next → j ≠ ks → H'.t.get j = H.t.get j) → Q .normal a' H') : W E rcMain (a.set 12 (nn 0)) H Q := by
  have e32 : ∀ n : Nat, AV.int .i64 (.ofNat n) = nn n := fun _ => rfl
  refine W.block ?_
  refine W.count Tx.length (fun i a' H' => H.next ≤ H'.next ∧ (∃ St : List UInt8, St.length = 16 ∧ H'.t.get ks = some (.cells (bs St) e2 false false) ∧ (i % 16 ≠ 0 → St = stP C N (i / 16))) ∧
    (∃ b, a'.get 10 = some (outS i b) ∧ (i ≠ 0 → H.next ≤ b ∧ b < H'.next ∧ H'.t.get b = some (.cells (bs (rfP C N Tx i)) 5 true false))) ∧ (∀ j, j < H.next → j ≠ ks → H'.t.get j = H.t.get j) ∧
    a'.get 1 = a.get 1 ∧ a'.get 2 = a.get 2 ∧ a'.get 8 = a.get 8 ∧ a'.get 9 = a.get 9 ∧ a'.get 11 = a.get 11 ∧ a'.get 12 = some (nn i)) ?_ ?_ 0 _ H (by omega) ?_
  · intro i a1 H1 hi ⟨hn, ⟨St, hl, hst, hse⟩, ⟨b, g10, hbb⟩, hk, g1, g2, g8, g9, g11, g12⟩
    rw [h1] at g1
    rw [h2] at g2
    rw [h8] at g8
    rw [h9] at g9
    rw [h11] at g11
    refine W.seq (W.seq (W.region ?_))
    simp only [w_mov, w_ibin, w_load1, w_loadN, w_nilCheck, w_indexArr, w_indexSl, w_indexVal, w_indexStr, w_lenStr, w_lenSl, w_store, w_alloc, w_box, w_build, w_sliceArr, w_bytesToStr, w_pick, WOps_nil, thenQ_normal, eX_t, eX_c, put_s, put_n, getset, Nat.reduceEqDiff, if_false, if_true, Option.getD_some, rd, natOf_nn, natOf_by, Option.some.injEq, exists_eq_left', Prod.mk.injEq, and_assoc, exists_and_left, true_and, Nat.zero_add, Nat.add_zero, Nat.mul_one, ble_t, mul_nn, quo_nn, rem_nn, add_nn, sub_nn, lss_nn, eql_nn, neq_nn, xor_by, k0, k1, k2, k3, k4, k5, k6, k7, k8, k12, k13, k14, k15, k16, k32, k60, k254, k256, g2, g12, e32]
    refine W.cond (b := true) (by simp only [eX_t, eX_c, put_s, put_n, getset, Nat.reduceEqDiff, if_false, if_true, Option.getD_some]; simp [hi]) (W.skip ?_)
    rw [thenQ_normal]
    refine W.seq (W.block (W.seq ?_))
    have key : ∀ (a2 : Frm) (H2 : Heap), a2.get 1 = some (.str N) → a2.get 2 = some (.str Tx) → a2.get 8 = some (.ptr (some (kb, 0))) → a2.get 9 = some (.ptr (some (kw, 0))) → a2.get 10 = some (outS i b) → a2.get 11 = some (.ptr (some (ks, 0))) → a2.get 12 = some (nn i) → H1.next ≤ H2.next →
        H2.t.get ks = some (.cells (bs (stP C N (i / 16))) e2 false false) → (∀ j, j < H1.next → j ≠ ks → H2.t.get j = H1.t.get j) →
        W E (.draw rcDraw1) a2 H2 (blockQ 1 (thenQ E (.region [(AOper.mk (some 31) (.mov (.tmp 12)) none), (AOper.mk (some 32) (.ibin .add (.tmp 31) (.const (.int .i64 1))) none), (AOper.mk (some 12) (.mov (.tmp 32)) none)])
          (fun x a' H' => x = .normal ∧ H.next ≤ H'.next ∧ (∃ St : List UInt8, St.length = 16 ∧ H'.t.get ks = some (.cells (bs St) e2 false false) ∧ ((i + 1) % 16 ≠ 0 → St = stP C N ((i + 1) / 16))) ∧
            (∃ b, a'.get 10 = some (outS (i + 1) b) ∧ (i + 1 ≠ 0 → H.next ≤ b ∧ b < H'.next ∧ H'.t.get b = some (.cells (bs (rfP C N Tx (i + 1))) 5 true false))) ∧ (∀ j, j < H.next → j ≠ ks → H'.t.get j = H.t.get j) ∧
            a'.get 1 = a.get 1 ∧ a'.get 2 = a.get 2 ∧ a'.get 8 = a.get 8 ∧ a'.get 9 = a.get 9 ∧ a'.get 11 = a.get 11 ∧ a'.get 12 = some (nn (i + 1))))) := by
      intro a2 H2 q1 q2 q8 q9 q10 q11 q12 hn2 hs2 hk2
      refine rc_d1 (S := stP C N (i / 16)) (O := rfP C N Tx i) (Tx := Tx) (b := b) (i := i) (s := ks) (e := e2) q2 q10 q11 q12 hi (by omega) (length_rfP _ _ _ _) (length_stP hN _) (fun h => by have := (hbb h).2.1; omega) (by omega) (fun h => by rw [hk2 _ (hbb h).2.1 (by have := (hbb h).1; omega)]; exact (hbb h).2.2) hs2 ?_
      intro a' H' r1 r2 r8 r9 r11 r12 r10 hn' hb' hk'
      simp only [blockQ_normal, thenQ_normal]
      refine W.region ?_
      rw [q12] at r12
      simp (disch := omega) only [w_mov, w_ibin, w_load1, w_loadN, w_nilCheck, w_indexArr, w_indexSl, w_indexVal, w_indexStr, w_lenStr, w_lenSl, w_store, w_alloc, w_box, w_build, w_sliceArr, w_bytesToStr, w_pick, WOps_nil, thenQ_normal, eX_t, eX_c, put_s, put_n, getset, Nat.reduceEqDiff, if_false, if_true, Option.getD_some, rd, natOf_nn, natOf_by, Option.some.injEq, exists_eq_left', Prod.mk.injEq, and_assoc, exists_and_left, true_and, Nat.zero_add, Nat.add_zero, Nat.mul_one, ble_t, mul_nn, quo_nn, rem_nn, add_nn, sub_nn, lss_nn, eql_nn, neq_nn, xor_by, k0, k1, k2, k3, k4, k5, k6, k7, k8, k12, k13, k14, k15, k16, k32, k60, k254, k256, r12]
      refine ⟨by omega, ⟨stP C N (i / 16), length_stP hN _, ?_, fun h => by congr 1; omega⟩, ⟨H2.next + 12, r10, fun _ => ⟨by omega, by omega, hb'⟩⟩, ?_, by rw [r1, q1, h1], by rw [r2, q2, h2], by rw [r8, q8, h8], by rw [r9, q9, h9], by rw [r11, q11, h11], trivial⟩
      · rw [hk' _ (by omega) (fun h => by have := (hbb h).1; omega)]; exact hs2
      · intro j hj hjk
        rw [hk' _ (by omega) (fun h => by have := (hbb h).1; omega), hk2 _ (by omega) hjk, hk _ hj hjk]
    refine W.seq (W.region ?_)
    simp (disch := omega) only [w_mov, w_ibin, w_load1, w_loadN, w_nilCheck, w_indexArr, w_indexSl, w_indexVal, w_indexStr, w_lenStr, w_lenSl, w_store, w_alloc, w_box, w_build, w_sliceArr, w_bytesToStr, w_pick, WOps_nil, thenQ_normal, eX_t, eX_c, put_s, put_n, getset, Nat.reduceEqDiff, if_false, if_true, Option.getD_some, rd, natOf_nn, natOf_by, Option.some.injEq, exists_eq_left', Prod.mk.injEq, and_assoc, exists_and_left, true_and, Nat.zero_add, Nat.add_zero, Nat.mul_one, ble_t, mul_nn, quo_nn, rem_nn, add_nn, sub_nn, lss_nn, eql_nn, neq_nn, xor_by, k0, k1, k2, k3, k4, k5, k6, k7, k8, k12, k13, k14, k15, k16, k32, k60, k254, k256, g12]
    by_cases h16 : i % 16 = 0
    · refine W.cond (b := true) (by simp only [eX_t, eX_c, put_s, put_n, getset, Nat.reduceEqDiff, if_false, if_true, Option.getD_some]; simp [h16]) ?_
      rw [cond_true]
      refine W.seq (W.region ?_)
      simp (disch := omega) only [w_mov, w_ibin, w_load1, w_loadN, w_nilCheck, w_indexArr, w_indexSl, w_indexVal, w_indexStr, w_lenStr, w_lenSl, w_store, w_alloc, w_box, w_build, w_sliceArr, w_bytesToStr, w_pick, WOps_nil, thenQ_normal, eX_t, eX_c, put_s, put_n, getset, Nat.reduceEqDiff, if_false, if_true, Option.getD_some, rd, natOf_nn, natOf_by, Option.some.injEq, exists_eq_left', Prod.mk.injEq, and_assoc, exists_and_left, true_and, Nat.zero_add, Nat.add_zero, Nat.mul_one, ble_t, mul_nn, quo_nn, rem_nn, add_nn, sub_nn, lss_nn, eql_nn, neq_nn, xor_by, k0, k1, k2, k3, k4, k5, k6, k7, k8, k12, k13, k14, k15, k16, k32, k60, k254, k256, g12]
      refine rc_d0 hE hx (C := C) (N := N) (St := St) (n := i / 16) (kb := kb) (kw := kw) (ks := ks) (e := e) (e' := e') (e2 := e2) (by simp only [eX_t, eX_c, put_s, put_n, getset, Nat.reduceEqDiff, if_false, if_true, Option.getD_some]; exact g1) (by simp only [eX_t, eX_c, put_s, put_n, getset, Nat.reduceEqDiff, if_false, if_true, Option.getD_some]; exact g8) (by simp only [eX_t, eX_c, put_s, put_n, getset, Nat.reduceEqDiff, if_false, if_true, Option.getD_some]; exact g9) (by simp only [eX_t, eX_c, put_s, put_n, getset, Nat.reduceEqDiff, if_false, if_true, Option.getD_some]; exact g11) (by simp only [eX_t, eX_c, put_s, put_n, getset, Nat.reduceEqDiff, if_false, if_true, Option.getD_some]) (by omega) (by omega) (by omega) hN hC hl
        (by rw [hk _ hkb (Ne.symm n1)]; exact hb) (by rw [hk _ hkw (Ne.symm n2)]; exact hw) hst ?_
      intro a2 H2 f1 f2 f8 f9 f10 f11 f12 hn2 hk2
      simp only [getset, Nat.reduceEqDiff, if_false] at f1 f2 f8 f9 f10 f11 f12
      simp only [thenQ_normal]
      exact key a2 H2 (f1.trans g1) (f2.trans g2) (f8.trans g8) (f9.trans g9) (f10.trans g10) (f11.trans g11) (f12.trans g12) hn2 (by rw [hk2 _ (by omega), if_pos rfl]) fun j hj hjk => by rw [hk2 _ hj, if_neg (Ne.symm hjk)]
    · refine W.cond (b := false) (by simp only [eX_t, eX_c, put_s, put_n, getset, Nat.reduceEqDiff, if_false, if_true, Option.getD_some]; simp [h16]) ?_
      rw [cond_false]
      refine W.skip ?_
      simp only [thenQ_normal]
      refine key _ H1 ?_ ?_ ?_ ?_ ?_ ?_ ?_ (Nat.le_refl _) (by rw [hst, hse h16]) fun j hj hjk => rfl
      all_goals simp only [getset, Nat.reduceEqDiff, if_false]; assumption
  · intro a1 H1 ⟨hn, ⟨St, hl, hst, hse⟩, ⟨b, g10, hbb⟩, hk, g1, g2, g8, g9, g11, g12⟩
    rw [h2] at g2
    refine W.seq (W.seq (W.region ?_))
    simp only [w_mov, w_ibin, w_load1, w_loadN, w_nilCheck, w_indexArr, w_indexSl, w_indexVal, w_indexStr, w_lenStr, w_lenSl, w_store, w_alloc, w_box, w_build, w_sliceArr, w_bytesToStr, w_pick, WOps_nil, thenQ_normal, eX_t, eX_c, put_s, put_n, getset, Nat.reduceEqDiff, if_false, if_true, Option.getD_some, rd, natOf_nn, natOf_by, Option.some.injEq, exists_eq_left', Prod.mk.injEq, and_assoc, exists_and_left, true_and, Nat.zero_add, Nat.add_zero, Nat.mul_one, ble_t, mul_nn, quo_nn, rem_nn, add_nn, sub_nn, lss_nn, eql_nn, neq_nn, xor_by, k0, k1, k2, k3, k4, k5, k6, k7, k8, k12, k13, k14, k15, k16, k32, k60, k254, k256, g2, g12, e32]
    refine W.cond (b := false) (by simp only [eX_t, eX_c, put_s, put_n, getset, Nat.reduceEqDiff, if_false, if_true, Option.getD_some]; simp) (W.exit ?_)
    refine ⟨nofun, ?_⟩
    simp only [blockQ_exit, Nat.beq_refl, cond_true]
    refine hQ _ _ b ?_ hn (fun h => (hbb h).2.2) hk
    simp only [getset, Nat.reduceEqDiff, if_false]; exact g10
  · refine ⟨Nat.le_refl _, ⟨List.replicate 16 0, List.length_replicate, hs, fun h => absurd rfl h⟩, ⟨0, ?_, fun h => absurd rfl h⟩, fun _ _ _ => rfl, ?_, ?_, ?_, ?_, ?_, ?_⟩
    all_goals simp only [getset, Nat.reduceEqDiff, if_false, if_true]
    exact h10
end Go.AE
end
-- Contracts of the reference of aes: Ctr, whole; it is the program's.
section
set_option linter.unusedVariables false
set_option linter.unusedSimpArgs false
set_option maxRecDepth 100000
set_option maxHeartbeats 1000000
namespace Go.AE
variable {E : Env}
attribute [local irreducible] keysP encP stP

theorem xoK_getD (O S : List UInt8) (p : Nat) : ∀ i, p + i ≤ O.length → ∀ j, (xoK O S p i).getD j 0 = if p ≤ j ∧ j < p + i then O.getD j 0 ^^^ S.getD (j - p) 0 else O.getD j 0
  | 0, _, j => by rw [xoK, if_neg (by omega)]
  | i + 1, h, j => by
    rw [xoK]
    by_cases e : p + i = j
    · subst e
      rw [getD_set_eq (by rw [length_xoK]; omega), xoK_getD O S p i (by omega), if_neg (by omega), if_pos (by omega), Nat.add_sub_cancel_left]
    · rw [getD_set_ne e, xoK_getD O S p i (by omega)]
      by_cases l : p ≤ j ∧ j < p + i
      · rw [if_pos l, if_pos (by omega)]
      · rw [if_neg l, if_neg (by omega)]

theorem xsP_getD (C N Tx : List UInt8) : ∀ i, 16 * i < Tx.length + 16 → ∀ j, j < Tx.length → (xsP C N Tx i).getD j 0 = if j < 16 * i then Tx.getD j 0 ^^^ (stP C N (j / 16)).getD (j % 16) 0 else Tx.getD j 0
  | 0, _, j, _ => by rw [xsP, if_neg (by omega)]
  | i + 1, h, j, hj => by
    rw [xsP, xoK_getD _ _ _ _ (by rw [length_xsP]; omega), xsP_getD C N Tx i (by omega) j hj]
    by_cases l : 16 * i ≤ j ∧ j < 16 * i + (min (16 * i + 16) Tx.length - 16 * i)
    · rw [if_pos l, if_neg (by omega), if_pos (by omega), show j / 16 = i by omega, show j % 16 = j - 16 * i by omega]
    · rw [if_neg l]
      by_cases l2 : j < 16 * i
      · rw [if_pos l2, if_pos (by omega)]
      · rw [if_neg l2, if_neg (by omega)]

theorem rfP_getD (C N Tx : List UInt8) : ∀ i j, j < i → (rfP C N Tx i).getD j 0 = Tx.getD j 0 ^^^ (stP C N (j / 16)).getD (j % 16) 0
  | 0, j, h => absurd h (by omega)
  | i + 1, j, h => by
    have hl := length_rfP C N Tx i
    rw [rfP, List.getD_eq_getElem?_getD]
    by_cases e : j = i
    · subst e
      rw [List.getElem?_append_right (by omega), hl, Nat.sub_self]
      rfl
    · rw [List.getElem?_append_left (by omega), ← List.getD_eq_getElem?_getD]
      exact rfP_getD C N Tx i j (by omega)

theorem rf_xs (C N Tx : List UInt8) : rfP C N Tx Tx.length = xsP C N Tx ((Tx.length + 15) / 16) := by
  refine getD_ext (by rw [length_rfP, length_xsP]) fun j hj => ?_
  rw [length_rfP] at hj
  rw [rfP_getD _ _ _ _ _ hj, xsP_getD _ _ _ _ (by omega) _ hj, if_pos (by omega)]

attribute [local irreducible] xsP rfP

theorem toStr_out {a : Frm} {x : AX} {b L : Nat} {S : List UInt8} {H : Heap} (hx : evalX a x = outS L b) (hl : S.length = L) (hb : L ≠ 0 → H.t.get b = some (.cells (bs S) 5 true false)) :
    rd (.bytesToStr x) a H = some (.str S) := by
  unfold outS at hx
  by_cases h : L = 0
  · subst h
    obtain rfl := List.eq_nil_of_length_eq_zero hl
    rw [if_pos rfl] at hx
    simp only [rd, hx]
  · rw [if_neg h] at hx
    obtain ⟨T0, n0⟩ := H
    exact toStr hx hl (hb h)

theorem rCtr_ok (hE : ∀ f, E.funcs f = Aes.funcsT.get f) (hx : ∀ f args H, special f = false → E.sums f args H = none) {H : Heap} {K N Tx : List UInt8} {Q : AV → Heap → Prop}
    (hQ : ∀ H', H.next ≤ H'.next → (∀ j, j < H.next → H'.t.get j = H.t.get j) → Q (.tuple [.str (ctrP K N Tx).1, nn (ctrP K N Tx).2]) H') : WCall E 13 [.str K, .str N, .str Tx] H Q := by
  refine WCall.func (hx 13 _ _ (by decide)) ((hE 13).trans rfl) ?_
  have f0 : (frameOf [.str K, .str N, .str Tx] 0 .nil).get 0 = some (.str K) := rfl
  have f1 : (frameOf [.str K, .str N, .str Tx] 0 .nil).get 1 = some (.str N) := rfl
  have f2 : (frameOf [.str K, .str N, .str Tx] 0 .nil).get 2 = some (.str Tx) := rfl
  generalize frameOf [.str K, .str N, .str Tx] 0 .nil = a at f0 f1 f2
  have e32 : ∀ n : Nat, AV.int .i64 (.ofNat n) = nn n := fun _ => rfl
  refine W.seq (W.region ?_)
  simp only [w_mov, w_ibin, w_load1, w_loadN, w_nilCheck, w_indexArr, w_indexSl, w_indexVal, w_indexStr, w_lenStr, w_lenSl, w_store, w_alloc, w_box, w_build, w_sliceArr, w_bytesToStr, w_pick, WOps_nil, thenQ_normal, eX_t, eX_c, put_s, put_n, getset, Nat.reduceEqDiff, if_false, if_true, Option.getD_some, rd, natOf_nn, natOf_by, Option.some.injEq, exists_eq_left', Prod.mk.injEq, and_assoc, exists_and_left, true_and, Nat.zero_add, Nat.add_zero, Nat.mul_one, ble_t, mul_nn, quo_nn, rem_nn, add_nn, sub_nn, lss_nn, eql_nn, neq_nn, xor_by, k0, k1, k2, k3, k4, k5, k6, k7, k8, k12, k13, k14, k15, k16, k32, k60, k254, k256]
  refine W.seq (W.seq (W.region ?_))
  simp only [w_mov, w_ibin, w_load1, w_loadN, w_nilCheck, w_indexArr, w_indexSl, w_indexVal, w_indexStr, w_lenStr, w_lenSl, w_store, w_alloc, w_box, w_build, w_sliceArr, w_bytesToStr, w_pick, WOps_nil, thenQ_normal, eX_t, eX_c, put_s, put_n, getset, Nat.reduceEqDiff, if_false, if_true, Option.getD_some, rd, natOf_nn, natOf_by, Option.some.injEq, exists_eq_left', Prod.mk.injEq, and_assoc, exists_and_left, true_and, Nat.zero_add, Nat.add_zero, Nat.mul_one, ble_t, mul_nn, quo_nn, rem_nn, add_nn, sub_nn, lss_nn, eql_nn, neq_nn, xor_by, k0, k1, k2, k3, k4, k5, k6, k7, k8, k12, k13, k14, k15, k16, k32, k60, k254, k256, f0, e32]
  refine W.cond (b := decide (K.length ≠ 32)) (by simp only [eX_t, eX_c, put_s, put_n, getset, Nat.reduceEqDiff, if_false, if_true, Option.getD_some]) ?_
  by_cases hK : K.length = 32
  · simp only [hK, ne_eq, not_true_eq_false, decide_false, cond_false]
    refine W.skip ?_
    rw [thenQ_normal]
    refine W.seq (W.seq (W.region ?_))
    simp only [w_mov, w_ibin, w_load1, w_loadN, w_nilCheck, w_indexArr, w_indexSl, w_indexVal, w_indexStr, w_lenStr, w_lenSl, w_store, w_alloc, w_box, w_build, w_sliceArr, w_bytesToStr, w_pick, WOps_nil, thenQ_normal, eX_t, eX_c, put_s, put_n, getset, Nat.reduceEqDiff, if_false, if_true, Option.getD_some, rd, natOf_nn, natOf_by, Option.some.injEq, exists_eq_left', Prod.mk.injEq, and_assoc, exists_and_left, true_and, Nat.zero_add, Nat.add_zero, Nat.mul_one, ble_t, mul_nn, quo_nn, rem_nn, add_nn, sub_nn, lss_nn, eql_nn, neq_nn, xor_by, k0, k1, k2, k3, k4, k5, k6, k7, k8, k12, k13, k14, k15, k16, k32, k60, k254, k256, f1, e32]
    refine W.cond (b := decide (N.length ≠ 12)) (by simp only [eX_t, eX_c, put_s, put_n, getset, Nat.reduceEqDiff, if_false, if_true, Option.getD_some]) ?_
    by_cases hN : N.length = 12
    · simp only [hN, ne_eq, not_true_eq_false, decide_false, cond_false]
      refine W.skip ?_
      rw [thenQ_normal]
      refine W.seq (W.seq (W.region ?_))
      simp only [w_mov, w_ibin, w_load1, w_loadN, w_nilCheck, w_indexArr, w_indexSl, w_indexVal, w_indexStr, w_lenStr, w_lenSl, w_store, w_alloc, w_box, w_build, w_sliceArr, w_bytesToStr, w_pick, WOps_nil, thenQ_normal, eX_t, eX_c, put_s, put_n, getset, Nat.reduceEqDiff, if_false, if_true, Option.getD_some, rd, natOf_nn, natOf_by, Option.some.injEq, exists_eq_left', Prod.mk.injEq, and_assoc, exists_and_left, true_and, Nat.zero_add, Nat.add_zero, Nat.mul_one, ble_t, mul_nn, quo_nn, rem_nn, add_nn, sub_nn, lss_nn, eql_nn, neq_nn, xor_by, k0, k1, k2, k3, k4, k5, k6, k7, k8, k12, k13, k14, k15, k16, k32, k60, k254, k256, f2, e32, kM, gtr_nn]
      refine W.cond (b := decide (1048576 < Tx.length)) (by simp only [eX_t, eX_c, put_s, put_n, getset, Nat.reduceEqDiff, if_false, if_true, Option.getD_some]) ?_
      by_cases hT : 1048576 < Tx.length
      · simp only [hT, decide_true, cond_true]
        refine W.seq (W.region ?_)
        simp only [w_mov, w_ibin, w_load1, w_loadN, w_nilCheck, w_indexArr, w_indexSl, w_indexVal, w_indexStr, w_lenStr, w_lenSl, w_store, w_alloc, w_box, w_build, w_sliceArr, w_bytesToStr, w_pick, WOps_nil, thenQ_normal, eX_t, eX_c, put_s, put_n, getset, Nat.reduceEqDiff, if_false, if_true, Option.getD_some, rd, natOf_nn, natOf_by, Option.some.injEq, exists_eq_left', Prod.mk.injEq, and_assoc, exists_and_left, true_and, Nat.zero_add, Nat.add_zero, Nat.mul_one, ble_t, mul_nn, quo_nn, rem_nn, add_nn, sub_nn, lss_nn, eql_nn, neq_nn, xor_by, k0, k1, k2, k3, k4, k5, k6, k7, k8, k12, k13, k14, k15, k16, k32, k60, k254, k256]
        refine W.ret ?_
        simp only [thenQ_ret]
        refine ⟨.inr rfl, ?_⟩
        simp only [resultsOf, resOf, eX_t, eX_c, put_s, put_n, getset, Nat.reduceEqDiff, if_false, if_true, Option.getD_some, Option.some.injEq, exists_eq_left', oneOf]
        have := hQ H (Nat.le_refl _) fun _ _ => rfl
        simp only [ctrP, hK, hN, hT, ne_eq, not_true_eq_false, if_false, if_true] at this
        exact this
      · simp only [hT, decide_false, cond_false]
        refine W.skip ?_
        simp only [thenQ_normal]
        refine W.seq (W.region ?_)
        refine WOps.call (g := 19) (first := []) (captured := []) rfl ?_
        simp only [List.map_nil, List.nil_append, List.append_nil]
        refine boxes_ok hE hx ?_
        intro H1 hn1 hb1
        have e : ∀ (H : Heap) l, bs (List.replicate 256 0) = l → H.push (.cells l 42 false false) = H.push (.cells (bs (List.replicate 256 0)) 42 false false) := fun H l h => by rw [h]
        rw [w_alloc, e _ _ (by kernel_rfl)]
        have hp := get_push H1 (.cells (bs (List.replicate 256 0)) 42 false false)
        have hpn := next_push H1 (.cells (bs (List.replicate 256 0)) 42 false false)
        generalize H1.push (.cells (bs (List.replicate 256 0)) 42 false false) = H2 at hp hpn ⊢
        obtain ⟨T2, n2⟩ := H2
        simp only at hp hpn
        have hz : T2.get H1.next = some (.cells (bs (List.replicate 256 0)) 42 false false) := by rw [hp, if_pos rfl]
        simp only [w_store, eX_t, eX_c, put_s, put_n, getset, Nat.reduceEqDiff, if_false, if_true, Option.getD_some, wst_agg hz List.length_replicate length_boxL, Option.some.injEq, Prod.mk.injEq, exists_eq_left', and_assoc, exists_and_left, WOps_nil, thenQ_normal]
        have hq : (T2.set H1.next (.cells (bs boxL) 42 false false)).get H1.next = some (.cells (bs boxL) 42 false false) := by rw [getset, if_pos rfl]
        have hq2 : ∀ j, j ≠ H1.next → (T2.set H1.next (.cells (bs boxL) 42 false false)).get j = H1.t.get j := fun j hj => by rw [getset, if_neg (Ne.symm hj), hp, if_neg (Ne.symm hj)]
        generalize T2.set H1.next (.cells (bs boxL) 42 false false) = T3 at hq hq2 ⊢
        refine W.seq (W.region ?_)
        simp only [w_mov, w_ibin, w_load1, w_loadN, w_nilCheck, w_indexArr, w_indexSl, w_indexVal, w_indexStr, w_lenStr, w_lenSl, w_store, w_alloc, w_box, w_build, w_sliceArr, w_bytesToStr, w_pick, WOps_nil, thenQ_normal, eX_t, eX_c, put_s, put_n, getset, Nat.reduceEqDiff, if_false, if_true, Option.getD_some, rd, natOf_nn, natOf_by, Option.some.injEq, exists_eq_left', Prod.mk.injEq, and_assoc, exists_and_left, true_and, Nat.zero_add, Nat.add_zero, Nat.mul_one, ble_t, mul_nn, quo_nn, rem_nn, add_nn, sub_nn, lss_nn, eql_nn, neq_nn, xor_by, k0, k1, k2, k3, k4, k5, k6, k7, k8, k12, k13, k14, k15, k16, k32, k60, k254, k256, f0, loadN_bs hq length_boxL]
        refine WOps.call (g := 21) (first := []) (captured := []) rfl ?_
        simp only [List.map_nil, List.map_cons, List.nil_append, List.append_nil, eX_t, eX_c, put_s, put_n, getset, Nat.reduceEqDiff, if_false, if_true, Option.getD_some]
        refine rkeys_ok hE hx hK ?_
        intro H4 hn4 hb4
        simp only at hn4 hb4
        have e' : ∀ (H : Heap) l, bs (List.replicate 240 0) = l → H.push (.cells l 46 false false) = H.push (.cells (bs (List.replicate 240 0)) 46 false false) := fun H l h => by rw [h]
        rw [w_alloc, e' _ _ (by kernel_rfl)]
        have hp4 := get_push H4 (.cells (bs (List.replicate 240 0)) 46 false false)
        have hpn4 := next_push H4 (.cells (bs (List.replicate 240 0)) 46 false false)
        generalize H4.push (.cells (bs (List.replicate 240 0)) 46 false false) = H5 at hp4 hpn4 ⊢
        obtain ⟨T5, n5⟩ := H5
        simp only at hp4 hpn4
        have hz5 : T5.get H4.next = some (.cells (bs (List.replicate 240 0)) 46 false false) := by rw [hp4, if_pos rfl]
        simp only [w_store, eX_t, eX_c, put_s, put_n, getset, Nat.reduceEqDiff, if_false, if_true, Option.getD_some, wst_agg hz5 List.length_replicate (length_keysP K), Option.some.injEq, Prod.mk.injEq, exists_eq_left', and_assoc, exists_and_left, WOps_nil, thenQ_normal]
        have hr : (T5.set H4.next (.cells (bs (keysP K)) 46 false false)).get H4.next = some (.cells (bs (keysP K)) 46 false false) := by rw [getset, if_pos rfl]
        have hr2 : ∀ j, j ≠ H4.next → (T5.set H4.next (.cells (bs (keysP K)) 46 false false)).get j = H4.t.get j := fun j hj => by rw [getset, if_neg (Ne.symm hj), hp4, if_neg (Ne.symm hj)]
        generalize T5.set H4.next (.cells (bs (keysP K)) 46 false false) = T6 at hr hr2 ⊢
        refine W.seq (W.region ?_)
        simp only [w_mov, w_ibin, w_load1, w_loadN, w_nilCheck, w_indexArr, w_indexSl, w_indexVal, w_indexStr, w_lenStr, w_lenSl, w_store, w_alloc, w_box, w_build, w_sliceArr, w_bytesToStr, w_pick, WOps_nil, thenQ_normal, eX_t, eX_c, put_s, put_n, getset, Nat.reduceEqDiff, if_false, if_true, Option.getD_some, rd, natOf_nn, natOf_by, Option.some.injEq, exists_eq_left', Prod.mk.injEq, and_assoc, exists_and_left, true_and, Nat.zero_add, Nat.add_zero, Nat.mul_one, ble_t, mul_nn, quo_nn, rem_nn, add_nn, sub_nn, lss_nn, eql_nn, neq_nn, xor_by, k0, k1, k2, k3, k4, k5, k6, k7, k8, k12, k13, k14, k15, k16, k32, k60, k254, k256]
        refine W.seq (W.region ?_)
        rw [zero16, w_alloc]
        have hp7 := get_push ⟨T6, n5⟩ (.cells (bs (List.replicate 16 0)) 37 false false)
        have hpn7 := next_push ⟨T6, n5⟩ (.cells (bs (List.replicate 16 0)) 37 false false)
        generalize Heap.push ⟨T6, n5⟩ (.cells (bs (List.replicate 16 0)) 37 false false) = H7 at hp7 hpn7 ⊢
        simp only at hp7 hpn7
        simp only [w_mov, w_ibin, w_load1, w_loadN, w_nilCheck, w_indexArr, w_indexSl, w_indexVal, w_indexStr, w_lenStr, w_lenSl, w_store, w_alloc, w_box, w_build, w_sliceArr, w_bytesToStr, w_pick, WOps_nil, thenQ_normal, eX_t, eX_c, put_s, put_n, getset, Nat.reduceEqDiff, if_false, if_true, Option.getD_some, rd, natOf_nn, natOf_by, Option.some.injEq, exists_eq_left', Prod.mk.injEq, and_assoc, exists_and_left, true_and, Nat.zero_add, Nat.add_zero, Nat.mul_one, ble_t, mul_nn, quo_nn, rem_nn, add_nn, sub_nn, lss_nn, eql_nn, neq_nn, xor_by, k0, k1, k2, k3, k4, k5, k6, k7, k8, k12, k13, k14, k15, k16, k32, k60, k254, k256]
        refine W.seq (W.seq (W.region ?_))
        simp only [w_mov, w_ibin, w_load1, w_loadN, w_nilCheck, w_indexArr, w_indexSl, w_indexVal, w_indexStr, w_lenStr, w_lenSl, w_store, w_alloc, w_box, w_build, w_sliceArr, w_bytesToStr, w_pick, WOps_nil, thenQ_normal, eX_t, eX_c, put_s, put_n, getset, Nat.reduceEqDiff, if_false, if_true, Option.getD_some, rd, natOf_nn, natOf_by, Option.some.injEq, exists_eq_left', Prod.mk.injEq, and_assoc, exists_and_left, true_and, Nat.zero_add, Nat.add_zero, Nat.mul_one, ble_t, mul_nn, quo_nn, rem_nn, add_nn, sub_nn, lss_nn, eql_nn, neq_nn, xor_by, k0, k1, k2, k3, k4, k5, k6, k7, k8, k12, k13, k14, k15, k16, k32, k60, k254, k256]
        refine rc_main hE hx (C := keysP K) (N := N) (Tx := Tx) (kb := H1.next) (kw := H4.next) (ks := n5) (e := 42) (e' := 46) (e2 := 37) (by simp only [eX_t, eX_c, put_s, put_n, getset, Nat.reduceEqDiff, if_false, if_true, Option.getD_some]; exact f1) (by simp only [eX_t, eX_c, put_s, put_n, getset, Nat.reduceEqDiff, if_false, if_true, Option.getD_some]; exact f2) (by simp only [eX_t, eX_c, put_s, put_n, getset, Nat.reduceEqDiff, if_false, if_true, Option.getD_some]) (by simp only [eX_t, eX_c, put_s, put_n, getset, Nat.reduceEqDiff, if_false, if_true, Option.getD_some]) (by simp only [eX_t, eX_c, put_s, put_n, getset, Nat.reduceEqDiff, if_false, if_true, Option.getD_some]) (by simp only [eX_t, eX_c, put_s, put_n, getset, Nat.reduceEqDiff, if_false, if_true, Option.getD_some]) (by omega) (by omega) (by omega) (by omega) (by omega) hN (length_keysP K) (by omega)
          (by rw [hp7, if_neg (by omega), hr2 _ (by omega), hb4 _ (by omega)]; exact hq) (by rw [hp7, if_neg (by omega)]; exact hr) (by rw [hp7, if_pos rfl]) ?_
        intro a8 H8 b q10 hn8 hb8 hk8
        simp only [thenQ_normal]
        refine W.seq (W.region ?_)
        simp only [w_mov, eX_t, eX_c, put_s, put_n, getset, Nat.reduceEqDiff, if_false, if_true, Option.getD_some, q10]
        rw [w_bytesToStr]
        refine ⟨_, toStr_out (b := b) (L := Tx.length) (S := rfP (keysP K) N Tx Tx.length) (by simp only [eX_t, eX_c, put_s, put_n, getset, Nat.reduceEqDiff, if_false, if_true, Option.getD_some]) (length_rfP _ _ _ _) hb8, ?_⟩
        simp only [w_mov, w_ibin, w_load1, w_loadN, w_nilCheck, w_indexArr, w_indexSl, w_indexVal, w_indexStr, w_lenStr, w_lenSl, w_store, w_alloc, w_box, w_build, w_sliceArr, w_bytesToStr, w_pick, WOps_nil, thenQ_normal, eX_t, eX_c, put_s, put_n, getset, Nat.reduceEqDiff, if_false, if_true, Option.getD_some, rd, natOf_nn, natOf_by, Option.some.injEq, exists_eq_left', Prod.mk.injEq, and_assoc, exists_and_left, true_and, Nat.zero_add, Nat.add_zero, Nat.mul_one, ble_t, mul_nn, quo_nn, rem_nn, add_nn, sub_nn, lss_nn, eql_nn, neq_nn, xor_by, k0, k1, k2, k3, k4, k5, k6, k7, k8, k12, k13, k14, k15, k16, k32, k60, k254, k256]
        refine W.ret ⟨.inr rfl, ?_⟩
        simp only [resultsOf, resOf, eX_t, eX_c, put_s, put_n, getset, Nat.reduceEqDiff, if_false, if_true, Option.getD_some, Option.some.injEq, exists_eq_left', oneOf]
        have := hQ H8 (by omega) fun j hj => by
          rw [hk8 _ (by omega) (by omega), hp7, if_neg (by omega), hr2 _ (by omega), hb4 _ (by omega), hq2 _ (by omega), hb1 _ (by omega)]
        simp only [ctrP, hK, hN, hT, ne_eq, not_true_eq_false, if_false] at this
        rw [rf_xs]
        exact this
    · simp only [hN, ne_eq, not_false_eq_true, decide_true, cond_true]
      refine W.seq (W.region ?_)
      simp only [w_mov, w_ibin, w_load1, w_loadN, w_nilCheck, w_indexArr, w_indexSl, w_indexVal, w_indexStr, w_lenStr, w_lenSl, w_store, w_alloc, w_box, w_build, w_sliceArr, w_bytesToStr, w_pick, WOps_nil, thenQ_normal, eX_t, eX_c, put_s, put_n, getset, Nat.reduceEqDiff, if_false, if_true, Option.getD_some, rd, natOf_nn, natOf_by, Option.some.injEq, exists_eq_left', Prod.mk.injEq, and_assoc, exists_and_left, true_and, Nat.zero_add, Nat.add_zero, Nat.mul_one, ble_t, mul_nn, quo_nn, rem_nn, add_nn, sub_nn, lss_nn, eql_nn, neq_nn, xor_by, k0, k1, k2, k3, k4, k5, k6, k7, k8, k12, k13, k14, k15, k16, k32, k60, k254, k256]
      refine W.ret ?_
      simp only [thenQ_ret]
      refine ⟨.inr rfl, ?_⟩
      simp only [resultsOf, resOf, eX_t, eX_c, put_s, put_n, getset, Nat.reduceEqDiff, if_false, if_true, Option.getD_some, Option.some.injEq, exists_eq_left', oneOf]
      have := hQ H (Nat.le_refl _) fun _ _ => rfl
      simp only [ctrP, hK, hN, ne_eq, not_true_eq_false, not_false_eq_true, if_false, if_true] at this
      exact this
  · simp only [hK, ne_eq, not_false_eq_true, decide_true, cond_true]
    refine W.seq (W.region ?_)
    simp only [w_mov, w_ibin, w_load1, w_loadN, w_nilCheck, w_indexArr, w_indexSl, w_indexVal, w_indexStr, w_lenStr, w_lenSl, w_store, w_alloc, w_box, w_build, w_sliceArr, w_bytesToStr, w_pick, WOps_nil, thenQ_normal, eX_t, eX_c, put_s, put_n, getset, Nat.reduceEqDiff, if_false, if_true, Option.getD_some, rd, natOf_nn, natOf_by, Option.some.injEq, exists_eq_left', Prod.mk.injEq, and_assoc, exists_and_left, true_and, Nat.zero_add, Nat.add_zero, Nat.mul_one, ble_t, mul_nn, quo_nn, rem_nn, add_nn, sub_nn, lss_nn, eql_nn, neq_nn, xor_by, k0, k1, k2, k3, k4, k5, k6, k7, k8, k12, k13, k14, k15, k16, k32, k60, k254, k256]
    refine W.ret ?_
    simp only [thenQ_ret]
    refine ⟨.inr rfl, ?_⟩
    simp only [resultsOf, resOf, eX_t, eX_c, put_s, put_n, getset, Nat.reduceEqDiff, if_false, if_true, Option.getD_some, Option.some.injEq, exists_eq_left', oneOf]
    have := hQ H (Nat.le_refl _) fun _ _ => rfl
    simp only [ctrP, hK, ne_eq, not_false_eq_true, if_true] at this
    exact this
end Go.AE
end
-- Contracts of wire: PutNumber of four bytes.
section
set_option linter.unusedVariables false
set_option linter.unusedSimpArgs false
set_option maxRecDepth 100000
set_option maxHeartbeats 1000000
namespace Go.AE
variable {E : Env}

theorem w_maxI {all os : List AOper} {dst : Option Nat} {xs : List AX} {a : Frm} {H : Heap} {Q : Frm → Heap → Prop} :
    WOps E all (⟨dst, .maxI xs, none⟩ :: os) a H Q ↔ ∃ v, rd (.maxI xs) a H = some v ∧ WOps E all os (put a dst v) H Q := WOps_rd rfl
/-- a number without sign -/
def nu (n : Nat) : AV := .int .u64 (.ofNat n)
theorem shr_uu {a b : Nat} (h : b < 64) : ibin .shr (nu a) (nn b) = some (nu (a / 2 ^ b)) := by
  have e1 : Nat.ble b 64 = true := by rw [Nat.ble_eq]; omega
  show (let n := bif Nat.ble b 64 then b else 64; some (AV.int .u64 (.ofNat (Nat.div a (Nat.pow 2 n))))) = _
  rw [e1]; rfl
theorem conv_nu {a : Frm} {H : Heap} {x : AX} {n : Nat} (h : evalX a x = nu n) : rd (.convInt .u8 x) a H = some (by' (UInt8.ofNat n)) := by
  simp only [rd, h, nu, conv_u8, by']
theorem geq_nn (a b : Nat) : ibin .geq (nn a) (nn b) = some (.bool (decide (b ≤ a))) := by
  simp only [nn, ibin, kindEq, cond_true, fits.Int.ble']
  congr 2
  cases h : Nat.ble b a with
  | true => rw [Nat.ble_eq] at h; simp [h]
  | false => have : ¬ b ≤ a := fun h' => by rw [← Nat.ble_eq, h] at h'; exact nomatch h'
             simp [this]

theorem w_build1 {all os : List AOper} {dst : Option Nat} {x : AX} {a : Frm} {H : Heap} {Q : Frm → Heap → Prop} {b : UInt8} (hx : evalX a x = by' b)
    (h : WOps E all os (put a dst (.slice (some (H.next, 0)) 1 (.known 1))) (H.push (.cells (bs [b]) 5 false false)) Q) : WOps E all (⟨dst, .buildSlice 5 [.int .u8 0] 1 [(0, (1, x))], none⟩ :: os) a H Q := by
  rw [WOps_al rfl]
  refine ⟨.cells (bs [b]) 5 false false, fun i => .slice (some (i, 0)) 1 (.known 1), ?_, h⟩
  simp only [al, List.map_cons, List.map_nil, hx, fill1]

def pnMain : ACode := (.block 0 (.loop (.seq (.seq (.region [(AOper.mk (some 15) (.mov (.tmp 8)) none), (AOper.mk (some 16) (.ibin .geq (.tmp 15) (.const (.int .i64 0))) none)]) (.cond (.tmp 16) .skip (.exit 0))) (.seq (.block 1 (.region [(AOper.mk (some 19) (.mov (.tmp 7)) none), (AOper.mk (some 20) (.mov (.tmp 2)) none), (AOper.mk (some 21) (.mov (.tmp 8)) none), (AOper.mk (some 22) (.ibin .mul (.const (.int .i64 8)) (.tmp 21)) none), (AOper.mk (some 23) (.ibin .shr (.tmp 20) (.tmp 22)) none), (AOper.mk (some 24) (.convInt .u8 (.tmp 23)) none), (AOper.mk (some 25) (.buildSlice 5 [(.int .u8 0)] 1 [(0, (1, (.tmp 24)))]) none), (AOper.mk (some 26) (.append 5 1 1 (.tmp 19) (.tmp 25)) none), (AOper.mk (some 7) (.mov (.tmp 26)) none)])) (.region [(AOper.mk (some 17) (.mov (.tmp 8)) none), (AOper.mk (some 18) (.ibin .sub (.tmp 17) (.const (.int .i64 1))) none), (AOper.mk (some 8) (.mov (.tmp 18)) none)])))))

/-- the counter of the loop -/
def dn : Nat → AV
  | 0 => nn 3
  | 1 => nn 2
  | 2 => nn 1
  | 3 => nn 0
  | _ => .int .i64 (-1)

/-- the number's bytes, so many, the highest first -/
def pnK (N : List UInt8) (n : Nat) : Nat → List UInt8
  | 0 => N
  | i + 1 => pnK N n i ++ [UInt8.ofNat (n / 2 ^ (8 * (3 - i)))]
theorem length_pnK (N : List UInt8) (n : Nat) : ∀ i, (pnK N n i).length = N.length + i
  | 0 => rfl
  | i + 1 => by rw [pnK, List.length_append, length_pnK N n i]; rfl
theorem pnK_4 (N : List UInt8) (n : Nat) : pnK N n 4 = cntP N n := by
  simp [pnK, cntP]

theorem pn_main {a : Frm} {H : Heap} {N : List UInt8} {n b : Nat} (h2 : a.get 2 = some (nu n)) (h7 : a.get 7 = some (.slice (some (b, 0)) 12 (.unk 1))) (h8 : a.get 8 = some (nn 3)) (hbn : b < H.next) (hN : N.length = 12)
    (hb : H.t.get b = some (.cells (bs N) 5 true false)) {Q : AExit → Frm → Heap → Prop}
    (hQ : ∀ a' H' b', a'.get 7 = some (.slice (some (b', 0)) 16 (.unk 1)) → H.next ≤ H'.next → H'.t.get b' = some (.cells (bs (cntP N n)) 5 true false) → (∀ j, j < H.next → j ≠ b → H'.t.get j = H.t.get j) → Q .normal a' H') :
    W E pnMain a H Q := by
  refine W.block ?_
  refine W.count 4 (fun i a' H' => H.next ≤ H'.next ∧ (∃ b', a'.get 7 = some (.slice (some (b', 0)) (12 + i) (.unk 1)) ∧ (b' = b ∨ H.next ≤ b') ∧ b' < H'.next ∧ H'.t.get b' = some (.cells (bs (pnK N n i)) 5 true false)) ∧ (∀ j, j < H.next → j ≠ b → H'.t.get j = H.t.get j) ∧ a'.get 2 = a.get 2 ∧ a'.get 8 = some (dn i)) ?_ ?_ 0 _ H (by omega) ?_
  · intro i a1 H1 hi ⟨hn, ⟨b1, g7, hb1, hb1n, hbb⟩, hk, g2, g8⟩
    rw [h2] at g2
    have d1 : dn i = nn (3 - i) := by match i, hi with | 0, _ => rfl | 1, _ => rfl | 2, _ => rfl | 3, _ => rfl
    have d2 : ibin .sub (dn i) (nn 1) = some (dn (i + 1)) := by match i, hi with | 0, _ => rfl | 1, _ => rfl | 2, _ => rfl | 3, _ => rfl
    refine W.seq (W.seq (W.region ?_))
    simp only [w_mov, w_ibin, w_load1, w_loadN, w_nilCheck, w_indexArr, w_indexSl, w_indexVal, w_indexStr, w_lenStr, w_lenSl, w_store, w_alloc, w_box, w_build, w_sliceArr, w_bytesToStr, w_pick, WOps_nil, thenQ_normal, eX_t, eX_c, put_s, put_n, getset, Nat.reduceEqDiff, if_false, if_true, Option.getD_some, rd, natOf_nn, natOf_by, Option.some.injEq, exists_eq_left', Prod.mk.injEq, and_assoc, exists_and_left, true_and, Nat.zero_add, Nat.add_zero, Nat.mul_one, ble_t, mul_nn, quo_nn, rem_nn, add_nn, sub_nn, lss_nn, eql_nn, neq_nn, xor_by, k0, k1, k2, k3, k4, k5, k6, k7, k8, k12, k13, k14, k15, k16, k32, k60, k254, k256, g8, d1, geq_nn]
    refine W.cond (b := true) (by simp only [eX_t, eX_c, put_s, put_n, getset, Nat.reduceEqDiff, if_false, if_true, Option.getD_some]; simp) (W.skip ?_)
    rw [thenQ_normal]
    refine W.seq (W.block (W.region ?_))
    simp (disch := omega) only [w_mov, w_ibin, w_load1, w_loadN, w_nilCheck, w_indexArr, w_indexSl, w_indexVal, w_indexStr, w_lenStr, w_lenSl, w_store, w_alloc, w_box, w_build, w_sliceArr, w_bytesToStr, w_pick, WOps_nil, thenQ_normal, eX_t, eX_c, put_s, put_n, getset, Nat.reduceEqDiff, if_false, if_true, Option.getD_some, rd, natOf_nn, natOf_by, Option.some.injEq, exists_eq_left', Prod.mk.injEq, and_assoc, exists_and_left, true_and, Nat.zero_add, Nat.add_zero, Nat.mul_one, ble_t, mul_nn, quo_nn, rem_nn, add_nn, sub_nn, lss_nn, eql_nn, neq_nn, xor_by, k0, k1, k2, k3, k4, k5, k6, k7, k8, k12, k13, k14, k15, k16, k32, k60, k254, k256, g2, g7, g8, d1, shr_uu]
    rw [w_convI]
    refine ⟨_, conv_nu (n := n / 2 ^ (8 * (3 - i))) (by simp only [eX_t, eX_c, put_s, put_n, getset, Nat.reduceEqDiff, if_false, if_true, Option.getD_some]), ?_⟩
    simp only [put_s]
    refine w_build1 (b := UInt8.ofNat (n / 2 ^ (8 * (3 - i)))) (by simp only [eX_t, eX_c, put_s, put_n, getset, Nat.reduceEqDiff, if_false, if_true, Option.getD_some]) ?_
    have hp := get_push H1 (.cells (bs [UInt8.ofNat (n / 2 ^ (8 * (3 - i)))]) 5 false false)
    have hpn := next_push H1 (.cells (bs [UInt8.ofNat (n / 2 ^ (8 * (3 - i)))]) 5 false false)
    generalize H1.push (.cells (bs [UInt8.ofNat (n / 2 ^ (8 * (3 - i)))]) 5 false false) = H2 at hp hpn ⊢
    obtain ⟨T2, n2⟩ := H2
    simp only at hp hpn
    obtain ⟨T3, ha, hn3, hk3⟩ := app1 (nx := n2) (b := b1) (L := 12 + i) (y := H1.next) (T0 := T2) (cap := .known 1) (x := UInt8.ofNat (n / 2 ^ (8 * (3 - i)))) (e := 5) (op := false) (ro := false) (O := pnK N n i) (by rw [length_pnK, hN]) (fun h => by rw [hp, if_neg (by omega)]; exact hbb) (by rw [hp, if_pos rfl]) (by omega)
    have eo : outS (12 + i) b1 = .slice (some (b1, 0)) (12 + i) (.unk 1) := by unfold outS; rw [if_neg (by omega)]
    rw [eo] at ha
    simp only [put_s]
    rw [w_append]
    refine ⟨_, _, by simp only [wr0, wr, eX_t, eX_c, put_s, put_n, getset, Nat.reduceEqDiff, if_false, if_true, Option.getD_some]; exact ha, ?_⟩
    simp only [w_mov, w_ibin, w_load1, w_loadN, w_nilCheck, w_indexArr, w_indexSl, w_indexVal, w_indexStr, w_lenStr, w_lenSl, w_store, w_alloc, w_box, w_build, w_sliceArr, w_bytesToStr, w_pick, WOps_nil, thenQ_normal, eX_t, eX_c, put_s, put_n, getset, Nat.reduceEqDiff, if_false, if_true, Option.getD_some, blockQ_normal, thenQ_normal]
    refine W.region ?_
    rw [← d1]
    simp only [w_mov, w_ibin, w_load1, w_loadN, w_nilCheck, w_indexArr, w_indexSl, w_indexVal, w_indexStr, w_lenStr, w_lenSl, w_store, w_alloc, w_box, w_build, w_sliceArr, w_bytesToStr, w_pick, WOps_nil, thenQ_normal, eX_t, eX_c, put_s, put_n, getset, Nat.reduceEqDiff, if_false, if_true, Option.getD_some, rd, natOf_nn, natOf_by, Option.some.injEq, exists_eq_left', Prod.mk.injEq, and_assoc, exists_and_left, true_and, Nat.zero_add, Nat.add_zero, Nat.mul_one, ble_t, mul_nn, quo_nn, rem_nn, add_nn, sub_nn, lss_nn, eql_nn, neq_nn, xor_by, k0, k1, k2, k3, k4, k5, k6, k7, k8, k12, k13, k14, k15, k16, k32, k60, k254, k256, g8, d2]
    refine ⟨by omega, ⟨n2, rfl, by omega, by omega, by rw [pnK]; exact hn3⟩, ?_, by rw [h2]; exact g2, trivial⟩
    intro j hj hjb
    rw [hk3 j (by omega) (by omega), hp, if_neg (by omega), hk j hj hjb]
  · intro a1 H1 ⟨hn, ⟨b1, g7, hb1, hb1n, hbb⟩, hk, g2, g8⟩
    refine W.seq (W.seq (W.region ?_))
    have d3 : ibin .geq (dn 4) (nn 0) = some (.bool false) := rfl
    simp only [w_mov, w_ibin, w_load1, w_loadN, w_nilCheck, w_indexArr, w_indexSl, w_indexVal, w_indexStr, w_lenStr, w_lenSl, w_store, w_alloc, w_box, w_build, w_sliceArr, w_bytesToStr, w_pick, WOps_nil, thenQ_normal, eX_t, eX_c, put_s, put_n, getset, Nat.reduceEqDiff, if_false, if_true, Option.getD_some, rd, natOf_nn, natOf_by, Option.some.injEq, exists_eq_left', Prod.mk.injEq, and_assoc, exists_and_left, true_and, Nat.zero_add, Nat.add_zero, Nat.mul_one, ble_t, mul_nn, quo_nn, rem_nn, add_nn, sub_nn, lss_nn, eql_nn, neq_nn, xor_by, k0, k1, k2, k3, k4, k5, k6, k7, k8, k12, k13, k14, k15, k16, k32, k60, k254, k256, g8, d3]
    refine W.cond (b := false) (by simp only [eX_t, eX_c, put_s, put_n, getset, Nat.reduceEqDiff, if_false, if_true, Option.getD_some]) (W.exit ?_)
    refine ⟨nofun, ?_⟩
    simp only [blockQ_exit, Nat.beq_refl, cond_true]
    rw [pnK_4] at hbb
    exact hQ _ _ b1 (by simp only [getset, Nat.reduceEqDiff, if_false]; exact g7) hn hbb hk
  · exact ⟨Nat.le_refl _, ⟨b, h7, .inl rfl, hbn, hb⟩, fun _ _ _ => rfl, rfl, h8⟩

theorem put_ok (hE : ∀ f, E.funcs f = Aes.funcsT.get f) (hx : ∀ f args H, special f = false → E.sums f args H = none) {H : Heap} {N : List UInt8} {n : Nat} (hN : N.length = 12) {Q : AV → Heap → Prop}
    (hQ : ∀ H', H.next ≤ H'.next → (∀ j, j < H.next → H'.t.get j = H.t.get j) → Q (.str (cntP N n)) H') : WCall E 16 [.str N, nn 4, nu n] H Q := by
  refine WCall.func (hx 16 _ _ (by decide)) ((hE 16).trans rfl) ?_
  have f0 : (frameOf [.str N, nn 4, nu n] 0 .nil).get 0 = some (.str N) := rfl
  have f1 : (frameOf [.str N, nn 4, nu n] 0 .nil).get 1 = some (nn 4) := rfl
  have f2 : (frameOf [.str N, nn 4, nu n] 0 .nil).get 2 = some (nu n) := rfl
  generalize frameOf [.str N, nn 4, nu n] 0 .nil = a at f0 f1 f2
  refine W.seq (W.region ?_)
  simp only [w_mov, w_ibin, w_load1, w_loadN, w_nilCheck, w_indexArr, w_indexSl, w_indexVal, w_indexStr, w_lenStr, w_lenSl, w_store, w_alloc, w_box, w_build, w_sliceArr, w_bytesToStr, w_pick, WOps_nil, thenQ_normal, eX_t, eX_c, put_s, put_n, getset, Nat.reduceEqDiff, if_false, if_true, Option.getD_some, rd, natOf_nn, natOf_by, Option.some.injEq, exists_eq_left', Prod.mk.injEq, and_assoc, exists_and_left, true_and, Nat.zero_add, Nat.add_zero, Nat.mul_one, ble_t, mul_nn, quo_nn, rem_nn, add_nn, sub_nn, lss_nn, eql_nn, neq_nn, xor_by, k0, k1, k2, k3, k4, k5, k6, k7, k8, k12, k13, k14, k15, k16, k32, k60, k254, k256]
  refine W.seq (W.region ?_)
  simp only [w_mov, w_ibin, w_load1, w_loadN, w_nilCheck, w_indexArr, w_indexSl, w_indexVal, w_indexStr, w_lenStr, w_lenSl, w_store, w_alloc, w_box, w_build, w_sliceArr, w_bytesToStr, w_pick, WOps_nil, thenQ_normal, eX_t, eX_c, put_s, put_n, getset, Nat.reduceEqDiff, if_false, if_true, Option.getD_some, rd, natOf_nn, natOf_by, Option.some.injEq, exists_eq_left', Prod.mk.injEq, and_assoc, exists_and_left, true_and, Nat.zero_add, Nat.add_zero, Nat.mul_one, ble_t, mul_nn, quo_nn, rem_nn, add_nn, sub_nn, lss_nn, eql_nn, neq_nn, xor_by, k0, k1, k2, k3, k4, k5, k6, k7, k8, k12, k13, k14, k15, k16, k32, k60, k254, k256, f0]
  refine w_strToBytes (S := N) (by simp only [eX_t, eX_c, put_s, put_n, getset, Nat.reduceEqDiff, if_false, if_true, Option.getD_some]) ?_
  have hp := get_push H (.cells (bs N) 5 true false)
  have hpn := next_push H (.cells (bs N) 5 true false)
  generalize H.push (.cells (bs N) 5 true false) = H2 at hp hpn ⊢
  simp only [w_mov, w_ibin, w_load1, w_loadN, w_nilCheck, w_indexArr, w_indexSl, w_indexVal, w_indexStr, w_lenStr, w_lenSl, w_store, w_alloc, w_box, w_build, w_sliceArr, w_bytesToStr, w_pick, WOps_nil, thenQ_normal, eX_t, eX_c, put_s, put_n, getset, Nat.reduceEqDiff, if_false, if_true, Option.getD_some, rd, natOf_nn, natOf_by, Option.some.injEq, exists_eq_left', Prod.mk.injEq, and_assoc, exists_and_left, true_and, Nat.zero_add, Nat.add_zero, Nat.mul_one, ble_t, mul_nn, quo_nn, rem_nn, add_nn, sub_nn, lss_nn, eql_nn, neq_nn, xor_by, k0, k1, k2, k3, k4, k5, k6, k7, k8, k12, k13, k14, k15, k16, k32, k60, k254, k256]
  refine W.seq (W.seq (W.region ?_))
  simp only [w_mov, eX_t, eX_c, put_s, put_n, getset, Nat.reduceEqDiff, if_false, if_true, Option.getD_some, f1]
  rw [w_maxI]
  refine ⟨nn 4, by simp only [rd, List.map_cons, List.map_nil, eX_t, eX_c, put_s, put_n, getset, Nat.reduceEqDiff, if_false, if_true, Option.getD_some]; rfl, ?_⟩
  rw [w_minI]
  refine ⟨nn 4, by simp only [rd, List.map_cons, List.map_nil, eX_t, eX_c, put_s, put_n, getset, Nat.reduceEqDiff, if_false, if_true, Option.getD_some]; rfl, ?_⟩
  have d : ibin .sub (nn 4) (nn 1) = some (nn 3) := rfl
  simp only [w_mov, w_ibin, w_load1, w_loadN, w_nilCheck, w_indexArr, w_indexSl, w_indexVal, w_indexStr, w_lenStr, w_lenSl, w_store, w_alloc, w_box, w_build, w_sliceArr, w_bytesToStr, w_pick, WOps_nil, thenQ_normal, eX_t, eX_c, put_s, put_n, getset, Nat.reduceEqDiff, if_false, if_true, Option.getD_some, rd, natOf_nn, natOf_by, Option.some.injEq, exists_eq_left', Prod.mk.injEq, and_assoc, exists_and_left, true_and, Nat.zero_add, Nat.add_zero, Nat.mul_one, ble_t, mul_nn, quo_nn, rem_nn, add_nn, sub_nn, lss_nn, eql_nn, neq_nn, xor_by, k0, k1, k2, k3, k4, k5, k6, k7, k8, k12, k13, k14, k15, k16, k32, k60, k254, k256, d]
  refine pn_main (N := N) (n := n) (b := H.next) (by simp only [eX_t, eX_c, put_s, put_n, getset, Nat.reduceEqDiff, if_false, if_true, Option.getD_some]; exact f2) (by simp only [eX_t, eX_c, put_s, put_n, getset, Nat.reduceEqDiff, if_false, if_true, Option.getD_some, hN]) (by simp only [eX_t, eX_c, put_s, put_n, getset, Nat.reduceEqDiff, if_false, if_true, Option.getD_some]) (by omega) hN (by rw [hp, if_pos rfl]) ?_
  intro a3 H3 b3 q7 hn3 hb3 hk3
  obtain ⟨T3, n3⟩ := H3
  simp only at hn3 hb3 hk3
  simp only [thenQ_normal]
  refine W.seq (W.region ?_)
  simp only [w_mov, eX_t, eX_c, put_s, put_n, getset, Nat.reduceEqDiff, if_false, if_true, Option.getD_some, q7]
  rw [w_bytesToStr]
  refine ⟨_, toStr (b := b3) (L := 16) (cap := .unk 1) (S := cntP N n) (by simp only [eX_t, eX_c, put_s, put_n, getset, Nat.reduceEqDiff, if_false, if_true, Option.getD_some]) (length_cntP hN n) hb3, ?_⟩
  simp only [w_mov, w_ibin, w_load1, w_loadN, w_nilCheck, w_indexArr, w_indexSl, w_indexVal, w_indexStr, w_lenStr, w_lenSl, w_store, w_alloc, w_box, w_build, w_sliceArr, w_bytesToStr, w_pick, WOps_nil, thenQ_normal, eX_t, eX_c, put_s, put_n, getset, Nat.reduceEqDiff, if_false, if_true, Option.getD_some, rd, natOf_nn, natOf_by, Option.some.injEq, exists_eq_left', Prod.mk.injEq, and_assoc, exists_and_left, true_and, Nat.zero_add, Nat.add_zero, Nat.mul_one, ble_t, mul_nn, quo_nn, rem_nn, add_nn, sub_nn, lss_nn, eql_nn, neq_nn, xor_by, k0, k1, k2, k3, k4, k5, k6, k7, k8, k12, k13, k14, k15, k16, k32, k60, k254, k256]
  refine W.ret ⟨.inr rfl, ?_⟩
  simp only [resultsOf, resOf, eX_t, eX_c, put_s, put_n, getset, Nat.reduceEqDiff, if_false, if_true, Option.getD_some, Option.some.injEq, exists_eq_left', oneOf]
  refine hQ ⟨T3, n3⟩ (by show H.next ≤ n3; omega) fun j hj => ?_
  show T3.get j = _
  rw [hk3 _ (by omega) (by omega), hp, if_neg (by omega)]
end Go.AE
end
