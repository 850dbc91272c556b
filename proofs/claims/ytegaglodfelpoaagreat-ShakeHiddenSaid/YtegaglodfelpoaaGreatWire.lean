/- Contracts of terms and bytes: a table's length, a text's beginning, a reader, the number of a term's text. -/
import Derived.Test.YtegaglodfelpoaaGreatTools
import Derived.Test.YtegaglodfelpoaaGreatTextB
import Derived.Test.YtegaglodfelpoaaGreatMachineD
set_option linter.unusedVariables false
set_option linter.unusedSimpArgs false
section
set_option linter.unusedVariables false
set_option linter.unusedSimpArgs false
set_option maxRecDepth 100000
set_option maxHeartbeats 1000000
noncomputable section
namespace Go.AE
variable {E : Env}

theorem w_un {all os : List AOper} {dst : Option Nat} {o : UnOp} {x : AX} {a : Frm} {H : Heap} {Q : Frm → Heap → Prop} :
    WOps E all (⟨dst, .un o x, none⟩ :: os) a H Q ↔ ∃ v, unop o (evalX a x) = some v ∧ WOps E all os (put a dst v) H Q := WOps_rd rfl
theorem w_field {all os : List AOper} {dst : Option Nat} {n : Nat} {x : AX} {a : Frm} {H : Heap} {Q : Frm → Heap → Prop} :
    WOps E all (⟨dst, .fieldAddr n x, none⟩ :: os) a H Q ↔ ∃ v, rd (.fieldAddr n x) a H = some v ∧ WOps E all os (put a dst v) H Q := WOps_rd rfl
theorem w_mkFunc {all os : List AOper} {dst : Option Nat} {f : Fn} {x y : List AX} {a : Frm} {H : Heap} {Q : Frm → Heap → Prop} :
    WOps E all (⟨dst, .mkFunc f x y, none⟩ :: os) a H Q ↔ ∃ v, rd (.mkFunc f x y) a H = some v ∧ WOps E all os (put a dst v) H Q := WOps_rd rfl
theorem getS {S : List UInt8} {i : Nat} (h : i < S.length) : S[i]? = some (S.getD i 0) := by rw [List.getD_eq_getElem?_getD, List.getElem?_eq_getElem h, Option.getD_some]

/-- the functions that are run, not told -/
def plainF (f : Nat) : Bool := Nat.beq f 48 || Nat.beq f 65 || Nat.beq f 76 || Nat.beq f 26 || Nat.beq f 27 || Nat.beq f 59 || Nat.beq f 66 || Nat.beq f 43 || Nat.beq f 23

theorem none_ok (hE : ∀ f, E.funcs f = Shk.funcsT.get f) (hx : ∀ f args H, plainF f = true → E.sums f args H = none) {H : Heap} {b o m : Nat} (hm : H.load b (o + 1) = some (.map (some m))) {Q : AV → Heap → Prop} (hQ : Q (.bool false) H) :
    WCall E 43 [.ptr (some (b, o))] H Q := by
  refine WCall.func (hx 43 _ _ rfl) ((hE 43).trans rfl) ?_
  have f0 : (frameOf [.ptr (some (b, o))] 0 .nil).get 0 = some (.ptr (some (b, o))) := rfl
  generalize frameOf [.ptr (some (b, o))] 0 .nil = a at f0
  refine W.seq (W.region ?_)
  simp only [w_mov, w_ibin, w_load1, w_loadN, w_nilCheck, w_indexArr, w_indexSl, w_indexVal, w_indexStr, w_lenStr, w_lenSl, w_store, w_alloc, w_box, w_build, w_sliceArr, w_bytesToStr, w_pick, WOps_nil, thenQ_normal, eX_t, eX_c, put_s, put_n, getset, Nat.reduceEqDiff, if_false, if_true, Option.getD_some, rd, natOf_nn, natOf_by, Option.some.injEq, exists_eq_left', Prod.mk.injEq, and_assoc, exists_and_left, true_and, Nat.zero_add, Nat.add_zero, Nat.mul_one, ble_t, mul_nn, quo_nn, rem_nn, add_nn, sub_nn, lss_nn, eql_nn, neq_nn, xor_by, k0, k1, k2, k3, k4, k5, k6, k7, k8, k12, k13, k14, k15, k16, k32, k60, k254, k256]
  refine W.seq (W.region ?_)
  simp only [w_mov, w_ibin, w_load1, w_loadN, w_nilCheck, w_indexArr, w_indexSl, w_indexVal, w_indexStr, w_lenStr, w_lenSl, w_store, w_alloc, w_box, w_build, w_sliceArr, w_bytesToStr, w_pick, WOps_nil, thenQ_normal, eX_t, eX_c, put_s, put_n, getset, Nat.reduceEqDiff, if_false, if_true, Option.getD_some, rd, natOf_nn, natOf_by, Option.some.injEq, exists_eq_left', Prod.mk.injEq, and_assoc, exists_and_left, true_and, Nat.zero_add, Nat.add_zero, Nat.mul_one, ble_t, mul_nn, quo_nn, rem_nn, add_nn, sub_nn, lss_nn, eql_nn, neq_nn, xor_by, k0, k1, k2, k3, k4, k5, k6, k7, k8, k12, k13, k14, k15, k16, k32, k60, k254, k256, f0, w_eqv, eqv, cond_false]
  refine WOps_want ((wantedA_some (d := 5) (b := false) rfl (by simp only [eX_t, eX_c, put_s, put_n, getset, Nat.reduceEqDiff, if_false, if_true, Option.getD_some])).trans rfl) ?_
  simp only [w_mov, w_ibin, w_load1, w_loadN, w_nilCheck, w_indexArr, w_indexSl, w_indexVal, w_indexStr, w_lenStr, w_lenSl, w_store, w_alloc, w_box, w_build, w_sliceArr, w_bytesToStr, w_pick, WOps_nil, thenQ_normal, eX_t, eX_c, put_s, put_n, getset, Nat.reduceEqDiff, if_false, if_true, Option.getD_some, rd, natOf_nn, natOf_by, Option.some.injEq, exists_eq_left', Prod.mk.injEq, and_assoc, exists_and_left, true_and, Nat.zero_add, Nat.add_zero, Nat.mul_one, ble_t, mul_nn, quo_nn, rem_nn, add_nn, sub_nn, lss_nn, eql_nn, neq_nn, xor_by, k0, k1, k2, k3, k4, k5, k6, k7, k8, k12, k13, k14, k15, k16, k32, k60, k254, k256, f0]
  refine WOps_want ((wantedA_some (d := 5) (b := false) rfl (by simp only [eX_t, eX_c, put_s, put_n, getset, Nat.reduceEqDiff, if_false, if_true, Option.getD_some])).trans rfl) ?_
  simp only [w_mov, w_ibin, w_load1, w_loadN, w_nilCheck, w_indexArr, w_indexSl, w_indexVal, w_indexStr, w_lenStr, w_lenSl, w_store, w_alloc, w_box, w_build, w_sliceArr, w_bytesToStr, w_pick, WOps_nil, thenQ_normal, eX_t, eX_c, put_s, put_n, getset, Nat.reduceEqDiff, if_false, if_true, Option.getD_some, rd, natOf_nn, natOf_by, Option.some.injEq, exists_eq_left', Prod.mk.injEq, and_assoc, exists_and_left, true_and, Nat.zero_add, Nat.add_zero, Nat.mul_one, ble_t, mul_nn, quo_nn, rem_nn, add_nn, sub_nn, lss_nn, eql_nn, neq_nn, xor_by, k0, k1, k2, k3, k4, k5, k6, k7, k8, k12, k13, k14, k15, k16, k32, k60, k254, k256]
  refine WOps_want ((wantedA_some (d := 5) (b := false) rfl (by simp only [eX_t, eX_c, put_s, put_n, getset, Nat.reduceEqDiff, if_false, if_true, Option.getD_some])).trans rfl) ?_
  simp only [w_mov, w_ibin, w_load1, w_loadN, w_nilCheck, w_indexArr, w_indexSl, w_indexVal, w_indexStr, w_lenStr, w_lenSl, w_store, w_alloc, w_box, w_build, w_sliceArr, w_bytesToStr, w_pick, WOps_nil, thenQ_normal, eX_t, eX_c, put_s, put_n, getset, Nat.reduceEqDiff, if_false, if_true, Option.getD_some, rd, natOf_nn, natOf_by, Option.some.injEq, exists_eq_left', Prod.mk.injEq, and_assoc, exists_and_left, true_and, Nat.zero_add, Nat.add_zero, Nat.mul_one, ble_t, mul_nn, quo_nn, rem_nn, add_nn, sub_nn, lss_nn, eql_nn, neq_nn, xor_by, k0, k1, k2, k3, k4, k5, k6, k7, k8, k12, k13, k14, k15, k16, k32, k60, k254, k256, w_field]
  refine WOps_want ((wantedA_some (d := 5) (b := false) rfl (by simp only [eX_t, eX_c, put_s, put_n, getset, Nat.reduceEqDiff, if_false, if_true, Option.getD_some])).trans rfl) ?_
  simp only [w_mov, w_ibin, w_load1, w_loadN, w_nilCheck, w_indexArr, w_indexSl, w_indexVal, w_indexStr, w_lenStr, w_lenSl, w_store, w_alloc, w_box, w_build, w_sliceArr, w_bytesToStr, w_pick, WOps_nil, thenQ_normal, eX_t, eX_c, put_s, put_n, getset, Nat.reduceEqDiff, if_false, if_true, Option.getD_some, rd, natOf_nn, natOf_by, Option.some.injEq, exists_eq_left', Prod.mk.injEq, and_assoc, exists_and_left, true_and, Nat.zero_add, Nat.add_zero, Nat.mul_one, ble_t, mul_nn, quo_nn, rem_nn, add_nn, sub_nn, lss_nn, eql_nn, neq_nn, xor_by, k0, k1, k2, k3, k4, k5, k6, k7, k8, k12, k13, k14, k15, k16, k32, k60, k254, k256, hm]
  refine WOps_want ((wantedA_some (d := 5) (b := false) rfl (by simp only [eX_t, eX_c, put_s, put_n, getset, Nat.reduceEqDiff, if_false, if_true, Option.getD_some])).trans rfl) ?_
  simp only [w_mov, w_ibin, w_load1, w_loadN, w_nilCheck, w_indexArr, w_indexSl, w_indexVal, w_indexStr, w_lenStr, w_lenSl, w_store, w_alloc, w_box, w_build, w_sliceArr, w_bytesToStr, w_pick, WOps_nil, thenQ_normal, eX_t, eX_c, put_s, put_n, getset, Nat.reduceEqDiff, if_false, if_true, Option.getD_some, rd, natOf_nn, natOf_by, Option.some.injEq, exists_eq_left', Prod.mk.injEq, and_assoc, exists_and_left, true_and, Nat.zero_add, Nat.add_zero, Nat.mul_one, ble_t, mul_nn, quo_nn, rem_nn, add_nn, sub_nn, lss_nn, eql_nn, neq_nn, xor_by, k0, k1, k2, k3, k4, k5, k6, k7, k8, k12, k13, k14, k15, k16, k32, k60, k254, k256, w_eqv, eqv, cond_false]
  refine W.ret ⟨.inr rfl, ?_⟩
  simp only [resultsOf, resOf, eX_t, eX_c, put_s, put_n, getset, Nat.reduceEqDiff, if_false, if_true, Option.getD_some, Option.some.injEq, exists_eq_left', oneOf]
  exact hQ

theorem len_ok (hE : ∀ f, E.funcs f = Shk.funcsT.get f) (hx : ∀ f args H, plainF f = true → E.sums f args H = none) {H : Heap} {b o m n : Nat} {base : Option (Nat × Nat)} {cap : ACap} (hl : H.load b o = some (.slice base n cap)) (hm : H.load b (o + 1) = some (.map (some m))) {Q : AV → Heap → Prop} (hQ : Q (nn n) H) :
    WCall E 66 [.ptr (some (b, o))] H Q := by
  refine WCall.func (hx 66 _ _ rfl) ((hE 66).trans rfl) ?_
  have f0 : (frameOf [.ptr (some (b, o))] 0 .nil).get 0 = some (.ptr (some (b, o))) := rfl
  generalize frameOf [.ptr (some (b, o))] 0 .nil = a at f0
  have e32 : ∀ n : Nat, AV.int .i64 (.ofNat n) = nn n := fun _ => rfl
  refine W.seq (W.region ?_)
  simp only [w_mov, w_ibin, w_load1, w_loadN, w_nilCheck, w_indexArr, w_indexSl, w_indexVal, w_indexStr, w_lenStr, w_lenSl, w_store, w_alloc, w_box, w_build, w_sliceArr, w_bytesToStr, w_pick, WOps_nil, thenQ_normal, eX_t, eX_c, put_s, put_n, getset, Nat.reduceEqDiff, if_false, if_true, Option.getD_some, rd, natOf_nn, natOf_by, Option.some.injEq, exists_eq_left', Prod.mk.injEq, and_assoc, exists_and_left, true_and, Nat.zero_add, Nat.add_zero, Nat.mul_one, ble_t, mul_nn, quo_nn, rem_nn, add_nn, sub_nn, lss_nn, eql_nn, neq_nn, xor_by, k0, k1, k2, k3, k4, k5, k6, k7, k8, k12, k13, k14, k15, k16, k32, k60, k254, k256]
  refine W.seq (W.seq (W.region ?_))
  simp only [w_mov, w_ibin, w_load1, w_loadN, w_nilCheck, w_indexArr, w_indexSl, w_indexVal, w_indexStr, w_lenStr, w_lenSl, w_store, w_alloc, w_box, w_build, w_sliceArr, w_bytesToStr, w_pick, WOps_nil, thenQ_normal, eX_t, eX_c, put_s, put_n, getset, Nat.reduceEqDiff, if_false, if_true, Option.getD_some, rd, natOf_nn, natOf_by, Option.some.injEq, exists_eq_left', Prod.mk.injEq, and_assoc, exists_and_left, true_and, Nat.zero_add, Nat.add_zero, Nat.mul_one, ble_t, mul_nn, quo_nn, rem_nn, add_nn, sub_nn, lss_nn, eql_nn, neq_nn, xor_by, k0, k1, k2, k3, k4, k5, k6, k7, k8, k12, k13, k14, k15, k16, k32, k60, k254, k256, f0]
  refine WOps.call (g := 43) (first := []) (captured := []) rfl ?_
  simp only [List.map_nil, List.map_cons, List.nil_append, List.append_nil, eX_t, eX_c, put_s, put_n, getset, Nat.reduceEqDiff, if_false, if_true, Option.getD_some]
  refine none_ok hE hx hm ?_
  simp only [w_mov, w_ibin, w_load1, w_loadN, w_nilCheck, w_indexArr, w_indexSl, w_indexVal, w_indexStr, w_lenStr, w_lenSl, w_store, w_alloc, w_box, w_build, w_sliceArr, w_bytesToStr, w_pick, WOps_nil, thenQ_normal, eX_t, eX_c, put_s, put_n, getset, Nat.reduceEqDiff, if_false, if_true, Option.getD_some, rd, natOf_nn, natOf_by, Option.some.injEq, exists_eq_left', Prod.mk.injEq, and_assoc, exists_and_left, true_and, Nat.zero_add, Nat.add_zero, Nat.mul_one, ble_t, mul_nn, quo_nn, rem_nn, add_nn, sub_nn, lss_nn, eql_nn, neq_nn, xor_by, k0, k1, k2, k3, k4, k5, k6, k7, k8, k12, k13, k14, k15, k16, k32, k60, k254, k256]
  refine W.cond (b := false) (by simp only [eX_t, eX_c, put_s, put_n, getset, Nat.reduceEqDiff, if_false, if_true, Option.getD_some]) (W.skip ?_)
  rw [thenQ_normal]
  refine W.seq (W.region ?_)
  simp only [w_mov, w_ibin, w_load1, w_loadN, w_nilCheck, w_indexArr, w_indexSl, w_indexVal, w_indexStr, w_lenStr, w_lenSl, w_store, w_alloc, w_box, w_build, w_sliceArr, w_bytesToStr, w_pick, WOps_nil, thenQ_normal, eX_t, eX_c, put_s, put_n, getset, Nat.reduceEqDiff, if_false, if_true, Option.getD_some, rd, natOf_nn, natOf_by, Option.some.injEq, exists_eq_left', Prod.mk.injEq, and_assoc, exists_and_left, true_and, Nat.zero_add, Nat.add_zero, Nat.mul_one, ble_t, mul_nn, quo_nn, rem_nn, add_nn, sub_nn, lss_nn, eql_nn, neq_nn, xor_by, k0, k1, k2, k3, k4, k5, k6, k7, k8, k12, k13, k14, k15, k16, k32, k60, k254, k256, f0, w_field, hl, e32]
  refine W.ret ⟨.inr rfl, ?_⟩
  simp only [resultsOf, resOf, eX_t, eX_c, put_s, put_n, getset, Nat.reduceEqDiff, if_false, if_true, Option.getD_some, Option.some.injEq, exists_eq_left', oneOf]
  exact hQ

theorem prefix_ok (hE : ∀ f, E.funcs f = Shk.funcsT.get f) (hx : ∀ f args H, plainF f = true → E.sums f args H = none) {H : Heap} {s p : List UInt8} (hl : p.length ≤ s.length) {Q : AV → Heap → Prop} (hQ : Q (.bool (s.take p.length == p)) H) :
    WCall E 65 [.str s, .str p] H Q := by
  refine WCall.func (hx 65 _ _ rfl) ((hE 65).trans rfl) ?_
  have f0 : (frameOf [.str s, .str p] 0 .nil).get 0 = some (.str s) := rfl
  have f1 : (frameOf [.str s, .str p] 0 .nil).get 1 = some (.str p) := rfl
  generalize frameOf [.str s, .str p] 0 .nil = a at f0 f1
  have e32 : ∀ n : Nat, AV.int .i64 (.ofNat n) = nn n := fun _ => rfl
  refine W.seq (W.region ?_)
  simp only [w_mov, w_ibin, w_load1, w_loadN, w_nilCheck, w_indexArr, w_indexSl, w_indexVal, w_indexStr, w_lenStr, w_lenSl, w_store, w_alloc, w_box, w_build, w_sliceArr, w_bytesToStr, w_pick, WOps_nil, thenQ_normal, eX_t, eX_c, put_s, put_n, getset, Nat.reduceEqDiff, if_false, if_true, Option.getD_some, rd, natOf_nn, natOf_by, Option.some.injEq, exists_eq_left', Prod.mk.injEq, and_assoc, exists_and_left, true_and, Nat.zero_add, Nat.add_zero, Nat.mul_one, ble_t, mul_nn, quo_nn, rem_nn, add_nn, sub_nn, lss_nn, eql_nn, neq_nn, xor_by, k0, k1, k2, k3, k4, k5, k6, k7, k8, k12, k13, k14, k15, k16, k32, k60, k254, k256]
  refine W.seq (W.region ?_)
  simp only [w_mov, w_ibin, w_load1, w_loadN, w_nilCheck, w_indexArr, w_indexSl, w_indexVal, w_indexStr, w_lenStr, w_lenSl, w_store, w_alloc, w_box, w_build, w_sliceArr, w_bytesToStr, w_pick, WOps_nil, thenQ_normal, eX_t, eX_c, put_s, put_n, getset, Nat.reduceEqDiff, if_false, if_true, Option.getD_some, rd, natOf_nn, natOf_by, Option.some.injEq, exists_eq_left', Prod.mk.injEq, and_assoc, exists_and_left, true_and, Nat.zero_add, Nat.add_zero, Nat.mul_one, ble_t, mul_nn, quo_nn, rem_nn, add_nn, sub_nn, lss_nn, eql_nn, neq_nn, xor_by, k0, k1, k2, k3, k4, k5, k6, k7, k8, k12, k13, k14, k15, k16, k32, k60, k254, k256, f0, f1]
  refine WOps.call (g := 76) (first := []) (captured := []) rfl ?_
  simp only [List.map_nil, List.map_cons, List.nil_append, List.append_nil, eX_t, eX_c, put_s, put_n, getset, Nat.reduceEqDiff, if_false, if_true, Option.getD_some]
  refine WCall.func (hx 76 _ _ rfl) ((hE 76).trans rfl) ?_
  have g0 : (frameOf [.str s, .str p] 0 .nil).get 0 = some (.str s) := rfl
  have g1 : (frameOf [.str s, .str p] 0 .nil).get 1 = some (.str p) := rfl
  generalize frameOf [.str s, .str p] 0 .nil = c at g0 g1
  refine W.seq (W.region ?_)
  simp only [w_mov, w_ibin, w_load1, w_loadN, w_nilCheck, w_indexArr, w_indexSl, w_indexVal, w_indexStr, w_lenStr, w_lenSl, w_store, w_alloc, w_box, w_build, w_sliceArr, w_bytesToStr, w_pick, WOps_nil, thenQ_normal, eX_t, eX_c, put_s, put_n, getset, Nat.reduceEqDiff, if_false, if_true, Option.getD_some, rd, natOf_nn, natOf_by, Option.some.injEq, exists_eq_left', Prod.mk.injEq, and_assoc, exists_and_left, true_and, Nat.zero_add, Nat.add_zero, Nat.mul_one, ble_t, mul_nn, quo_nn, rem_nn, add_nn, sub_nn, lss_nn, eql_nn, neq_nn, xor_by, k0, k1, k2, k3, k4, k5, k6, k7, k8, k12, k13, k14, k15, k16, k32, k60, k254, k256]
  refine W.seq (W.region ?_)
  have hd : decide (p.length ≤ s.length) = true := by simp [hl]
  simp only [w_mov, w_ibin, w_load1, w_loadN, w_nilCheck, w_indexArr, w_indexSl, w_indexVal, w_indexStr, w_lenStr, w_lenSl, w_store, w_alloc, w_box, w_build, w_sliceArr, w_bytesToStr, w_pick, WOps_nil, thenQ_normal, eX_t, eX_c, put_s, put_n, getset, Nat.reduceEqDiff, if_false, if_true, Option.getD_some, rd, natOf_nn, natOf_by, Option.some.injEq, exists_eq_left', Prod.mk.injEq, and_assoc, exists_and_left, true_and, Nat.zero_add, Nat.add_zero, Nat.mul_one, ble_t, mul_nn, quo_nn, rem_nn, add_nn, sub_nn, lss_nn, eql_nn, neq_nn, xor_by, k0, k1, k2, k3, k4, k5, k6, k7, k8, k12, k13, k14, k15, k16, k32, k60, k254, k256, g0, g1, e32, geq_nn, hd]
  refine WOps_want ((wantedA_some (d := 10) (b := true) rfl (by simp only [eX_t, eX_c, put_s, put_n, getset, Nat.reduceEqDiff, if_false, if_true, Option.getD_some])).trans rfl) ?_
  simp only [w_mov, w_ibin, w_load1, w_loadN, w_nilCheck, w_indexArr, w_indexSl, w_indexVal, w_indexStr, w_lenStr, w_lenSl, w_store, w_alloc, w_box, w_build, w_sliceArr, w_bytesToStr, w_pick, WOps_nil, thenQ_normal, eX_t, eX_c, put_s, put_n, getset, Nat.reduceEqDiff, if_false, if_true, Option.getD_some, rd, natOf_nn, natOf_by, Option.some.injEq, exists_eq_left', Prod.mk.injEq, and_assoc, exists_and_left, true_and, Nat.zero_add, Nat.add_zero, Nat.mul_one, ble_t, mul_nn, quo_nn, rem_nn, add_nn, sub_nn, lss_nn, eql_nn, neq_nn, xor_by, k0, k1, k2, k3, k4, k5, k6, k7, k8, k12, k13, k14, k15, k16, k32, k60, k254, k256, g0]
  refine WOps_want ((wantedA_some (d := 10) (b := true) rfl (by simp only [eX_t, eX_c, put_s, put_n, getset, Nat.reduceEqDiff, if_false, if_true, Option.getD_some])).trans rfl) ?_
  simp only [w_mov, w_ibin, w_load1, w_loadN, w_nilCheck, w_indexArr, w_indexSl, w_indexVal, w_indexStr, w_lenStr, w_lenSl, w_store, w_alloc, w_box, w_build, w_sliceArr, w_bytesToStr, w_pick, WOps_nil, thenQ_normal, eX_t, eX_c, put_s, put_n, getset, Nat.reduceEqDiff, if_false, if_true, Option.getD_some, rd, natOf_nn, natOf_by, Option.some.injEq, exists_eq_left', Prod.mk.injEq, and_assoc, exists_and_left, true_and, Nat.zero_add, Nat.add_zero, Nat.mul_one, ble_t, mul_nn, quo_nn, rem_nn, add_nn, sub_nn, lss_nn, eql_nn, neq_nn, xor_by, k0, k1, k2, k3, k4, k5, k6, k7, k8, k12, k13, k14, k15, k16, k32, k60, k254, k256, g1]
  refine WOps_want ((wantedA_some (d := 10) (b := true) rfl (by simp only [eX_t, eX_c, put_s, put_n, getset, Nat.reduceEqDiff, if_false, if_true, Option.getD_some])).trans rfl) ?_
  simp only [w_mov, w_ibin, w_load1, w_loadN, w_nilCheck, w_indexArr, w_indexSl, w_indexVal, w_indexStr, w_lenStr, w_lenSl, w_store, w_alloc, w_box, w_build, w_sliceArr, w_bytesToStr, w_pick, WOps_nil, thenQ_normal, eX_t, eX_c, put_s, put_n, getset, Nat.reduceEqDiff, if_false, if_true, Option.getD_some, rd, natOf_nn, natOf_by, Option.some.injEq, exists_eq_left', Prod.mk.injEq, and_assoc, exists_and_left, true_and, Nat.zero_add, Nat.add_zero, Nat.mul_one, ble_t, mul_nn, quo_nn, rem_nn, add_nn, sub_nn, lss_nn, eql_nn, neq_nn, xor_by, k0, k1, k2, k3, k4, k5, k6, k7, k8, k12, k13, k14, k15, k16, k32, k60, k254, k256, e32]
  refine WOps_want ((wantedA_some (d := 10) (b := true) rfl (by simp only [eX_t, eX_c, put_s, put_n, getset, Nat.reduceEqDiff, if_false, if_true, Option.getD_some])).trans rfl) ?_
  rw [w_sliceStr]
  refine ⟨.str (s.take p.length), ?_, ?_⟩
  · simp only [rd, eX_t, eX_c, put_s, put_n, getset, Nat.reduceEqDiff, if_false, if_true, Option.getD_some]
    rw [bounds_hi (h := p.length) (by simp only [eX_t, eX_c, put_s, put_n, getset, Nat.reduceEqDiff, if_false, if_true, Option.getD_some]) hl]
    rfl
  simp only [put_s]
  refine WOps_want ((wantedA_some (d := 10) (b := true) rfl (by simp only [eX_t, eX_c, put_s, put_n, getset, Nat.reduceEqDiff, if_false, if_true, Option.getD_some])).trans rfl) ?_
  simp only [w_mov, w_ibin, w_load1, w_loadN, w_nilCheck, w_indexArr, w_indexSl, w_indexVal, w_indexStr, w_lenStr, w_lenSl, w_store, w_alloc, w_box, w_build, w_sliceArr, w_bytesToStr, w_pick, WOps_nil, thenQ_normal, eX_t, eX_c, put_s, put_n, getset, Nat.reduceEqDiff, if_false, if_true, Option.getD_some, rd, natOf_nn, natOf_by, Option.some.injEq, exists_eq_left', Prod.mk.injEq, and_assoc, exists_and_left, true_and, Nat.zero_add, Nat.add_zero, Nat.mul_one, ble_t, mul_nn, quo_nn, rem_nn, add_nn, sub_nn, lss_nn, eql_nn, neq_nn, xor_by, k0, k1, k2, k3, k4, k5, k6, k7, k8, k12, k13, k14, k15, k16, k32, k60, k254, k256, g1]
  refine WOps_want ((wantedA_some (d := 10) (b := true) rfl (by simp only [eX_t, eX_c, put_s, put_n, getset, Nat.reduceEqDiff, if_false, if_true, Option.getD_some])).trans rfl) ?_
  simp only [w_mov, w_ibin, w_load1, w_loadN, w_nilCheck, w_indexArr, w_indexSl, w_indexVal, w_indexStr, w_lenStr, w_lenSl, w_store, w_alloc, w_box, w_build, w_sliceArr, w_bytesToStr, w_pick, WOps_nil, thenQ_normal, eX_t, eX_c, put_s, put_n, getset, Nat.reduceEqDiff, if_false, if_true, Option.getD_some, rd, natOf_nn, natOf_by, Option.some.injEq, exists_eq_left', Prod.mk.injEq, and_assoc, exists_and_left, true_and, Nat.zero_add, Nat.add_zero, Nat.mul_one, ble_t, mul_nn, quo_nn, rem_nn, add_nn, sub_nn, lss_nn, eql_nn, neq_nn, xor_by, k0, k1, k2, k3, k4, k5, k6, k7, k8, k12, k13, k14, k15, k16, k32, k60, k254, k256, w_sbin, sbin_eql, cond_true]
  refine W.ret ⟨.inr rfl, ?_⟩
  simp only [resultsOf, resOf, eX_t, eX_c, put_s, put_n, getset, Nat.reduceEqDiff, if_false, if_true, Option.getD_some, Option.some.injEq, exists_eq_left', oneOf]
  refine W.ret ⟨.inr rfl, ?_⟩
  simp only [resultsOf, resOf, eX_t, eX_c, put_s, put_n, getset, Nat.reduceEqDiff, if_false, if_true, Option.getD_some, Option.some.injEq, exists_eq_left', oneOf]
  exact hQ
end Go.AE
end
-- Contracts of bytes: a reader of four bytes, its number.
section
set_option linter.unusedVariables false
set_option linter.unusedSimpArgs false
set_option maxRecDepth 100000
set_option maxHeartbeats 1000000
noncomputable section
namespace Go.AE
variable {E : Env}

def slV (d n : Nat) : AV := .slice (some (d, 0)) n (.unk 1)
theorem fillS (d n : Nat) : fillA [.slice none 0 (.known 0)] [(0, 1, slV d n)] = some [slV d n] := rfl

theorem bounds_hm {a : Frm} {x y : AX} {len cap h m : Nat} (hx : evalX a x = nn h) (hy : evalX a y = nn m) (h1 : h ≤ m) (h2 : m ≤ cap) : bounds a len cap none (some x) (some y) = some (0, h, m) := by
  delta bounds
  simp only [bound, hx, hy, natOf_nn, Nat.ble_eq.mpr h1, Nat.ble_eq.mpr h2, cond_true]

theorem new_ok (hE : ∀ f, E.funcs f = Shk.funcsT.get f) (hx : ∀ f args H, plainF f = true → E.sums f args H = none) {H : Heap} {s : List UInt8} {Q : AV → Heap → Prop}
    (hQ : ∀ H', H'.next = H.next + 2 → H'.t.get H.next = some (.cells (bs s) 5 true false) → H'.t.get (H.next + 1) = some (.cells [slV H.next s.length] 108 false false) → (∀ j, j < H.next → H'.t.get j = H.t.get j) → Q (.ptr (some (H.next + 1, 0))) H') :
    WCall E 26 [.str s] H Q := by
  refine WCall.func (hx 26 _ _ rfl) ((hE 26).trans rfl) ?_
  have f0 : (frameOf [.str s] 0 .nil).get 0 = some (.str s) := rfl
  generalize frameOf [.str s] 0 .nil = a at f0
  refine W.seq (W.region ?_)
  simp only [w_mov, w_ibin, w_load1, w_loadN, w_nilCheck, w_indexArr, w_indexSl, w_indexVal, w_indexStr, w_lenStr, w_lenSl, w_store, w_alloc, w_box, w_build, w_sliceArr, w_bytesToStr, w_pick, WOps_nil, thenQ_normal, eX_t, eX_c, put_s, put_n, getset, Nat.reduceEqDiff, if_false, if_true, Option.getD_some, rd, natOf_nn, natOf_by, Option.some.injEq, exists_eq_left', Prod.mk.injEq, and_assoc, exists_and_left, true_and, Nat.zero_add, Nat.add_zero, Nat.mul_one, ble_t, mul_nn, quo_nn, rem_nn, add_nn, sub_nn, lss_nn, eql_nn, neq_nn, xor_by, k0, k1, k2, k3, k4, k5, k6, k7, k8, k12, k13, k14, k15, k16, k32, k60, k254, k256]
  refine W.seq (W.region ?_)
  simp only [w_mov, w_ibin, w_load1, w_loadN, w_nilCheck, w_indexArr, w_indexSl, w_indexVal, w_indexStr, w_lenStr, w_lenSl, w_store, w_alloc, w_box, w_build, w_sliceArr, w_bytesToStr, w_pick, WOps_nil, thenQ_normal, eX_t, eX_c, put_s, put_n, getset, Nat.reduceEqDiff, if_false, if_true, Option.getD_some, rd, natOf_nn, natOf_by, Option.some.injEq, exists_eq_left', Prod.mk.injEq, and_assoc, exists_and_left, true_and, Nat.zero_add, Nat.add_zero, Nat.mul_one, ble_t, mul_nn, quo_nn, rem_nn, add_nn, sub_nn, lss_nn, eql_nn, neq_nn, xor_by, k0, k1, k2, k3, k4, k5, k6, k7, k8, k12, k13, k14, k15, k16, k32, k60, k254, k256, f0]
  refine w_strToBytes (S := s) (by simp only [eX_t, eX_c, put_s, put_n, getset, Nat.reduceEqDiff, if_false, if_true, Option.getD_some]) ?_
  have hp := get_push H (.cells (bs s) 5 true false)
  have hpn := next_push H (.cells (bs s) 5 true false)
  generalize H.push (.cells (bs s) 5 true false) = H1 at hp hpn ⊢
  rw [show AV.slice (some (H.next, 0)) s.length (.unk 1) = slV H.next s.length from rfl]
  rw [w_build]
  refine ⟨.agg [slV H.next s.length], by simp only [rd, List.map_cons, List.map_nil, eX_t, eX_c, put_s, put_n, getset, Nat.reduceEqDiff, if_false, if_true, Option.getD_some, fillS], ?_⟩
  rw [w_box]
  simp only [eX_t, eX_c, put_s, put_n, getset, Nat.reduceEqDiff, if_false, if_true, Option.getD_some, cells_agg]
  have hp2 := get_push H1 (.cells [slV H.next s.length] 108 false false)
  have hpn2 := next_push H1 (.cells [slV H.next s.length] 108 false false)
  generalize H1.push (.cells [slV H.next s.length] 108 false false) = H2 at hp2 hpn2 ⊢
  rw [hpn]
  simp only [w_mov, w_ibin, w_load1, w_loadN, w_nilCheck, w_indexArr, w_indexSl, w_indexVal, w_indexStr, w_lenStr, w_lenSl, w_store, w_alloc, w_box, w_build, w_sliceArr, w_bytesToStr, w_pick, WOps_nil, thenQ_normal, eX_t, eX_c, put_s, put_n, getset, Nat.reduceEqDiff, if_false, if_true, Option.getD_some, rd, natOf_nn, natOf_by, Option.some.injEq, exists_eq_left', Prod.mk.injEq, and_assoc, exists_and_left, true_and, Nat.zero_add, Nat.add_zero, Nat.mul_one, ble_t, mul_nn, quo_nn, rem_nn, add_nn, sub_nn, lss_nn, eql_nn, neq_nn, xor_by, k0, k1, k2, k3, k4, k5, k6, k7, k8, k12, k13, k14, k15, k16, k32, k60, k254, k256]
  refine W.ret ⟨.inr rfl, ?_⟩
  simp only [resultsOf, resOf, eX_t, eX_c, put_s, put_n, getset, Nat.reduceEqDiff, if_false, if_true, Option.getD_some, Option.some.injEq, exists_eq_left', oneOf]
  rw [hpn] at hp2
  exact hQ H2 (by omega) (by rw [hp2, if_neg (by omega), hp, if_pos rfl]) (by rw [hp2, if_pos rfl]) fun j hj => by rw [hp2, if_neg (by omega), hp, if_neg (by omega)]

theorem take_ok (hE : ∀ f, E.funcs f = Shk.funcsT.get f) (hx : ∀ f args H, plainF f = true → E.sums f args H = none) {H : Heap} {t : List UInt8} {d b : Nat} (ht : t.length = 4) (hb : H.t.get b = some (.cells [slV d 4] 108 false false)) (hd : H.t.get d = some (.cells (bs t) 5 true false)) {Q : AV → Heap → Prop}
    (hQ : ∀ H', H'.next = H.next → (∀ j, j ≠ b → H'.t.get j = H.t.get j) → Q (.tuple [.str t, .bool true]) H') :
    WCall E 59 [.ptr (some (b, 0)), nn 4] H Q := by
  refine WCall.func (hx 59 _ _ rfl) ((hE 59).trans rfl) ?_
  have f0 : (frameOf [.ptr (some (b, 0)), nn 4] 0 .nil).get 0 = some (.ptr (some (b, 0))) := rfl
  have f1 : (frameOf [.ptr (some (b, 0)), nn 4] 0 .nil).get 1 = some (nn 4) := rfl
  generalize frameOf [.ptr (some (b, 0)), nn 4] 0 .nil = a at f0 f1
  have e32 : ∀ n : Nat, AV.int .i64 (.ofNat n) = nn n := fun _ => rfl
  have hl : H.load b (0 + 0) = some (slV d 4) := by rw [load_blk hb]; rfl
  have hl0 : H.load b 0 = some (slV d 4) := hl
  have d1 : decide (4 < 0) = false := rfl
  have d2 : decide (4 < 4) = false := rfl
  refine W.seq (W.region ?_)
  simp only [w_mov, w_ibin, w_load1, w_loadN, w_nilCheck, w_indexArr, w_indexSl, w_indexVal, w_indexStr, w_lenStr, w_lenSl, w_store, w_alloc, w_box, w_build, w_sliceArr, w_bytesToStr, w_pick, WOps_nil, thenQ_normal, eX_t, eX_c, put_s, put_n, getset, Nat.reduceEqDiff, if_false, if_true, Option.getD_some, rd, natOf_nn, natOf_by, Option.some.injEq, exists_eq_left', Prod.mk.injEq, and_assoc, exists_and_left, true_and, Nat.zero_add, Nat.add_zero, Nat.mul_one, ble_t, mul_nn, quo_nn, rem_nn, add_nn, sub_nn, lss_nn, eql_nn, neq_nn, xor_by, k0, k1, k2, k3, k4, k5, k6, k7, k8, k12, k13, k14, k15, k16, k32, k60, k254, k256]
  refine W.seq (W.seq (W.region ?_))
  simp only [w_mov, w_ibin, w_load1, w_loadN, w_nilCheck, w_indexArr, w_indexSl, w_indexVal, w_indexStr, w_lenStr, w_lenSl, w_store, w_alloc, w_box, w_build, w_sliceArr, w_bytesToStr, w_pick, WOps_nil, thenQ_normal, eX_t, eX_c, put_s, put_n, getset, Nat.reduceEqDiff, if_false, if_true, Option.getD_some, rd, natOf_nn, natOf_by, Option.some.injEq, exists_eq_left', Prod.mk.injEq, and_assoc, exists_and_left, true_and, Nat.zero_add, Nat.add_zero, Nat.mul_one, ble_t, mul_nn, quo_nn, rem_nn, add_nn, sub_nn, lss_nn, eql_nn, neq_nn, xor_by, k0, k1, k2, k3, k4, k5, k6, k7, k8, k12, k13, k14, k15, k16, k32, k60, k254, k256, f0, f1, w_eqv, eqv, cond_false]
  refine WOps_want ((wantedA_some (d := 9) (b := false) rfl (by simp only [eX_t, eX_c, put_s, put_n, getset, Nat.reduceEqDiff, if_false, if_true, Option.getD_some])).trans rfl) ?_
  simp only [w_mov, w_ibin, w_load1, w_loadN, w_nilCheck, w_indexArr, w_indexSl, w_indexVal, w_indexStr, w_lenStr, w_lenSl, w_store, w_alloc, w_box, w_build, w_sliceArr, w_bytesToStr, w_pick, WOps_nil, thenQ_normal, eX_t, eX_c, put_s, put_n, getset, Nat.reduceEqDiff, if_false, if_true, Option.getD_some, rd, natOf_nn, natOf_by, Option.some.injEq, exists_eq_left', Prod.mk.injEq, and_assoc, exists_and_left, true_and, Nat.zero_add, Nat.add_zero, Nat.mul_one, ble_t, mul_nn, quo_nn, rem_nn, add_nn, sub_nn, lss_nn, eql_nn, neq_nn, xor_by, k0, k1, k2, k3, k4, k5, k6, k7, k8, k12, k13, k14, k15, k16, k32, k60, k254, k256, f1]
  refine WOps_want ((wantedA_some (d := 9) (b := false) rfl (by simp only [eX_t, eX_c, put_s, put_n, getset, Nat.reduceEqDiff, if_false, if_true, Option.getD_some])).trans rfl) ?_
  simp only [w_mov, w_ibin, w_load1, w_loadN, w_nilCheck, w_indexArr, w_indexSl, w_indexVal, w_indexStr, w_lenStr, w_lenSl, w_store, w_alloc, w_box, w_build, w_sliceArr, w_bytesToStr, w_pick, WOps_nil, thenQ_normal, eX_t, eX_c, put_s, put_n, getset, Nat.reduceEqDiff, if_false, if_true, Option.getD_some, rd, natOf_nn, natOf_by, Option.some.injEq, exists_eq_left', Prod.mk.injEq, and_assoc, exists_and_left, true_and, Nat.zero_add, Nat.add_zero, Nat.mul_one, ble_t, mul_nn, quo_nn, rem_nn, add_nn, sub_nn, lss_nn, eql_nn, neq_nn, xor_by, k0, k1, k2, k3, k4, k5, k6, k7, k8, k12, k13, k14, k15, k16, k32, k60, k254, k256, d1, cond_false]
  refine WOps_want ((wantedA_some (d := 13) (b := false) rfl (by simp only [eX_t, eX_c, put_s, put_n, getset, Nat.reduceEqDiff, if_false, if_true, Option.getD_some])).trans rfl) ?_
  simp only [w_mov, w_ibin, w_load1, w_loadN, w_nilCheck, w_indexArr, w_indexSl, w_indexVal, w_indexStr, w_lenStr, w_lenSl, w_store, w_alloc, w_box, w_build, w_sliceArr, w_bytesToStr, w_pick, WOps_nil, thenQ_normal, eX_t, eX_c, put_s, put_n, getset, Nat.reduceEqDiff, if_false, if_true, Option.getD_some, rd, natOf_nn, natOf_by, Option.some.injEq, exists_eq_left', Prod.mk.injEq, and_assoc, exists_and_left, true_and, Nat.zero_add, Nat.add_zero, Nat.mul_one, ble_t, mul_nn, quo_nn, rem_nn, add_nn, sub_nn, lss_nn, eql_nn, neq_nn, xor_by, k0, k1, k2, k3, k4, k5, k6, k7, k8, k12, k13, k14, k15, k16, k32, k60, k254, k256, f1]
  refine WOps_want ((wantedA_some (d := 13) (b := false) rfl (by simp only [eX_t, eX_c, put_s, put_n, getset, Nat.reduceEqDiff, if_false, if_true, Option.getD_some])).trans rfl) ?_
  simp only [w_mov, w_ibin, w_load1, w_loadN, w_nilCheck, w_indexArr, w_indexSl, w_indexVal, w_indexStr, w_lenStr, w_lenSl, w_store, w_alloc, w_box, w_build, w_sliceArr, w_bytesToStr, w_pick, WOps_nil, thenQ_normal, eX_t, eX_c, put_s, put_n, getset, Nat.reduceEqDiff, if_false, if_true, Option.getD_some, rd, natOf_nn, natOf_by, Option.some.injEq, exists_eq_left', Prod.mk.injEq, and_assoc, exists_and_left, true_and, Nat.zero_add, Nat.add_zero, Nat.mul_one, ble_t, mul_nn, quo_nn, rem_nn, add_nn, sub_nn, lss_nn, eql_nn, neq_nn, xor_by, k0, k1, k2, k3, k4, k5, k6, k7, k8, k12, k13, k14, k15, k16, k32, k60, k254, k256, f0]
  refine WOps_want ((wantedA_some (d := 13) (b := false) rfl (by simp only [eX_t, eX_c, put_s, put_n, getset, Nat.reduceEqDiff, if_false, if_true, Option.getD_some])).trans rfl) ?_
  simp only [w_mov, w_ibin, w_load1, w_loadN, w_nilCheck, w_indexArr, w_indexSl, w_indexVal, w_indexStr, w_lenStr, w_lenSl, w_store, w_alloc, w_box, w_build, w_sliceArr, w_bytesToStr, w_pick, WOps_nil, thenQ_normal, eX_t, eX_c, put_s, put_n, getset, Nat.reduceEqDiff, if_false, if_true, Option.getD_some, rd, natOf_nn, natOf_by, Option.some.injEq, exists_eq_left', Prod.mk.injEq, and_assoc, exists_and_left, true_and, Nat.zero_add, Nat.add_zero, Nat.mul_one, ble_t, mul_nn, quo_nn, rem_nn, add_nn, sub_nn, lss_nn, eql_nn, neq_nn, xor_by, k0, k1, k2, k3, k4, k5, k6, k7, k8, k12, k13, k14, k15, k16, k32, k60, k254, k256]
  refine WOps_want ((wantedA_some (d := 13) (b := false) rfl (by simp only [eX_t, eX_c, put_s, put_n, getset, Nat.reduceEqDiff, if_false, if_true, Option.getD_some])).trans rfl) ?_
  simp only [w_mov, w_ibin, w_load1, w_loadN, w_nilCheck, w_indexArr, w_indexSl, w_indexVal, w_indexStr, w_lenStr, w_lenSl, w_store, w_alloc, w_box, w_build, w_sliceArr, w_bytesToStr, w_pick, WOps_nil, thenQ_normal, eX_t, eX_c, put_s, put_n, getset, Nat.reduceEqDiff, if_false, if_true, Option.getD_some, rd, natOf_nn, natOf_by, Option.some.injEq, exists_eq_left', Prod.mk.injEq, and_assoc, exists_and_left, true_and, Nat.zero_add, Nat.add_zero, Nat.mul_one, ble_t, mul_nn, quo_nn, rem_nn, add_nn, sub_nn, lss_nn, eql_nn, neq_nn, xor_by, k0, k1, k2, k3, k4, k5, k6, k7, k8, k12, k13, k14, k15, k16, k32, k60, k254, k256, w_field]
  refine WOps_want ((wantedA_some (d := 13) (b := false) rfl (by simp only [eX_t, eX_c, put_s, put_n, getset, Nat.reduceEqDiff, if_false, if_true, Option.getD_some])).trans rfl) ?_
  simp only [w_mov, w_ibin, w_load1, w_loadN, w_nilCheck, w_indexArr, w_indexSl, w_indexVal, w_indexStr, w_lenStr, w_lenSl, w_store, w_alloc, w_box, w_build, w_sliceArr, w_bytesToStr, w_pick, WOps_nil, thenQ_normal, eX_t, eX_c, put_s, put_n, getset, Nat.reduceEqDiff, if_false, if_true, Option.getD_some, rd, natOf_nn, natOf_by, Option.some.injEq, exists_eq_left', Prod.mk.injEq, and_assoc, exists_and_left, true_and, Nat.zero_add, Nat.add_zero, Nat.mul_one, ble_t, mul_nn, quo_nn, rem_nn, add_nn, sub_nn, lss_nn, eql_nn, neq_nn, xor_by, k0, k1, k2, k3, k4, k5, k6, k7, k8, k12, k13, k14, k15, k16, k32, k60, k254, k256, hl0]
  refine WOps_want ((wantedA_some (d := 13) (b := false) rfl (by simp only [eX_t, eX_c, put_s, put_n, getset, Nat.reduceEqDiff, if_false, if_true, Option.getD_some])).trans rfl) ?_
  simp only [w_mov, w_ibin, w_load1, w_loadN, w_nilCheck, w_indexArr, w_indexSl, w_indexVal, w_indexStr, w_lenStr, w_lenSl, w_store, w_alloc, w_box, w_build, w_sliceArr, w_bytesToStr, w_pick, WOps_nil, thenQ_normal, eX_t, eX_c, put_s, put_n, getset, Nat.reduceEqDiff, if_false, if_true, Option.getD_some, rd, natOf_nn, natOf_by, Option.some.injEq, exists_eq_left', Prod.mk.injEq, and_assoc, exists_and_left, true_and, Nat.zero_add, Nat.add_zero, Nat.mul_one, ble_t, mul_nn, quo_nn, rem_nn, add_nn, sub_nn, lss_nn, eql_nn, neq_nn, xor_by, k0, k1, k2, k3, k4, k5, k6, k7, k8, k12, k13, k14, k15, k16, k32, k60, k254, k256, slV, e32]
  refine WOps_want ((wantedA_some (d := 13) (b := false) rfl (by simp only [eX_t, eX_c, put_s, put_n, getset, Nat.reduceEqDiff, if_false, if_true, Option.getD_some])).trans rfl) ?_
  simp only [w_mov, w_ibin, w_load1, w_loadN, w_nilCheck, w_indexArr, w_indexSl, w_indexVal, w_indexStr, w_lenStr, w_lenSl, w_store, w_alloc, w_box, w_build, w_sliceArr, w_bytesToStr, w_pick, WOps_nil, thenQ_normal, eX_t, eX_c, put_s, put_n, getset, Nat.reduceEqDiff, if_false, if_true, Option.getD_some, rd, natOf_nn, natOf_by, Option.some.injEq, exists_eq_left', Prod.mk.injEq, and_assoc, exists_and_left, true_and, Nat.zero_add, Nat.add_zero, Nat.mul_one, ble_t, mul_nn, quo_nn, rem_nn, add_nn, sub_nn, lss_nn, eql_nn, neq_nn, xor_by, k0, k1, k2, k3, k4, k5, k6, k7, k8, k12, k13, k14, k15, k16, k32, k60, k254, k256, gtr_nn, d2, cond_false]
  refine W.cond (b := false) (by simp only [eX_t, eX_c, put_s, put_n, getset, Nat.reduceEqDiff, if_false, if_true, Option.getD_some]) (W.skip ?_)
  rw [thenQ_normal]
  refine W.seq (W.region ?_)
  simp only [w_mov, w_ibin, w_load1, w_loadN, w_nilCheck, w_indexArr, w_indexSl, w_indexVal, w_indexStr, w_lenStr, w_lenSl, w_store, w_alloc, w_box, w_build, w_sliceArr, w_bytesToStr, w_pick, WOps_nil, thenQ_normal, eX_t, eX_c, put_s, put_n, getset, Nat.reduceEqDiff, if_false, if_true, Option.getD_some, rd, natOf_nn, natOf_by, Option.some.injEq, exists_eq_left', Prod.mk.injEq, and_assoc, exists_and_left, true_and, Nat.zero_add, Nat.add_zero, Nat.mul_one, ble_t, mul_nn, quo_nn, rem_nn, add_nn, sub_nn, lss_nn, eql_nn, neq_nn, xor_by, k0, k1, k2, k3, k4, k5, k6, k7, k8, k12, k13, k14, k15, k16, k32, k60, k254, k256, f0, f1, w_field, hl0, slV]
  rw [w_sliceSl]
  refine ⟨.slice (some (d, 0)) 4 (.known 4), ?_, ?_⟩
  · simp only [rd, eX_t, eX_c, put_s, put_n, getset, Nat.reduceEqDiff, if_false, if_true, Option.getD_some]
    rw [bounds_hm (h := 4) (m := 4) (by simp only [eX_t, eX_c, put_s, put_n, getset, Nat.reduceEqDiff, if_false, if_true, Option.getD_some]) (by simp only [eX_t, eX_c, put_s, put_n, getset, Nat.reduceEqDiff, if_false, if_true, Option.getD_some]) (by omega) (by omega)]
    rfl
  simp only [put_s]
  rw [w_bytesToStr]
  refine ⟨.str t, ?_, ?_⟩
  · obtain ⟨T0, nx⟩ := H
    exact toStr (b := d) (L := 4) (cap := .known 4) (S := t) (by simp only [eX_t, eX_c, put_s, put_n, getset, Nat.reduceEqDiff, if_false, if_true, Option.getD_some]) ht hd
  simp only [w_mov, w_ibin, w_load1, w_loadN, w_nilCheck, w_indexArr, w_indexSl, w_indexVal, w_indexStr, w_lenStr, w_lenSl, w_store, w_alloc, w_box, w_build, w_sliceArr, w_bytesToStr, w_pick, WOps_nil, thenQ_normal, eX_t, eX_c, put_s, put_n, getset, Nat.reduceEqDiff, if_false, if_true, Option.getD_some, rd, natOf_nn, natOf_by, Option.some.injEq, exists_eq_left', Prod.mk.injEq, and_assoc, exists_and_left, true_and, Nat.zero_add, Nat.add_zero, Nat.mul_one, ble_t, mul_nn, quo_nn, rem_nn, add_nn, sub_nn, lss_nn, eql_nn, neq_nn, xor_by, k0, k1, k2, k3, k4, k5, k6, k7, k8, k12, k13, k14, k15, k16, k32, k60, k254, k256]
  refine W.seq (W.region ?_)
  simp only [w_mov, w_ibin, w_load1, w_loadN, w_nilCheck, w_indexArr, w_indexSl, w_indexVal, w_indexStr, w_lenStr, w_lenSl, w_store, w_alloc, w_box, w_build, w_sliceArr, w_bytesToStr, w_pick, WOps_nil, thenQ_normal, eX_t, eX_c, put_s, put_n, getset, Nat.reduceEqDiff, if_false, if_true, Option.getD_some, rd, natOf_nn, natOf_by, Option.some.injEq, exists_eq_left', Prod.mk.injEq, and_assoc, exists_and_left, true_and, Nat.zero_add, Nat.add_zero, Nat.mul_one, ble_t, mul_nn, quo_nn, rem_nn, add_nn, sub_nn, lss_nn, eql_nn, neq_nn, xor_by, k0, k1, k2, k3, k4, k5, k6, k7, k8, k12, k13, k14, k15, k16, k32, k60, k254, k256, f0, f1, w_field, hl0, slV]
  rw [w_sliceSl]
  refine ⟨.slice (some (d, 4)) 0 (.unk 1), ?_, ?_⟩
  · simp only [rd, eX_t, eX_c, put_s, put_n, getset, Nat.reduceEqDiff, if_false, if_true, Option.getD_some]
    rw [bounds_lo (l := 4) (by simp only [eX_t, eX_c, put_s, put_n, getset, Nat.reduceEqDiff, if_false, if_true, Option.getD_some]) (by omega)]
    rfl
  simp only [w_mov, w_ibin, w_load1, w_loadN, w_nilCheck, w_indexArr, w_indexSl, w_indexVal, w_indexStr, w_lenStr, w_lenSl, w_store, w_alloc, w_box, w_build, w_sliceArr, w_bytesToStr, w_pick, WOps_nil, thenQ_normal, eX_t, eX_c, put_s, put_n, getset, Nat.reduceEqDiff, if_false, if_true, Option.getD_some, rd, natOf_nn, natOf_by, Option.some.injEq, exists_eq_left', Prod.mk.injEq, and_assoc, exists_and_left, true_and, Nat.zero_add, Nat.add_zero, Nat.mul_one, ble_t, mul_nn, quo_nn, rem_nn, add_nn, sub_nn, lss_nn, eql_nn, neq_nn, xor_by, k0, k1, k2, k3, k4, k5, k6, k7, k8, k12, k13, k14, k15, k16, k32, k60, k254, k256, w_field]
  have hst : H.store b 0 [.slice (some (d, 4)) 0 (.unk 1)] = some { H with t := H.t.set b (.cells [.slice (some (d, 4)) 0 (.unk 1)] 108 false false) } := by
    simp only [Heap.store, hb]
    rfl
  refine ⟨aundef, { H with t := H.t.set b (.cells [.slice (some (d, 4)) 0 (.unk 1)] 108 false false) }, ?_, ?_⟩
  · simp only [wst, eX_t, eX_c, put_s, put_n, getset, Nat.reduceEqDiff, if_false, if_true, Option.getD_some]
    show (bif Nat.beq 1 1 then (match H.store b 0 [.slice (some (d, 4)) 0 (.unk 1)] with | some H' => some (aundef, H') | none => none) else none) = _
    rw [hst]
    rfl
  refine W.seq (W.region ?_)
  simp only [w_mov, w_ibin, w_load1, w_loadN, w_nilCheck, w_indexArr, w_indexSl, w_indexVal, w_indexStr, w_lenStr, w_lenSl, w_store, w_alloc, w_box, w_build, w_sliceArr, w_bytesToStr, w_pick, WOps_nil, thenQ_normal, eX_t, eX_c, put_s, put_n, getset, Nat.reduceEqDiff, if_false, if_true, Option.getD_some, rd, natOf_nn, natOf_by, Option.some.injEq, exists_eq_left', Prod.mk.injEq, and_assoc, exists_and_left, true_and, Nat.zero_add, Nat.add_zero, Nat.mul_one, ble_t, mul_nn, quo_nn, rem_nn, add_nn, sub_nn, lss_nn, eql_nn, neq_nn, xor_by, k0, k1, k2, k3, k4, k5, k6, k7, k8, k12, k13, k14, k15, k16, k32, k60, k254, k256]
  refine W.ret ⟨.inr rfl, ?_⟩
  simp only [resultsOf, resOf, eX_t, eX_c, put_s, put_n, getset, Nat.reduceEqDiff, if_false, if_true, Option.getD_some, Option.some.injEq, exists_eq_left', oneOf]
  exact hQ _ rfl fun j hj => by simp only [getset, if_neg (Ne.symm hj)]
end Go.AE
end
-- Contracts of bytes and terms: a reader's number of four bytes; the number of a term's text.
section
set_option linter.unusedVariables false
set_option linter.unusedSimpArgs false
set_option maxRecDepth 100000
set_option maxHeartbeats 1000000
noncomputable section
namespace Go.AE
variable {E : Env}

/-- bytes as a number, the highest first -/
def ofBE : List UInt8 → Nat → Nat
  | [], a => a
  | b :: l, a => ofBE l (Nat.add (Nat.mul a 256) b.toNat)
theorem ofBE_snoc (b : UInt8) : ∀ (l : List UInt8) (a : Nat), ofBE (l ++ [b]) a = ofBE l a * 256 + b.toNat
  | [], a => rfl
  | c :: l, a => ofBE_snoc b l _
theorem ofBE_lt : ∀ (l : List UInt8) (a : Nat), ofBE l a < (a + 1) * 256 ^ l.length
  | [], a => by simp [ofBE]
  | b :: l, a => by
    have h := ofBE_lt l (a * 256 + b.toNat)
    have hb := b.toNat_lt
    show ofBE l (a * 256 + b.toNat) < _
    refine Nat.lt_of_lt_of_le h ?_
    rw [List.length_cons, Nat.pow_succ, Nat.mul_comm (256 ^ l.length) 256, ← Nat.mul_assoc]
    exact Nat.mul_le_mul_right _ (by omega)

theorem fits_u {n : Nat} (h : n < 18446744073709551616) : fits .u64 (.ofNat n) = true := by
  simp only [fits, lo, hi, Bool.and_eq_true]
  constructor
  · show Nat.ble 0 n = true
    rw [Nat.ble_eq]; omega
  · show Nat.ble n 18446744073709551615 = true
    rw [Nat.ble_eq]; omega
theorem shl_nu {v : Nat} (h : v < 1099511627776) : ibin .shl (nu v) (.int .u64 8) = some (nu (v * 256)) := by
  show some (AV.int .u64 (wrapK .u64 ((Int.ofNat v) * ((2 ^ 8 : Nat) : Int)))) = _
  have e : (Int.ofNat v) * ((2 ^ 8 : Nat) : Int) = Int.ofNat (v * 256) := rfl
  rw [e]
  simp only [wrapK, fits_u (show v * 256 < 18446744073709551616 by omega), cond_true, nu]
theorem or_nu {v : Nat} {b : UInt8} (h : v < 1099511627776) : ibin .or (nu (v * 256)) (nu b.toNat) = some (nu (v * 256 + b.toNat)) := by
  have hb := b.toNat_lt
  have e : Nat.lor (v * 256) b.toNat = v * 256 + b.toNat := by
    have := Nat.shiftLeft_add_eq_or_of_lt (i := 8) (b := b.toNat) (by omega) v
    rw [Nat.shiftLeft_eq] at this
    exact this.symm
  simp only [nu, ibin, kindEq, cond_true, ibits, fits_u (show v * 256 < 18446744073709551616 by omega), fits_u (show b.toNat < 18446744073709551616 by omega), Bool.and_self, natBits]
  show some (AV.int .u64 (Int.ofNat (Nat.lor (v * 256) b.toNat))) = _
  rw [e]
theorem conv_bu {a : Frm} {H : Heap} {x : AX} {b : UInt8} (h : evalX a x = by' b) : rd (.convInt .u64 x) a H = some (nu b.toNat) := by
  have := b.toNat_lt
  simp only [rd, h, by', wrapK, fits_u (show b.toNat < 18446744073709551616 by omega), cond_true, nu]
theorem conv_nu' {a : Frm} {H : Heap} {x : AX} {n : Nat} (h : evalX a x = nn n) (hn : n < 9223372036854775808) : rd (.convInt .u64 x) a H = some (nu n) := by
  simp only [rd, h, nn, wrapK, fits_u (show n < 18446744073709551616 by omega), cond_true, nu]
theorem conv_un {a : Frm} {H : Heap} {x : AX} {n : Nat} (h : evalX a x = nu n) (hn : n < 9223372036854775808) : rd (.convInt .i64 x) a H = some (nn n) := by
  simp only [rd, h, nu, wrapK, fits_nn hn, cond_true, nn]
theorem geq_nu (a b : Nat) : ibin .geq (nu a) (nu b) = some (.bool (decide (b ≤ a))) := by
  simp only [nu, ibin, kindEq, cond_true, fits.Int.ble']
  congr 2
  cases h : Nat.ble b a with
  | true => rw [Nat.ble_eq] at h; simp [h]
  | false => have : ¬ b ≤ a := fun h' => by rw [← Nat.ble_eq, h] at h'; exact nomatch h'
             simp [this]

def rnLoop : ACode := (.block 0 (.loop (.seq (.region [(AOper.mk (some 28) (.ibin .lss (.tmp 27) (.const (.int .i64 8))) none)]) (.seq (.cond (.tmp 28) .skip (.exit 0)) (.seq (.block 1 (.seq (.region [(AOper.mk (some 29) (.mov (.tmp 27)) none), (AOper.mk (some 10) (.mov (.tmp 29)) none)]) (.seq (.seq (.region [(AOper.mk (some 30) (.mov (.tmp 10)) none), (AOper.mk (some 31) (.mov (.tmp 7)) none), (AOper.mk (some 32) (.lenStr (.tmp 31)) none), (AOper.mk (some 33) (.ibin .eql (.tmp 30) (.tmp 32)) none)]) (.cond (.tmp 33) (.exit 0) .skip)) (.region [(AOper.mk (some 34) (.mov (.tmp 9)) none), (AOper.mk (some 35) (.ibin .shl (.tmp 34) (.const (.int .u64 8))) none), (AOper.mk (some 36) (.mov (.tmp 7)) none), (AOper.mk (some 37) (.mov (.tmp 10)) none), (AOper.mk (some 38) (.indexStr (.tmp 36) (.tmp 37)) none), (AOper.mk (some 39) (.convInt .u64 (.tmp 38)) none), (AOper.mk (some 40) (.ibin .or (.tmp 35) (.tmp 39)) none), (AOper.mk (some 9) (.mov (.tmp 40)) none)])))) (.region [(AOper.mk (some 41) (.ibin .add (.tmp 27) (.const (.int .i64 1))) none), (AOper.mk (some 27) (.mov (.tmp 41)) none)]))))))

theorem rn_loop {a : Frm} {H : Heap} {t : List UInt8} (h7 : a.get 7 = some (.str t)) (h9 : a.get 9 = some (nu 0)) (ht : t.length = 4) {Q : AExit → Frm → Heap → Prop} (hQ : ∀ a', a'.get 9 = some (nu (ofBE t 0)) → Q .normal a' H) : W E rnLoop (a.set 27 (nn 0)) H Q := by
  have e32 : ∀ n : Nat, AV.int .i64 (.ofNat n) = nn n := fun _ => rfl
  have eb : ∀ b : UInt8, AV.int .u8 (.ofNat b.toNat) = by' b := fun _ => rfl
  refine W.block ?_
  refine W.count 4 (fun i a' H' => H' = H ∧ a'.get 7 = some (.str t) ∧ a'.get 9 = some (nu (ofBE (t.take i) 0)) ∧ a'.get 27 = some (nn i)) ?_ ?_ 0 _ H (by omega) ?_
  · intro i a1 H1 hi ⟨rfl, g7, g9, g27⟩
    have hv : ofBE (t.take i) 0 < 1099511627776 := by
      refine Nat.lt_of_lt_of_le (ofBE_lt (t.take i) 0) ?_
      rw [List.length_take, Nat.zero_add, Nat.one_mul]
      refine Nat.le_trans (Nat.pow_le_pow_right (by omega) (show min i t.length ≤ 4 by omega)) ?_
      decide
    refine W.seq (W.region ?_)
    simp only [w_mov, w_ibin, w_load1, w_loadN, w_nilCheck, w_indexArr, w_indexSl, w_indexVal, w_indexStr, w_lenStr, w_lenSl, w_store, w_alloc, w_box, w_build, w_sliceArr, w_bytesToStr, w_pick, WOps_nil, thenQ_normal, eX_t, eX_c, put_s, put_n, getset, Nat.reduceEqDiff, if_false, if_true, Option.getD_some, rd, natOf_nn, natOf_by, Option.some.injEq, exists_eq_left', Prod.mk.injEq, and_assoc, exists_and_left, true_and, Nat.zero_add, Nat.add_zero, Nat.mul_one, ble_t, mul_nn, quo_nn, rem_nn, add_nn, sub_nn, lss_nn, eql_nn, neq_nn, xor_by, k0, k1, k2, k3, k4, k5, k6, k7, k8, k12, k13, k14, k15, k16, k32, k60, k254, k256, g27]
    refine W.seq (W.cond (b := true) (by simp only [eX_t, eX_c, put_s, put_n, getset, Nat.reduceEqDiff, if_false, if_true, Option.getD_some]; simp; omega) (W.skip ?_))
    rw [thenQ_normal]
    refine W.seq (W.block (W.seq (W.region ?_)))
    simp only [w_mov, w_ibin, w_load1, w_loadN, w_nilCheck, w_indexArr, w_indexSl, w_indexVal, w_indexStr, w_lenStr, w_lenSl, w_store, w_alloc, w_box, w_build, w_sliceArr, w_bytesToStr, w_pick, WOps_nil, thenQ_normal, eX_t, eX_c, put_s, put_n, getset, Nat.reduceEqDiff, if_false, if_true, Option.getD_some, rd, natOf_nn, natOf_by, Option.some.injEq, exists_eq_left', Prod.mk.injEq, and_assoc, exists_and_left, true_and, Nat.zero_add, Nat.add_zero, Nat.mul_one, ble_t, mul_nn, quo_nn, rem_nn, add_nn, sub_nn, lss_nn, eql_nn, neq_nn, xor_by, k0, k1, k2, k3, k4, k5, k6, k7, k8, k12, k13, k14, k15, k16, k32, k60, k254, k256, g27]
    refine W.seq (W.seq (W.region ?_))
    simp only [w_mov, w_ibin, w_load1, w_loadN, w_nilCheck, w_indexArr, w_indexSl, w_indexVal, w_indexStr, w_lenStr, w_lenSl, w_store, w_alloc, w_box, w_build, w_sliceArr, w_bytesToStr, w_pick, WOps_nil, thenQ_normal, eX_t, eX_c, put_s, put_n, getset, Nat.reduceEqDiff, if_false, if_true, Option.getD_some, rd, natOf_nn, natOf_by, Option.some.injEq, exists_eq_left', Prod.mk.injEq, and_assoc, exists_and_left, true_and, Nat.zero_add, Nat.add_zero, Nat.mul_one, ble_t, mul_nn, quo_nn, rem_nn, add_nn, sub_nn, lss_nn, eql_nn, neq_nn, xor_by, k0, k1, k2, k3, k4, k5, k6, k7, k8, k12, k13, k14, k15, k16, k32, k60, k254, k256, g7, e32, ht]
    refine W.cond (b := false) (by simp only [eX_t, eX_c, put_s, put_n, getset, Nat.reduceEqDiff, if_false, if_true, Option.getD_some]; simp; omega) (W.skip ?_)
    rw [thenQ_normal]
    refine W.region ?_
    simp only [w_mov, w_ibin, w_load1, w_loadN, w_nilCheck, w_indexArr, w_indexSl, w_indexVal, w_indexStr, w_lenStr, w_lenSl, w_store, w_alloc, w_box, w_build, w_sliceArr, w_bytesToStr, w_pick, WOps_nil, thenQ_normal, eX_t, eX_c, put_s, put_n, getset, Nat.reduceEqDiff, if_false, if_true, Option.getD_some, rd, natOf_nn, natOf_by, Option.some.injEq, exists_eq_left', Prod.mk.injEq, and_assoc, exists_and_left, true_and, Nat.zero_add, Nat.add_zero, Nat.mul_one, ble_t, mul_nn, quo_nn, rem_nn, add_nn, sub_nn, lss_nn, eql_nn, neq_nn, xor_by, k0, k1, k2, k3, k4, k5, k6, k7, k8, k12, k13, k14, k15, k16, k32, k60, k254, k256, g9, g7, shl_nu hv, getS (show i < t.length by omega), eb]
    rw [w_convI]
    refine ⟨_, conv_bu (b := t.getD i 0) (by simp only [eX_t, eX_c, put_s, put_n, getset, Nat.reduceEqDiff, if_false, if_true, Option.getD_some]), ?_⟩
    simp only [w_mov, w_ibin, w_load1, w_loadN, w_nilCheck, w_indexArr, w_indexSl, w_indexVal, w_indexStr, w_lenStr, w_lenSl, w_store, w_alloc, w_box, w_build, w_sliceArr, w_bytesToStr, w_pick, WOps_nil, thenQ_normal, eX_t, eX_c, put_s, put_n, getset, Nat.reduceEqDiff, if_false, if_true, Option.getD_some, rd, natOf_nn, natOf_by, Option.some.injEq, exists_eq_left', Prod.mk.injEq, and_assoc, exists_and_left, true_and, Nat.zero_add, Nat.add_zero, Nat.mul_one, ble_t, mul_nn, quo_nn, rem_nn, add_nn, sub_nn, lss_nn, eql_nn, neq_nn, xor_by, k0, k1, k2, k3, k4, k5, k6, k7, k8, k12, k13, k14, k15, k16, k32, k60, k254, k256, or_nu hv, blockQ_normal, thenQ_normal]
    refine W.region ?_
    simp (disch := omega) only [w_mov, w_ibin, w_load1, w_loadN, w_nilCheck, w_indexArr, w_indexSl, w_indexVal, w_indexStr, w_lenStr, w_lenSl, w_store, w_alloc, w_box, w_build, w_sliceArr, w_bytesToStr, w_pick, WOps_nil, thenQ_normal, eX_t, eX_c, put_s, put_n, getset, Nat.reduceEqDiff, if_false, if_true, Option.getD_some, rd, natOf_nn, natOf_by, Option.some.injEq, exists_eq_left', Prod.mk.injEq, and_assoc, exists_and_left, true_and, Nat.zero_add, Nat.add_zero, Nat.mul_one, ble_t, mul_nn, quo_nn, rem_nn, add_nn, sub_nn, lss_nn, eql_nn, neq_nn, xor_by, k0, k1, k2, k3, k4, k5, k6, k7, k8, k12, k13, k14, k15, k16, k32, k60, k254, k256, g27]
    refine ⟨g7, ?_⟩
    rw [List.take_add_one, getS (show i < t.length by omega), Option.toList_some, ofBE_snoc]
    exact ⟨rfl, trivial⟩
  · intro a1 H1 ⟨rfl, g7, g9, g27⟩
    refine W.seq (W.region ?_)
    simp only [w_mov, w_ibin, w_load1, w_loadN, w_nilCheck, w_indexArr, w_indexSl, w_indexVal, w_indexStr, w_lenStr, w_lenSl, w_store, w_alloc, w_box, w_build, w_sliceArr, w_bytesToStr, w_pick, WOps_nil, thenQ_normal, eX_t, eX_c, put_s, put_n, getset, Nat.reduceEqDiff, if_false, if_true, Option.getD_some, rd, natOf_nn, natOf_by, Option.some.injEq, exists_eq_left', Prod.mk.injEq, and_assoc, exists_and_left, true_and, Nat.zero_add, Nat.add_zero, Nat.mul_one, ble_t, mul_nn, quo_nn, rem_nn, add_nn, sub_nn, lss_nn, eql_nn, neq_nn, xor_by, k0, k1, k2, k3, k4, k5, k6, k7, k8, k12, k13, k14, k15, k16, k32, k60, k254, k256, g27]
    refine W.seq (W.cond (b := true) (by simp only [eX_t, eX_c, put_s, put_n, getset, Nat.reduceEqDiff, if_false, if_true, Option.getD_some]; rfl) (W.skip ?_))
    rw [thenQ_normal]
    refine W.seq (W.block (W.seq (W.region ?_)))
    simp only [w_mov, w_ibin, w_load1, w_loadN, w_nilCheck, w_indexArr, w_indexSl, w_indexVal, w_indexStr, w_lenStr, w_lenSl, w_store, w_alloc, w_box, w_build, w_sliceArr, w_bytesToStr, w_pick, WOps_nil, thenQ_normal, eX_t, eX_c, put_s, put_n, getset, Nat.reduceEqDiff, if_false, if_true, Option.getD_some, rd, natOf_nn, natOf_by, Option.some.injEq, exists_eq_left', Prod.mk.injEq, and_assoc, exists_and_left, true_and, Nat.zero_add, Nat.add_zero, Nat.mul_one, ble_t, mul_nn, quo_nn, rem_nn, add_nn, sub_nn, lss_nn, eql_nn, neq_nn, xor_by, k0, k1, k2, k3, k4, k5, k6, k7, k8, k12, k13, k14, k15, k16, k32, k60, k254, k256, g27]
    refine W.seq (W.seq (W.region ?_))
    simp only [w_mov, w_ibin, w_load1, w_loadN, w_nilCheck, w_indexArr, w_indexSl, w_indexVal, w_indexStr, w_lenStr, w_lenSl, w_store, w_alloc, w_box, w_build, w_sliceArr, w_bytesToStr, w_pick, WOps_nil, thenQ_normal, eX_t, eX_c, put_s, put_n, getset, Nat.reduceEqDiff, if_false, if_true, Option.getD_some, rd, natOf_nn, natOf_by, Option.some.injEq, exists_eq_left', Prod.mk.injEq, and_assoc, exists_and_left, true_and, Nat.zero_add, Nat.add_zero, Nat.mul_one, ble_t, mul_nn, quo_nn, rem_nn, add_nn, sub_nn, lss_nn, eql_nn, neq_nn, xor_by, k0, k1, k2, k3, k4, k5, k6, k7, k8, k12, k13, k14, k15, k16, k32, k60, k254, k256, g7, e32, ht]
    refine W.cond (b := true) (by simp only [eX_t, eX_c, put_s, put_n, getset, Nat.reduceEqDiff, if_false, if_true, Option.getD_some]; rfl) (W.exit ?_)
    refine ⟨nofun, ?_⟩
    show blockQ 0 Q (.exit 0) _ H1
    simp only [blockQ_exit, Nat.beq_refl, cond_true]
    refine hQ _ ?_
    simp only [getset, Nat.reduceEqDiff, if_false]
    rw [g9, ← ht, List.take_length]
  · exact ⟨rfl, by simp only [getset, Nat.reduceEqDiff, if_false]; exact h7, by simp only [getset, Nat.reduceEqDiff, if_false]; exact h9, by simp only [getset, if_true]⟩

theorem num_ok (hE : ∀ f, E.funcs f = Shk.funcsT.get f) (hx : ∀ f args H, plainF f = true → E.sums f args H = none) {H : Heap} {t : List UInt8} {d b : Nat} (ht : t.length = 4) (hb : H.t.get b = some (.cells [slV d 4] 108 false false)) (hd : H.t.get d = some (.cells (bs t) 5 true false)) {Q : AV → Heap → Prop}
    (hQ : ∀ H', H'.next = H.next → (∀ j, j ≠ b → H'.t.get j = H.t.get j) → Q (.tuple [nu (ofBE t 0), .bool true]) H') :
    WCall E 27 [.ptr (some (b, 0)), nn 4] H Q := by
  refine WCall.func (hx 27 _ _ rfl) ((hE 27).trans rfl) ?_
  have f0 : (frameOf [.ptr (some (b, 0)), nn 4] 0 .nil).get 0 = some (.ptr (some (b, 0))) := rfl
  have f1 : (frameOf [.ptr (some (b, 0)), nn 4] 0 .nil).get 1 = some (nn 4) := rfl
  generalize frameOf [.ptr (some (b, 0)), nn 4] 0 .nil = a at f0 f1
  have d1 : decide (4 < 1) = false := rfl
  have d2 : decide (8 < 4) = false := rfl
  have u0 : AV.int .u64 0 = nu 0 := rfl
  refine W.seq (W.region ?_)
  simp only [w_mov, w_ibin, w_load1, w_loadN, w_nilCheck, w_indexArr, w_indexSl, w_indexVal, w_indexStr, w_lenStr, w_lenSl, w_store, w_alloc, w_box, w_build, w_sliceArr, w_bytesToStr, w_pick, WOps_nil, thenQ_normal, eX_t, eX_c, put_s, put_n, getset, Nat.reduceEqDiff, if_false, if_true, Option.getD_some, rd, natOf_nn, natOf_by, Option.some.injEq, exists_eq_left', Prod.mk.injEq, and_assoc, exists_and_left, true_and, Nat.zero_add, Nat.add_zero, Nat.mul_one, ble_t, mul_nn, quo_nn, rem_nn, add_nn, sub_nn, lss_nn, eql_nn, neq_nn, xor_by, k0, k1, k2, k3, k4, k5, k6, k7, k8, k12, k13, k14, k15, k16, k32, k60, k254, k256]
  refine W.seq (W.skip ?_)
  rw [thenQ_normal]
  refine W.seq (W.seq (W.region ?_))
  simp only [w_mov, w_ibin, w_load1, w_loadN, w_nilCheck, w_indexArr, w_indexSl, w_indexVal, w_indexStr, w_lenStr, w_lenSl, w_store, w_alloc, w_box, w_build, w_sliceArr, w_bytesToStr, w_pick, WOps_nil, thenQ_normal, eX_t, eX_c, put_s, put_n, getset, Nat.reduceEqDiff, if_false, if_true, Option.getD_some, rd, natOf_nn, natOf_by, Option.some.injEq, exists_eq_left', Prod.mk.injEq, and_assoc, exists_and_left, true_and, Nat.zero_add, Nat.add_zero, Nat.mul_one, ble_t, mul_nn, quo_nn, rem_nn, add_nn, sub_nn, lss_nn, eql_nn, neq_nn, xor_by, k0, k1, k2, k3, k4, k5, k6, k7, k8, k12, k13, k14, k15, k16, k32, k60, k254, k256, f1, d1]
  refine WOps_want ((wantedA_some (d := 13) (b := false) rfl (by simp only [eX_t, eX_c, put_s, put_n, getset, Nat.reduceEqDiff, if_false, if_true, Option.getD_some])).trans rfl) ?_
  simp only [w_mov, w_ibin, w_load1, w_loadN, w_nilCheck, w_indexArr, w_indexSl, w_indexVal, w_indexStr, w_lenStr, w_lenSl, w_store, w_alloc, w_box, w_build, w_sliceArr, w_bytesToStr, w_pick, WOps_nil, thenQ_normal, eX_t, eX_c, put_s, put_n, getset, Nat.reduceEqDiff, if_false, if_true, Option.getD_some, rd, natOf_nn, natOf_by, Option.some.injEq, exists_eq_left', Prod.mk.injEq, and_assoc, exists_and_left, true_and, Nat.zero_add, Nat.add_zero, Nat.mul_one, ble_t, mul_nn, quo_nn, rem_nn, add_nn, sub_nn, lss_nn, eql_nn, neq_nn, xor_by, k0, k1, k2, k3, k4, k5, k6, k7, k8, k12, k13, k14, k15, k16, k32, k60, k254, k256, f1]
  refine WOps_want ((wantedA_some (d := 13) (b := false) rfl (by simp only [eX_t, eX_c, put_s, put_n, getset, Nat.reduceEqDiff, if_false, if_true, Option.getD_some])).trans rfl) ?_
  simp only [w_mov, w_ibin, w_load1, w_loadN, w_nilCheck, w_indexArr, w_indexSl, w_indexVal, w_indexStr, w_lenStr, w_lenSl, w_store, w_alloc, w_box, w_build, w_sliceArr, w_bytesToStr, w_pick, WOps_nil, thenQ_normal, eX_t, eX_c, put_s, put_n, getset, Nat.reduceEqDiff, if_false, if_true, Option.getD_some, rd, natOf_nn, natOf_by, Option.some.injEq, exists_eq_left', Prod.mk.injEq, and_assoc, exists_and_left, true_and, Nat.zero_add, Nat.add_zero, Nat.mul_one, ble_t, mul_nn, quo_nn, rem_nn, add_nn, sub_nn, lss_nn, eql_nn, neq_nn, xor_by, k0, k1, k2, k3, k4, k5, k6, k7, k8, k12, k13, k14, k15, k16, k32, k60, k254, k256, gtr_nn, d2, cond_false]
  refine W.cond (b := false) (by simp only [eX_t, eX_c, put_s, put_n, getset, Nat.reduceEqDiff, if_false, if_true, Option.getD_some]) (W.skip ?_)
  rw [thenQ_normal]
  refine W.seq (W.region ?_)
  simp only [w_mov, w_ibin, w_load1, w_loadN, w_nilCheck, w_indexArr, w_indexSl, w_indexVal, w_indexStr, w_lenStr, w_lenSl, w_store, w_alloc, w_box, w_build, w_sliceArr, w_bytesToStr, w_pick, WOps_nil, thenQ_normal, eX_t, eX_c, put_s, put_n, getset, Nat.reduceEqDiff, if_false, if_true, Option.getD_some, rd, natOf_nn, natOf_by, Option.some.injEq, exists_eq_left', Prod.mk.injEq, and_assoc, exists_and_left, true_and, Nat.zero_add, Nat.add_zero, Nat.mul_one, ble_t, mul_nn, quo_nn, rem_nn, add_nn, sub_nn, lss_nn, eql_nn, neq_nn, xor_by, k0, k1, k2, k3, k4, k5, k6, k7, k8, k12, k13, k14, k15, k16, k32, k60, k254, k256, f0, w_mkFunc, List.map_cons, List.map_nil]
  refine W.seq (W.region ?_)
  simp only [w_mov, w_ibin, w_load1, w_loadN, w_nilCheck, w_indexArr, w_indexSl, w_indexVal, w_indexStr, w_lenStr, w_lenSl, w_store, w_alloc, w_box, w_build, w_sliceArr, w_bytesToStr, w_pick, WOps_nil, thenQ_normal, eX_t, eX_c, put_s, put_n, getset, Nat.reduceEqDiff, if_false, if_true, Option.getD_some, rd, natOf_nn, natOf_by, Option.some.injEq, exists_eq_left', Prod.mk.injEq, and_assoc, exists_and_left, true_and, Nat.zero_add, Nat.add_zero, Nat.mul_one, ble_t, mul_nn, quo_nn, rem_nn, add_nn, sub_nn, lss_nn, eql_nn, neq_nn, xor_by, k0, k1, k2, k3, k4, k5, k6, k7, k8, k12, k13, k14, k15, k16, k32, k60, k254, k256, f1]
  refine WOps.call (g := 59) (first := [.ptr (some (b, 0))]) (captured := []) (by simp only [eX_t, eX_c, put_s, put_n, getset, Nat.reduceEqDiff, if_false, if_true, Option.getD_some]) ?_
  simp only [List.map_nil, List.map_cons, List.nil_append, List.append_nil, List.cons_append, eX_t, eX_c, put_s, put_n, getset, Nat.reduceEqDiff, if_false, if_true, Option.getD_some]
  refine take_ok hE hx ht hb hd ?_
  intro H1 hn1 hk1
  simp only [w_mov, w_ibin, w_load1, w_loadN, w_nilCheck, w_indexArr, w_indexSl, w_indexVal, w_indexStr, w_lenStr, w_lenSl, w_store, w_alloc, w_box, w_build, w_sliceArr, w_bytesToStr, w_pick, WOps_nil, thenQ_normal, eX_t, eX_c, put_s, put_n, getset, Nat.reduceEqDiff, if_false, if_true, Option.getD_some, rd, natOf_nn, natOf_by, Option.some.injEq, exists_eq_left', Prod.mk.injEq, and_assoc, exists_and_left, true_and, Nat.zero_add, Nat.add_zero, Nat.mul_one, ble_t, mul_nn, quo_nn, rem_nn, add_nn, sub_nn, lss_nn, eql_nn, neq_nn, xor_by, k0, k1, k2, k3, k4, k5, k6, k7, k8, k12, k13, k14, k15, k16, k32, k60, k254, k256, w_extract, List.getElem?_cons_zero, List.getElem?_cons_succ]
  refine W.seq (W.seq (W.region ?_))
  simp only [w_mov, w_ibin, w_load1, w_loadN, w_nilCheck, w_indexArr, w_indexSl, w_indexVal, w_indexStr, w_lenStr, w_lenSl, w_store, w_alloc, w_box, w_build, w_sliceArr, w_bytesToStr, w_pick, WOps_nil, thenQ_normal, eX_t, eX_c, put_s, put_n, getset, Nat.reduceEqDiff, if_false, if_true, Option.getD_some, rd, natOf_nn, natOf_by, Option.some.injEq, exists_eq_left', Prod.mk.injEq, and_assoc, exists_and_left, true_and, Nat.zero_add, Nat.add_zero, Nat.mul_one, ble_t, mul_nn, quo_nn, rem_nn, add_nn, sub_nn, lss_nn, eql_nn, neq_nn, xor_by, k0, k1, k2, k3, k4, k5, k6, k7, k8, k12, k13, k14, k15, k16, k32, k60, k254, k256, w_un, unop, Bool.not_true]
  refine W.cond (b := false) (by simp only [eX_t, eX_c, put_s, put_n, getset, Nat.reduceEqDiff, if_false, if_true, Option.getD_some]) (W.skip ?_)
  rw [thenQ_normal]
  refine W.seq (W.region ?_)
  simp only [w_mov, w_ibin, w_load1, w_loadN, w_nilCheck, w_indexArr, w_indexSl, w_indexVal, w_indexStr, w_lenStr, w_lenSl, w_store, w_alloc, w_box, w_build, w_sliceArr, w_bytesToStr, w_pick, WOps_nil, thenQ_normal, eX_t, eX_c, put_s, put_n, getset, Nat.reduceEqDiff, if_false, if_true, Option.getD_some, rd, natOf_nn, natOf_by, Option.some.injEq, exists_eq_left', Prod.mk.injEq, and_assoc, exists_and_left, true_and, Nat.zero_add, Nat.add_zero, Nat.mul_one, ble_t, mul_nn, quo_nn, rem_nn, add_nn, sub_nn, lss_nn, eql_nn, neq_nn, xor_by, k0, k1, k2, k3, k4, k5, k6, k7, k8, k12, k13, k14, k15, k16, k32, k60, k254, k256, u0]
  refine W.seq (W.skip ?_)
  rw [thenQ_normal]
  refine W.seq (W.seq (W.region ?_))
  simp only [w_mov, w_ibin, w_load1, w_loadN, w_nilCheck, w_indexArr, w_indexSl, w_indexVal, w_indexStr, w_lenStr, w_lenSl, w_store, w_alloc, w_box, w_build, w_sliceArr, w_bytesToStr, w_pick, WOps_nil, thenQ_normal, eX_t, eX_c, put_s, put_n, getset, Nat.reduceEqDiff, if_false, if_true, Option.getD_some, rd, natOf_nn, natOf_by, Option.some.injEq, exists_eq_left', Prod.mk.injEq, and_assoc, exists_and_left, true_and, Nat.zero_add, Nat.add_zero, Nat.mul_one, ble_t, mul_nn, quo_nn, rem_nn, add_nn, sub_nn, lss_nn, eql_nn, neq_nn, xor_by, k0, k1, k2, k3, k4, k5, k6, k7, k8, k12, k13, k14, k15, k16, k32, k60, k254, k256]
  refine rn_loop (t := t) (by simp only [eX_t, eX_c, put_s, put_n, getset, Nat.reduceEqDiff, if_false, if_true, Option.getD_some]) (by simp only [eX_t, eX_c, put_s, put_n, getset, Nat.reduceEqDiff, if_false, if_true, Option.getD_some]) ht ?_
  intro a2 q9
  simp only [thenQ_normal]
  refine W.seq (W.region ?_)
  simp only [w_mov, w_ibin, w_load1, w_loadN, w_nilCheck, w_indexArr, w_indexSl, w_indexVal, w_indexStr, w_lenStr, w_lenSl, w_store, w_alloc, w_box, w_build, w_sliceArr, w_bytesToStr, w_pick, WOps_nil, thenQ_normal, eX_t, eX_c, put_s, put_n, getset, Nat.reduceEqDiff, if_false, if_true, Option.getD_some, rd, natOf_nn, natOf_by, Option.some.injEq, exists_eq_left', Prod.mk.injEq, and_assoc, exists_and_left, true_and, Nat.zero_add, Nat.add_zero, Nat.mul_one, ble_t, mul_nn, quo_nn, rem_nn, add_nn, sub_nn, lss_nn, eql_nn, neq_nn, xor_by, k0, k1, k2, k3, k4, k5, k6, k7, k8, k12, k13, k14, k15, k16, k32, k60, k254, k256, q9]
  refine W.ret ⟨.inr rfl, ?_⟩
  simp only [resultsOf, resOf, eX_t, eX_c, put_s, put_n, getset, Nat.reduceEqDiff, if_false, if_true, Option.getD_some, Option.some.injEq, exists_eq_left', oneOf]
  exact hQ H1 hn1 hk1

def markT : List UInt8 := [240, 84, 82, 77]
/-- the number of a text that is a term's -/
def numT (len : Nat) (s : List UInt8) : Int :=
  bif Nat.beq s.length 8 && beqBytes (s.take 4) markT then (bif Nat.ble len (ofBE (s.drop 4) 0) then .negSucc 0 else .ofNat (ofBE (s.drop 4) 0)) else .negSucc 0

theorem number_ok (hE : ∀ f, E.funcs f = Shk.funcsT.get f) (hx : ∀ f args H, plainF f = true → E.sums f args H = none) {H : Heap} {b o m n : Nat} {base : Option (Nat × Nat)} {cap : ACap} {s : List UInt8} (hbn : b < H.next) (hl : H.load b o = some (.slice base n cap)) (hm : H.load b (o + 1) = some (.map (some m))) (hn : n < 1000000000000)
    {Q : AV → Heap → Prop} (hQ : ∀ H', (∀ j, j < H.next → H'.t.get j = H.t.get j) → Q (.int .i64 (numT n s)) H') : WCall E 48 [.ptr (some (b, o)), .str s] H Q := by
  refine WCall.func (hx 48 _ _ rfl) ((hE 48).trans rfl) ?_
  have f0 : (frameOf [.ptr (some (b, o)), .str s] 0 .nil).get 0 = some (.ptr (some (b, o))) := rfl
  have f1 : (frameOf [.ptr (some (b, o)), .str s] 0 .nil).get 1 = some (.str s) := rfl
  generalize frameOf [.ptr (some (b, o)), .str s] 0 .nil = a at f0 f1
  have e32 : ∀ n : Nat, AV.int .i64 (.ofNat n) = nn n := fun _ => rfl
  refine W.seq (W.region ?_)
  simp only [w_mov, w_ibin, w_load1, w_loadN, w_nilCheck, w_indexArr, w_indexSl, w_indexVal, w_indexStr, w_lenStr, w_lenSl, w_store, w_alloc, w_box, w_build, w_sliceArr, w_bytesToStr, w_pick, WOps_nil, thenQ_normal, eX_t, eX_c, put_s, put_n, getset, Nat.reduceEqDiff, if_false, if_true, Option.getD_some, rd, natOf_nn, natOf_by, Option.some.injEq, exists_eq_left', Prod.mk.injEq, and_assoc, exists_and_left, true_and, Nat.zero_add, Nat.add_zero, Nat.mul_one, ble_t, mul_nn, quo_nn, rem_nn, add_nn, sub_nn, lss_nn, eql_nn, neq_nn, xor_by, k0, k1, k2, k3, k4, k5, k6, k7, k8, k12, k13, k14, k15, k16, k32, k60, k254, k256]
  refine W.seq (W.seq (W.region ?_))
  simp only [w_mov, w_ibin, w_load1, w_loadN, w_nilCheck, w_indexArr, w_indexSl, w_indexVal, w_indexStr, w_lenStr, w_lenSl, w_store, w_alloc, w_box, w_build, w_sliceArr, w_bytesToStr, w_pick, WOps_nil, thenQ_normal, eX_t, eX_c, put_s, put_n, getset, Nat.reduceEqDiff, if_false, if_true, Option.getD_some, rd, natOf_nn, natOf_by, Option.some.injEq, exists_eq_left', Prod.mk.injEq, and_assoc, exists_and_left, true_and, Nat.zero_add, Nat.add_zero, Nat.mul_one, ble_t, mul_nn, quo_nn, rem_nn, add_nn, sub_nn, lss_nn, eql_nn, neq_nn, xor_by, k0, k1, k2, k3, k4, k5, k6, k7, k8, k12, k13, k14, k15, k16, k32, k60, k254, k256, f1, e32]
  by_cases h8 : s.length = 8
  · have hd : decide (s.length ≠ 8) = false := by simp [h8]
    simp only [hd]
    refine WOps_want ((wantedA_some (d := 10) (b := false) rfl (by simp only [eX_t, eX_c, put_s, put_n, getset, Nat.reduceEqDiff, if_false, if_true, Option.getD_some])).trans rfl) ?_
    simp only [w_mov, w_ibin, w_load1, w_loadN, w_nilCheck, w_indexArr, w_indexSl, w_indexVal, w_indexStr, w_lenStr, w_lenSl, w_store, w_alloc, w_box, w_build, w_sliceArr, w_bytesToStr, w_pick, WOps_nil, thenQ_normal, eX_t, eX_c, put_s, put_n, getset, Nat.reduceEqDiff, if_false, if_true, Option.getD_some, rd, natOf_nn, natOf_by, Option.some.injEq, exists_eq_left', Prod.mk.injEq, and_assoc, exists_and_left, true_and, Nat.zero_add, Nat.add_zero, Nat.mul_one, ble_t, mul_nn, quo_nn, rem_nn, add_nn, sub_nn, lss_nn, eql_nn, neq_nn, xor_by, k0, k1, k2, k3, k4, k5, k6, k7, k8, k12, k13, k14, k15, k16, k32, k60, k254, k256, f1]
    refine WOps_want ((wantedA_some (d := 10) (b := false) rfl (by simp only [eX_t, eX_c, put_s, put_n, getset, Nat.reduceEqDiff, if_false, if_true, Option.getD_some])).trans rfl) ?_
    refine WOps.call (g := 65) (first := []) (captured := []) rfl ?_
    simp only [List.map_nil, List.map_cons, List.nil_append, List.append_nil, eX_t, eX_c, put_s, put_n, getset, Nat.reduceEqDiff, if_false, if_true, Option.getD_some]
    refine prefix_ok hE hx (p := markT) (by rw [h8]; decide) ?_
    refine WOps_want ((wantedA_some (d := 10) (b := false) rfl (by simp only [eX_t, eX_c, put_s, put_n, getset, Nat.reduceEqDiff, if_false, if_true, Option.getD_some])).trans rfl) ?_
    simp only [w_mov, w_ibin, w_load1, w_loadN, w_nilCheck, w_indexArr, w_indexSl, w_indexVal, w_indexStr, w_lenStr, w_lenSl, w_store, w_alloc, w_box, w_build, w_sliceArr, w_bytesToStr, w_pick, WOps_nil, thenQ_normal, eX_t, eX_c, put_s, put_n, getset, Nat.reduceEqDiff, if_false, if_true, Option.getD_some, rd, natOf_nn, natOf_by, Option.some.injEq, exists_eq_left', Prod.mk.injEq, and_assoc, exists_and_left, true_and, Nat.zero_add, Nat.add_zero, Nat.mul_one, ble_t, mul_nn, quo_nn, rem_nn, add_nn, sub_nn, lss_nn, eql_nn, neq_nn, xor_by, k0, k1, k2, k3, k4, k5, k6, k7, k8, k12, k13, k14, k15, k16, k32, k60, k254, k256, w_un, unop, cond_false]
    cases hp : (s.take markT.length == markT) with
    | false =>
      refine W.cond (b := true) (by simp only [eX_t, eX_c, put_s, put_n, getset, Nat.reduceEqDiff, if_false, if_true, Option.getD_some, hp, Bool.not_false]) ?_
      rw [cond_true]
      refine W.seq (W.region ?_)
      simp only [w_mov, w_ibin, w_load1, w_loadN, w_nilCheck, w_indexArr, w_indexSl, w_indexVal, w_indexStr, w_lenStr, w_lenSl, w_store, w_alloc, w_box, w_build, w_sliceArr, w_bytesToStr, w_pick, WOps_nil, thenQ_normal, eX_t, eX_c, put_s, put_n, getset, Nat.reduceEqDiff, if_false, if_true, Option.getD_some, rd, natOf_nn, natOf_by, Option.some.injEq, exists_eq_left', Prod.mk.injEq, and_assoc, exists_and_left, true_and, Nat.zero_add, Nat.add_zero, Nat.mul_one, ble_t, mul_nn, quo_nn, rem_nn, add_nn, sub_nn, lss_nn, eql_nn, neq_nn, xor_by, k0, k1, k2, k3, k4, k5, k6, k7, k8, k12, k13, k14, k15, k16, k32, k60, k254, k256]
      refine W.ret ?_
      simp only [thenQ_ret]
      refine ⟨.inr rfl, ?_⟩
      simp only [resultsOf, resOf, eX_t, eX_c, put_s, put_n, getset, Nat.reduceEqDiff, if_false, if_true, Option.getD_some, Option.some.injEq, exists_eq_left', oneOf]
      have : numT n s = -1 := by
        have hp4 : beqBytes (s.take 4) markT = false := by rw [beqBytes_eq]; exact hp
        simp only [numT, hp4, Bool.and_false, cond_false]
        rfl
      have hq := hQ H fun _ _ => rfl
      rw [this] at hq
      exact hq
    | true =>
      refine W.cond (b := false) (by simp only [eX_t, eX_c, put_s, put_n, getset, Nat.reduceEqDiff, if_false, if_true, Option.getD_some, hp, Bool.not_true]) ?_
      rw [cond_false]
      refine W.skip ?_
      rw [thenQ_normal]
      have hp4 : beqBytes (s.take 4) markT = true := by rw [beqBytes_eq]; exact hp
      have hdl : (s.drop 4).length = 4 := by rw [List.length_drop, h8]
      refine W.seq (W.region ?_)
      simp only [w_mov, w_ibin, w_load1, w_loadN, w_nilCheck, w_indexArr, w_indexSl, w_indexVal, w_indexStr, w_lenStr, w_lenSl, w_store, w_alloc, w_box, w_build, w_sliceArr, w_bytesToStr, w_pick, WOps_nil, thenQ_normal, eX_t, eX_c, put_s, put_n, getset, Nat.reduceEqDiff, if_false, if_true, Option.getD_some, rd, natOf_nn, natOf_by, Option.some.injEq, exists_eq_left', Prod.mk.injEq, and_assoc, exists_and_left, true_and, Nat.zero_add, Nat.add_zero, Nat.mul_one, ble_t, mul_nn, quo_nn, rem_nn, add_nn, sub_nn, lss_nn, eql_nn, neq_nn, xor_by, k0, k1, k2, k3, k4, k5, k6, k7, k8, k12, k13, k14, k15, k16, k32, k60, k254, k256, f1]
      rw [w_sliceStr]
      refine ⟨.str (s.drop 4), ?_, ?_⟩
      · simp only [rd, eX_t, eX_c, put_s, put_n, getset, Nat.reduceEqDiff, if_false, if_true, Option.getD_some]
        rw [bounds_lo (l := 4) rfl (by omega)]
        simp only [List.take_length]
      simp only [put_s]
      refine WOps.call (g := 26) (first := []) (captured := []) rfl ?_
      simp only [List.map_nil, List.map_cons, List.nil_append, List.append_nil, eX_t, eX_c, put_s, put_n, getset, Nat.reduceEqDiff, if_false, if_true, Option.getD_some]
      refine new_ok hE hx ?_
      intro H1 hn1 hd1 hr1 hk1
      rw [hdl] at hr1
      refine WOps.call (g := 27) (first := []) (captured := []) rfl ?_
      simp only [List.map_nil, List.map_cons, List.nil_append, List.append_nil, eX_t, eX_c, put_s, put_n, getset, Nat.reduceEqDiff, if_false, if_true, Option.getD_some, k0, k1, k2, k3, k4, k5, k6, k7, k8, k12, k13, k14, k15, k16, k32, k60, k254, k256]
      refine num_ok hE hx hdl hr1 hd1 ?_
      intro H2 hn2 hk2
      have hv : ofBE (s.drop 4) 0 < 4294967296 := by
        have := ofBE_lt (s.drop 4) 0
        rw [hdl] at this
        exact this
      generalize hV : ofBE (s.drop 4) 0 = V at hv ⊢
      have hbb : b ≠ H.next + 1 := by omega
      have hkk : ∀ j, j < H.next → H2.t.get j = H.t.get j := fun j hj => by rw [hk2 j (by omega), hk1 j hj]
      have load2 : ∀ q, H2.load b q = H.load b q := fun q => by simp only [Heap.load, Heap.cellsAt, hkk b hbn]
      simp only [w_mov, w_ibin, w_load1, w_loadN, w_nilCheck, w_indexArr, w_indexSl, w_indexVal, w_indexStr, w_lenStr, w_lenSl, w_store, w_alloc, w_box, w_build, w_sliceArr, w_bytesToStr, w_pick, WOps_nil, thenQ_normal, eX_t, eX_c, put_s, put_n, getset, Nat.reduceEqDiff, if_false, if_true, Option.getD_some, rd, natOf_nn, natOf_by, Option.some.injEq, exists_eq_left', Prod.mk.injEq, and_assoc, exists_and_left, true_and, Nat.zero_add, Nat.add_zero, Nat.mul_one, ble_t, mul_nn, quo_nn, rem_nn, add_nn, sub_nn, lss_nn, eql_nn, neq_nn, xor_by, k0, k1, k2, k3, k4, k5, k6, k7, k8, k12, k13, k14, k15, k16, k32, k60, k254, k256, w_extract, List.getElem?_cons_zero, List.getElem?_cons_succ]
      refine W.seq (W.seq (W.region ?_))
      simp only [w_mov, w_ibin, w_load1, w_loadN, w_nilCheck, w_indexArr, w_indexSl, w_indexVal, w_indexStr, w_lenStr, w_lenSl, w_store, w_alloc, w_box, w_build, w_sliceArr, w_bytesToStr, w_pick, WOps_nil, thenQ_normal, eX_t, eX_c, put_s, put_n, getset, Nat.reduceEqDiff, if_false, if_true, Option.getD_some, rd, natOf_nn, natOf_by, Option.some.injEq, exists_eq_left', Prod.mk.injEq, and_assoc, exists_and_left, true_and, Nat.zero_add, Nat.add_zero, Nat.mul_one, ble_t, mul_nn, quo_nn, rem_nn, add_nn, sub_nn, lss_nn, eql_nn, neq_nn, xor_by, k0, k1, k2, k3, k4, k5, k6, k7, k8, k12, k13, k14, k15, k16, k32, k60, k254, k256, w_un, unop, Bool.not_true]
      refine WOps_want ((wantedA_some (d := 24) (b := false) rfl (by simp only [eX_t, eX_c, put_s, put_n, getset, Nat.reduceEqDiff, if_false, if_true, Option.getD_some])).trans rfl) ?_
      simp only [w_mov, w_ibin, w_load1, w_loadN, w_nilCheck, w_indexArr, w_indexSl, w_indexVal, w_indexStr, w_lenStr, w_lenSl, w_store, w_alloc, w_box, w_build, w_sliceArr, w_bytesToStr, w_pick, WOps_nil, thenQ_normal, eX_t, eX_c, put_s, put_n, getset, Nat.reduceEqDiff, if_false, if_true, Option.getD_some, rd, natOf_nn, natOf_by, Option.some.injEq, exists_eq_left', Prod.mk.injEq, and_assoc, exists_and_left, true_and, Nat.zero_add, Nat.add_zero, Nat.mul_one, ble_t, mul_nn, quo_nn, rem_nn, add_nn, sub_nn, lss_nn, eql_nn, neq_nn, xor_by, k0, k1, k2, k3, k4, k5, k6, k7, k8, k12, k13, k14, k15, k16, k32, k60, k254, k256]
      refine WOps_want ((wantedA_some (d := 24) (b := false) rfl (by simp only [eX_t, eX_c, put_s, put_n, getset, Nat.reduceEqDiff, if_false, if_true, Option.getD_some])).trans rfl) ?_
      simp only [w_mov, w_ibin, w_load1, w_loadN, w_nilCheck, w_indexArr, w_indexSl, w_indexVal, w_indexStr, w_lenStr, w_lenSl, w_store, w_alloc, w_box, w_build, w_sliceArr, w_bytesToStr, w_pick, WOps_nil, thenQ_normal, eX_t, eX_c, put_s, put_n, getset, Nat.reduceEqDiff, if_false, if_true, Option.getD_some, rd, natOf_nn, natOf_by, Option.some.injEq, exists_eq_left', Prod.mk.injEq, and_assoc, exists_and_left, true_and, Nat.zero_add, Nat.add_zero, Nat.mul_one, ble_t, mul_nn, quo_nn, rem_nn, add_nn, sub_nn, lss_nn, eql_nn, neq_nn, xor_by, k0, k1, k2, k3, k4, k5, k6, k7, k8, k12, k13, k14, k15, k16, k32, k60, k254, k256, f0]
      refine WOps_want ((wantedA_some (d := 24) (b := false) rfl (by simp only [eX_t, eX_c, put_s, put_n, getset, Nat.reduceEqDiff, if_false, if_true, Option.getD_some])).trans rfl) ?_
      refine WOps.call (g := 66) (first := []) (captured := []) rfl ?_
      simp only [List.map_nil, List.map_cons, List.nil_append, List.append_nil, eX_t, eX_c, put_s, put_n, getset, Nat.reduceEqDiff, if_false, if_true, Option.getD_some]
      refine len_ok hE hx (n := n) (m := m) (base := base) (cap := cap) (by rw [load2]; exact hl) (by rw [load2]; exact hm) ?_
      refine WOps_want ((wantedA_some (d := 24) (b := false) rfl (by simp only [eX_t, eX_c, put_s, put_n, getset, Nat.reduceEqDiff, if_false, if_true, Option.getD_some])).trans rfl) ?_
      rw [w_convI]
      refine ⟨_, conv_nu' (n := n) (by simp only [eX_t, eX_c, put_s, put_n, getset, Nat.reduceEqDiff, if_false, if_true, Option.getD_some]) (by omega), ?_⟩
      simp only [put_s]
      refine WOps_want ((wantedA_some (d := 24) (b := false) rfl (by simp only [eX_t, eX_c, put_s, put_n, getset, Nat.reduceEqDiff, if_false, if_true, Option.getD_some])).trans rfl) ?_
      simp only [w_mov, w_ibin, w_load1, w_loadN, w_nilCheck, w_indexArr, w_indexSl, w_indexVal, w_indexStr, w_lenStr, w_lenSl, w_store, w_alloc, w_box, w_build, w_sliceArr, w_bytesToStr, w_pick, WOps_nil, thenQ_normal, eX_t, eX_c, put_s, put_n, getset, Nat.reduceEqDiff, if_false, if_true, Option.getD_some, rd, natOf_nn, natOf_by, Option.some.injEq, exists_eq_left', Prod.mk.injEq, and_assoc, exists_and_left, true_and, Nat.zero_add, Nat.add_zero, Nat.mul_one, ble_t, mul_nn, quo_nn, rem_nn, add_nn, sub_nn, lss_nn, eql_nn, neq_nn, xor_by, k0, k1, k2, k3, k4, k5, k6, k7, k8, k12, k13, k14, k15, k16, k32, k60, k254, k256, geq_nu, cond_false]
      by_cases hc : n ≤ V
      · refine W.cond (b := true) (by simp only [eX_t, eX_c, put_s, put_n, getset, Nat.reduceEqDiff, if_false, if_true, Option.getD_some]; simp [hc]) ?_
        rw [cond_true]
        refine W.seq (W.region ?_)
        simp only [w_mov, w_ibin, w_load1, w_loadN, w_nilCheck, w_indexArr, w_indexSl, w_indexVal, w_indexStr, w_lenStr, w_lenSl, w_store, w_alloc, w_box, w_build, w_sliceArr, w_bytesToStr, w_pick, WOps_nil, thenQ_normal, eX_t, eX_c, put_s, put_n, getset, Nat.reduceEqDiff, if_false, if_true, Option.getD_some, rd, natOf_nn, natOf_by, Option.some.injEq, exists_eq_left', Prod.mk.injEq, and_assoc, exists_and_left, true_and, Nat.zero_add, Nat.add_zero, Nat.mul_one, ble_t, mul_nn, quo_nn, rem_nn, add_nn, sub_nn, lss_nn, eql_nn, neq_nn, xor_by, k0, k1, k2, k3, k4, k5, k6, k7, k8, k12, k13, k14, k15, k16, k32, k60, k254, k256]
        refine W.ret ?_
        simp only [thenQ_ret]
        refine ⟨.inr rfl, ?_⟩
        simp only [resultsOf, resOf, eX_t, eX_c, put_s, put_n, getset, Nat.reduceEqDiff, if_false, if_true, Option.getD_some, Option.some.injEq, exists_eq_left', oneOf]
        have : numT n s = -1 := by
          have h8' : Nat.beq s.length 8 = true := by rw [h8]; rfl
          simp only [numT, hp4, h8', Bool.and_self, cond_true, hV, Nat.ble_eq.mpr hc]
          rfl
        have hq := hQ H2 hkk
        rw [this] at hq
        exact hq
      · refine W.cond (b := false) (by simp only [eX_t, eX_c, put_s, put_n, getset, Nat.reduceEqDiff, if_false, if_true, Option.getD_some]; simp [hc]) ?_
        rw [cond_false]
        refine W.skip ?_
        rw [thenQ_normal]
        refine W.seq (W.region ?_)
        simp only [w_mov, w_ibin, w_load1, w_loadN, w_nilCheck, w_indexArr, w_indexSl, w_indexVal, w_indexStr, w_lenStr, w_lenSl, w_store, w_alloc, w_box, w_build, w_sliceArr, w_bytesToStr, w_pick, WOps_nil, thenQ_normal, eX_t, eX_c, put_s, put_n, getset, Nat.reduceEqDiff, if_false, if_true, Option.getD_some, rd, natOf_nn, natOf_by, Option.some.injEq, exists_eq_left', Prod.mk.injEq, and_assoc, exists_and_left, true_and, Nat.zero_add, Nat.add_zero, Nat.mul_one, ble_t, mul_nn, quo_nn, rem_nn, add_nn, sub_nn, lss_nn, eql_nn, neq_nn, xor_by, k0, k1, k2, k3, k4, k5, k6, k7, k8, k12, k13, k14, k15, k16, k32, k60, k254, k256]
        rw [w_convI]
        refine ⟨_, conv_un (n := V) (by simp only [eX_t, eX_c, put_s, put_n, getset, Nat.reduceEqDiff, if_false, if_true, Option.getD_some]) (by omega), ?_⟩
        simp only [w_mov, w_ibin, w_load1, w_loadN, w_nilCheck, w_indexArr, w_indexSl, w_indexVal, w_indexStr, w_lenStr, w_lenSl, w_store, w_alloc, w_box, w_build, w_sliceArr, w_bytesToStr, w_pick, WOps_nil, thenQ_normal, eX_t, eX_c, put_s, put_n, getset, Nat.reduceEqDiff, if_false, if_true, Option.getD_some, rd, natOf_nn, natOf_by, Option.some.injEq, exists_eq_left', Prod.mk.injEq, and_assoc, exists_and_left, true_and, Nat.zero_add, Nat.add_zero, Nat.mul_one, ble_t, mul_nn, quo_nn, rem_nn, add_nn, sub_nn, lss_nn, eql_nn, neq_nn, xor_by, k0, k1, k2, k3, k4, k5, k6, k7, k8, k12, k13, k14, k15, k16, k32, k60, k254, k256]
        refine W.ret ⟨.inr rfl, ?_⟩
        simp only [resultsOf, resOf, eX_t, eX_c, put_s, put_n, getset, Nat.reduceEqDiff, if_false, if_true, Option.getD_some, Option.some.injEq, exists_eq_left', oneOf]
        have : numT n s = .ofNat V := by
          have h8' : Nat.beq s.length 8 = true := by rw [h8]; rfl
          have hcb : Nat.ble n V = false := by cases hh : Nat.ble n V with | false => rfl | true => exact absurd (Nat.ble_eq.mp hh) hc
          simp only [numT, hp4, h8', Bool.and_self, cond_true, hV, hcb, cond_false]
        have hq := hQ H2 hkk
        rw [this] at hq
        exact hq
  · have hd : decide (s.length ≠ 8) = true := by simp [h8]
    simp only [hd]
    refine WOps_skip ((wantedA_some (d := 10) (b := true) rfl (by simp only [eX_t, eX_c, put_s, put_n, getset, Nat.reduceEqDiff, if_false, if_true, Option.getD_some])).trans rfl) ?_
    refine WOps_skip ((wantedA_some (d := 10) (b := true) rfl (by simp only [eX_t, eX_c, put_s, put_n, getset, Nat.reduceEqDiff, if_false, if_true, Option.getD_some])).trans rfl) ?_
    refine WOps_skip ((wantedA_some (d := 10) (b := true) rfl (by simp only [eX_t, eX_c, put_s, put_n, getset, Nat.reduceEqDiff, if_false, if_true, Option.getD_some])).trans rfl) ?_
    simp only [w_mov, w_ibin, w_load1, w_loadN, w_nilCheck, w_indexArr, w_indexSl, w_indexVal, w_indexStr, w_lenStr, w_lenSl, w_store, w_alloc, w_box, w_build, w_sliceArr, w_bytesToStr, w_pick, WOps_nil, thenQ_normal, eX_t, eX_c, put_s, put_n, getset, Nat.reduceEqDiff, if_false, if_true, Option.getD_some, rd, natOf_nn, natOf_by, Option.some.injEq, exists_eq_left', Prod.mk.injEq, and_assoc, exists_and_left, true_and, Nat.zero_add, Nat.add_zero, Nat.mul_one, ble_t, mul_nn, quo_nn, rem_nn, add_nn, sub_nn, lss_nn, eql_nn, neq_nn, xor_by, k0, k1, k2, k3, k4, k5, k6, k7, k8, k12, k13, k14, k15, k16, k32, k60, k254, k256, cond_true]
    refine W.cond (b := true) (by simp only [eX_t, eX_c, put_s, put_n, getset, Nat.reduceEqDiff, if_false, if_true, Option.getD_some]) ?_
    rw [cond_true]
    refine W.seq (W.region ?_)
    simp only [w_mov, w_ibin, w_load1, w_loadN, w_nilCheck, w_indexArr, w_indexSl, w_indexVal, w_indexStr, w_lenStr, w_lenSl, w_store, w_alloc, w_box, w_build, w_sliceArr, w_bytesToStr, w_pick, WOps_nil, thenQ_normal, eX_t, eX_c, put_s, put_n, getset, Nat.reduceEqDiff, if_false, if_true, Option.getD_some, rd, natOf_nn, natOf_by, Option.some.injEq, exists_eq_left', Prod.mk.injEq, and_assoc, exists_and_left, true_and, Nat.zero_add, Nat.add_zero, Nat.mul_one, ble_t, mul_nn, quo_nn, rem_nn, add_nn, sub_nn, lss_nn, eql_nn, neq_nn, xor_by, k0, k1, k2, k3, k4, k5, k6, k7, k8, k12, k13, k14, k15, k16, k32, k60, k254, k256]
    refine W.ret ?_
    simp only [thenQ_ret]
    refine ⟨.inr rfl, ?_⟩
    simp only [resultsOf, resOf, eX_t, eX_c, put_s, put_n, getset, Nat.reduceEqDiff, if_false, if_true, Option.getD_some, Option.some.injEq, exists_eq_left', oneOf]
    have : numT n s = -1 := by
      have h8' : Nat.beq s.length 8 = false := by cases hh : Nat.beq s.length 8 with | false => rfl | true => exact absurd (Nat.eq_of_beq_eq_true hh) h8
      simp only [numT, h8', Bool.false_and, cond_false]
      rfl
    have hq := hQ H fun _ _ => rfl
    rw [this] at hq
    exact hq
end Go.AE
end
-- Contracts of wire: PutNumber of any number of bytes.
section
set_option linter.unusedVariables false
set_option linter.unusedSimpArgs false
set_option maxRecDepth 100000
set_option maxHeartbeats 1000000
noncomputable section
namespace Go.AE
variable {E : Env}

theorem conv_nu {a : Frm} {H : Heap} {x : AX} {n : Nat} (h : evalX a x = nu n) : rd (.convInt .u8 x) a H = some (by' (UInt8.ofNat n)) := by
  simp only [rd, h, nu, by']
  refine congrArg (fun z => some (AV.int .u8 z)) ?_
  simp only [wrapK]
  have e : (UInt8.ofNat n).toNat = n % 256 := by simp
  rw [e]
  by_cases h : n < 256
  · have : fits .u8 (.ofNat n) = true := by
      simp only [fits, lo, hi, Bool.and_eq_true]
      constructor
      · show Nat.ble 0 n = true
        rw [Nat.ble_eq]; omega
      · show Nat.ble n 255 = true
        rw [Nat.ble_eq]; omega
    simp only [this, cond_true]
    rw [Nat.mod_eq_of_lt h]
  · have : fits .u8 (.ofNat n) = false := by
      simp only [fits, lo, hi, Bool.and_eq_false_iff]
      right
      show Nat.ble n 255 = false
      rw [Bool.eq_false_iff, Ne, Nat.ble_eq]; omega
    simp only [this, cond_false]
    rfl
theorem w_append {all os : List AOper} {dst : Option Nat} {el : TypeId} {n m : Nat} {x y : AX} {a : Frm} {H : Heap} {Q : Frm → Heap → Prop} :
    WOps E all (⟨dst, .append el n m x y, none⟩ :: os) a H Q ↔ ∃ v H', wr0 (.append el n m x y) a H = some (v, H') ∧ WOps E all os (put a dst v) H' Q := WOps_wr rfl rfl
theorem w_build1 {all os : List AOper} {dst : Option Nat} {x : AX} {a : Frm} {H : Heap} {Q : Frm → Heap → Prop} {b : UInt8} (hx : evalX a x = by' b)
    (h : WOps E all os (put a dst (.slice (some (H.next, 0)) 1 (.known 1))) (H.push (.cells (bs [b]) 5 false false)) Q) : WOps E all (⟨dst, .buildSlice 5 [.int .u8 0] 1 [(0, (1, x))], none⟩ :: os) a H Q := by
  rw [WOps_al rfl]
  refine ⟨.cells (bs [b]) 5 false false, fun i => .slice (some (i, 0)) 1 (.known 1), ?_, h⟩
  simp only [al, List.map_cons, List.map_nil, hx]
  rfl

theorem app1 {T0 : T ABlk} {nx b L y : Nat} {O : List UInt8} {x : UInt8} {cap : ACap} {e : TypeId} {op ro : Bool} (hO : O.length = L) (hb : T0.get b = some (.cells (bs O) 5 true false)) (hy : T0.get y = some (.cells (bs [x]) e op ro)) (hL : L < 1000000000000) :
    ∃ T1, appendA 5 1 1 ⟨T0, nx⟩ (.slice (some (b, 0)) L (.unk 1)) (.slice (some (y, 0)) 1 cap) = some (.slice (some (nx, 0)) (L + 1) (.unk 1), ⟨T1, nx + 1⟩) ∧ T1.get nx = some (.cells (bs (O ++ [x])) 5 true false) ∧ ∀ j, j ≠ nx → j ≠ b → T1.get j = T0.get j := by
  have ey : Heap.loadN ⟨T0, nx⟩ y 0 ((0 + 1) * 1) = some (bs [x]) := loadN_bs hy rfl
  have e1 : Nat.ble ((L + 1) * 1) 140737488355328 = true := Nat.ble_eq.mpr (by omega)
  have eg : grab (L * 1) 0 (bs O) = some (bs O) := by rw [Nat.mul_one]; exact grab_bs hO
  have el : Nat.beq ((bs O).length + (bs [x]).length) ((L + 1) * 1) = true := by rw [length_bs, length_bs, hO, Nat.mul_one]; exact Nat.beq_refl _
  refine ⟨(T0.del b).set nx (.cells (bs (O ++ [x])) 5 true false), ?_, by rw [getset, if_pos rfl], fun j h1 h2 => by rw [getset, if_neg (Ne.symm h1), T.get_del, if_neg (Ne.symm h2)]⟩
  have ea : (bs [x]).all AV.atom = true := rfl
  have e11 : Nat.beq 1 1 = true := rfl
  have e10 : Nat.beq 1 0 = false := rfl
  have e55 : Nat.beq 5 5 = true := rfl
  simp only [appendA, lenOfA, e10, cond_false, e1, Bool.not_true, Bool.or_self, source, ey, e11, ea, Bool.and_self, cond_true, hb, eg, el, e55, bs_append]

def pnMain : ACode := (.block 0 (.loop (.seq (.seq (.region [(AOper.mk (some 15) (.mov (.tmp 8)) none), (AOper.mk (some 16) (.ibin .geq (.tmp 15) (.const (.int .i64 0))) none)]) (.cond (.tmp 16) .skip (.exit 0))) (.seq (.block 1 (.region [(AOper.mk (some 19) (.mov (.tmp 7)) none), (AOper.mk (some 20) (.mov (.tmp 2)) none), (AOper.mk (some 21) (.mov (.tmp 8)) none), (AOper.mk (some 22) (.ibin .mul (.const (.int .i64 8)) (.tmp 21)) none), (AOper.mk (some 23) (.ibin .shr (.tmp 20) (.tmp 22)) none), (AOper.mk (some 24) (.convInt .u8 (.tmp 23)) none), (AOper.mk (some 25) (.buildSlice 5 [(.int .u8 0)] 1 [(0, (1, (.tmp 24)))]) none), (AOper.mk (some 26) (.append 5 1 1 (.tmp 19) (.tmp 25)) none), (AOper.mk (some 7) (.mov (.tmp 26)) none)])) (.region [(AOper.mk (some 17) (.mov (.tmp 8)) none), (AOper.mk (some 18) (.ibin .sub (.tmp 17) (.const (.int .i64 1))) none), (AOper.mk (some 8) (.mov (.tmp 18)) none)])))))

/-- the counter of the loop -/
def dn (n i : Nat) : AV := bif Nat.ble (i + 1) n then nn (n - 1 - i) else .int .i64 (-1)

/-- the number's bytes, so many of n, the highest first -/
def beK (n v : Nat) : Nat → List UInt8
  | 0 => []
  | i + 1 => beK n v i ++ [UInt8.ofNat (v / 2 ^ (8 * (n - 1 - i)))]
theorem length_beK (n v : Nat) : ∀ i, (beK n v i).length = i
  | 0 => rfl
  | i + 1 => by rw [beK, List.length_append, length_beK n v i]; rfl

theorem pn_main {a : Frm} {H : Heap} {N : List UInt8} {n v b L : Nat} (h2 : a.get 2 = some (nu v)) (h7 : a.get 7 = some (.slice (some (b, 0)) L (.unk 1))) (h8 : a.get 8 = some (nn (n - 1))) (hbn : b < H.next) (hN : N.length = L) (hL : L < 100000000000) (hn1 : 1 ≤ n) (hn8 : n ≤ 8)
    (hb : H.t.get b = some (.cells (bs N) 5 true false)) {Q : AExit → Frm → Heap → Prop}
    (hQ : ∀ a' H' b', a'.get 7 = some (.slice (some (b', 0)) (L + n) (.unk 1)) → H.next ≤ H'.next → H'.t.get b' = some (.cells (bs (N ++ beK n v n)) 5 true false) → (∀ j, j < H.next → j ≠ b → H'.t.get j = H.t.get j) → Q .normal a' H') :
    W E pnMain a H Q := by
  refine W.block ?_
  have hdn0 : nn (n - 1) = dn n 0 := by
    have : Nat.ble (0 + 1) n = true := Nat.ble_eq.mpr hn1
    simp only [dn, this, cond_true, Nat.sub_zero]
  rw [hdn0] at h8
  refine W.count n (fun i a' H' => H.next ≤ H'.next ∧ (∃ b', a'.get 7 = some (.slice (some (b', 0)) (L + i) (.unk 1)) ∧ (b' = b ∨ H.next ≤ b') ∧ b' < H'.next ∧ H'.t.get b' = some (.cells (bs (N ++ beK n v i)) 5 true false)) ∧ (∀ j, j < H.next → j ≠ b → H'.t.get j = H.t.get j) ∧ a'.get 2 = a.get 2 ∧ a'.get 8 = some (dn n i)) ?_ ?_ 0 _ H (by omega) ?_
  · intro i a1 H1 hi ⟨hn, ⟨b1, g7, hb1, hb1n, hbb⟩, hk, g2, g8⟩
    rw [h2] at g2
    have d1 : dn n i = nn (n - 1 - i) := by
      have : Nat.ble (i + 1) n = true := Nat.ble_eq.mpr hi
      simp only [dn, this, cond_true]
    have d2 : ibin .sub (nn (n - 1 - i)) (nn 1) = some (dn n (i + 1)) := by
      by_cases h : i + 1 < n
      · have e : Nat.ble (i + 1 + 1) n = true := Nat.ble_eq.mpr h
        rw [sub_nn (by omega) (by omega)]
        simp only [dn, e, cond_true]
        rfl
      · have e : Nat.ble (i + 1 + 1) n = false := by rw [Bool.eq_false_iff, Ne, Nat.ble_eq]; omega
        have e0 : n - 1 - i = 0 := by omega
        rw [e0]
        simp only [dn, e, cond_false]
        rfl
    refine W.seq (W.seq (W.region ?_))
    simp only [w_mov, w_ibin, w_load1, w_loadN, w_nilCheck, w_indexArr, w_indexSl, w_indexVal, w_indexStr, w_lenStr, w_lenSl, w_store, w_alloc, w_box, w_build, w_sliceArr, w_bytesToStr, w_pick, WOps_nil, thenQ_normal, eX_t, eX_c, put_s, put_n, getset, Nat.reduceEqDiff, if_false, if_true, Option.getD_some, rd, natOf_nn, natOf_by, Option.some.injEq, exists_eq_left', Prod.mk.injEq, and_assoc, exists_and_left, true_and, Nat.zero_add, Nat.add_zero, Nat.mul_one, ble_t, mul_nn, quo_nn, rem_nn, add_nn, sub_nn, lss_nn, eql_nn, neq_nn, xor_by, k0, k1, k2, k3, k4, k5, k6, k7, k8, k12, k13, k14, k15, k16, k32, k60, k254, k256, g8, d1, geq_nn]
    refine W.cond (b := true) (by simp only [eX_t, eX_c, put_s, put_n, getset, Nat.reduceEqDiff, if_false, if_true, Option.getD_some]; simp) (W.skip ?_)
    rw [thenQ_normal]
    refine W.seq (W.block (W.region ?_))
    simp (disch := omega) only [w_mov, w_ibin, w_load1, w_loadN, w_nilCheck, w_indexArr, w_indexSl, w_indexVal, w_indexStr, w_lenStr, w_lenSl, w_store, w_alloc, w_box, w_build, w_sliceArr, w_bytesToStr, w_pick, WOps_nil, thenQ_normal, eX_t, eX_c, put_s, put_n, getset, Nat.reduceEqDiff, if_false, if_true, Option.getD_some, rd, natOf_nn, natOf_by, Option.some.injEq, exists_eq_left', Prod.mk.injEq, and_assoc, exists_and_left, true_and, Nat.zero_add, Nat.add_zero, Nat.mul_one, ble_t, mul_nn, quo_nn, rem_nn, add_nn, sub_nn, lss_nn, eql_nn, neq_nn, xor_by, k0, k1, k2, k3, k4, k5, k6, k7, k8, k12, k13, k14, k15, k16, k32, k60, k254, k256, g2, g7, g8, d1, shr_uu]
    rw [w_convI]
    refine ⟨_, conv_nu (n := v / 2 ^ (8 * (n - 1 - i))) (by simp only [eX_t, eX_c, put_s, put_n, getset, Nat.reduceEqDiff, if_false, if_true, Option.getD_some]), ?_⟩
    simp only [put_s]
    refine w_build1 (b := UInt8.ofNat (v / 2 ^ (8 * (n - 1 - i)))) (by simp only [eX_t, eX_c, put_s, put_n, getset, Nat.reduceEqDiff, if_false, if_true, Option.getD_some]) ?_
    have hp := get_push H1 (.cells (bs [UInt8.ofNat (v / 2 ^ (8 * (n - 1 - i)))]) 5 false false)
    have hpn := next_push H1 (.cells (bs [UInt8.ofNat (v / 2 ^ (8 * (n - 1 - i)))]) 5 false false)
    generalize H1.push (.cells (bs [UInt8.ofNat (v / 2 ^ (8 * (n - 1 - i)))]) 5 false false) = H2 at hp hpn ⊢
    obtain ⟨T2, n2⟩ := H2
    simp only at hp hpn
    obtain ⟨T3, ha, hn3, hk3⟩ := app1 (nx := n2) (b := b1) (L := L + i) (y := H1.next) (T0 := T2) (cap := .known 1) (x := UInt8.ofNat (v / 2 ^ (8 * (n - 1 - i)))) (e := 5) (op := false) (ro := false) (O := N ++ beK n v i) (by rw [List.length_append, length_beK, hN]) (by rw [hp, if_neg (by omega)]; exact hbb) (by rw [hp, if_pos rfl]) (by omega)
    simp only [put_s]
    rw [w_append]
    refine ⟨_, _, by simp only [wr0, wr, eX_t, eX_c, put_s, put_n, getset, Nat.reduceEqDiff, if_false, if_true, Option.getD_some]; exact ha, ?_⟩
    simp only [w_mov, w_ibin, w_load1, w_loadN, w_nilCheck, w_indexArr, w_indexSl, w_indexVal, w_indexStr, w_lenStr, w_lenSl, w_store, w_alloc, w_box, w_build, w_sliceArr, w_bytesToStr, w_pick, WOps_nil, thenQ_normal, eX_t, eX_c, put_s, put_n, getset, Nat.reduceEqDiff, if_false, if_true, Option.getD_some, blockQ_normal, thenQ_normal]
    refine W.region ?_
    simp only [w_mov, w_ibin, w_load1, w_loadN, w_nilCheck, w_indexArr, w_indexSl, w_indexVal, w_indexStr, w_lenStr, w_lenSl, w_store, w_alloc, w_box, w_build, w_sliceArr, w_bytesToStr, w_pick, WOps_nil, thenQ_normal, eX_t, eX_c, put_s, put_n, getset, Nat.reduceEqDiff, if_false, if_true, Option.getD_some, rd, natOf_nn, natOf_by, Option.some.injEq, exists_eq_left', Prod.mk.injEq, and_assoc, exists_and_left, true_and, Nat.zero_add, Nat.add_zero, Nat.mul_one, ble_t, mul_nn, quo_nn, rem_nn, add_nn, sub_nn, lss_nn, eql_nn, neq_nn, xor_by, k0, k1, k2, k3, k4, k5, k6, k7, k8, k12, k13, k14, k15, k16, k32, k60, k254, k256, g8, d1, d2]
    refine ⟨by omega, ⟨n2, rfl, by omega, by omega, by rw [beK, ← List.append_assoc]; exact hn3⟩, ?_, by rw [h2]; exact g2, trivial⟩
    intro j hj hjb
    rw [hk3 j (by omega) (by omega), hp, if_neg (by omega), hk j hj hjb]
  · intro a1 H1 ⟨hn, ⟨b1, g7, hb1, hb1n, hbb⟩, hk, g2, g8⟩
    refine W.seq (W.seq (W.region ?_))
    have d0 : dn n n = .int .i64 (-1) := by
      have e : Nat.ble (n + 1) n = false := by rw [Bool.eq_false_iff, Ne, Nat.ble_eq]; omega
      simp only [dn, e, cond_false]
    have d3 : ibin .geq (.int .i64 (-1)) (nn 0) = some (.bool false) := rfl
    simp only [w_mov, w_ibin, w_load1, w_loadN, w_nilCheck, w_indexArr, w_indexSl, w_indexVal, w_indexStr, w_lenStr, w_lenSl, w_store, w_alloc, w_box, w_build, w_sliceArr, w_bytesToStr, w_pick, WOps_nil, thenQ_normal, eX_t, eX_c, put_s, put_n, getset, Nat.reduceEqDiff, if_false, if_true, Option.getD_some, rd, natOf_nn, natOf_by, Option.some.injEq, exists_eq_left', Prod.mk.injEq, and_assoc, exists_and_left, true_and, Nat.zero_add, Nat.add_zero, Nat.mul_one, ble_t, mul_nn, quo_nn, rem_nn, add_nn, sub_nn, lss_nn, eql_nn, neq_nn, xor_by, k0, k1, k2, k3, k4, k5, k6, k7, k8, k12, k13, k14, k15, k16, k32, k60, k254, k256, g8, d0, d3]
    refine W.cond (b := false) (by simp only [eX_t, eX_c, put_s, put_n, getset, Nat.reduceEqDiff, if_false, if_true, Option.getD_some]) (W.exit ?_)
    refine ⟨nofun, ?_⟩
    simp only [blockQ_exit, Nat.beq_refl, cond_true]
    exact hQ _ _ b1 (by simp only [getset, Nat.reduceEqDiff, if_false]; exact g7) hn hbb hk
  · exact ⟨Nat.le_refl _, ⟨b, h7, .inl rfl, hbn, by simpa [beK] using hb⟩, fun _ _ _ => rfl, rfl, h8⟩

theorem put_ok (hE : ∀ f, E.funcs f = Shk.funcsT.get f) (hx : ∀ f args H, plainF f = true → E.sums f args H = none) {H : Heap} {N : List UInt8} {n v : Nat} (hL : N.length < 100000000000) (hn1 : 1 ≤ n) (hn8 : n ≤ 8) {Q : AV → Heap → Prop}
    (hQ : ∀ H', H.next ≤ H'.next → (∀ j, j < H.next → H'.t.get j = H.t.get j) → Q (.str (N ++ beK n v n)) H') : WCall E 23 [.str N, nn n, nu v] H Q := by
  refine WCall.func (hx 23 _ _ rfl) ((hE 23).trans rfl) ?_
  have f0 : (frameOf [.str N, nn n, nu v] 0 .nil).get 0 = some (.str N) := rfl
  have f1 : (frameOf [.str N, nn n, nu v] 0 .nil).get 1 = some (nn n) := rfl
  have f2 : (frameOf [.str N, nn n, nu v] 0 .nil).get 2 = some (nu v) := rfl
  generalize frameOf [.str N, nn n, nu v] 0 .nil = a at f0 f1 f2
  refine W.seq (W.region ?_)
  simp only [w_mov, w_ibin, w_load1, w_loadN, w_nilCheck, w_indexArr, w_indexSl, w_indexVal, w_indexStr, w_lenStr, w_lenSl, w_store, w_alloc, w_box, w_build, w_sliceArr, w_bytesToStr, w_pick, WOps_nil, thenQ_normal, eX_t, eX_c, put_s, put_n, getset, Nat.reduceEqDiff, if_false, if_true, Option.getD_some, rd, natOf_nn, natOf_by, Option.some.injEq, exists_eq_left', Prod.mk.injEq, and_assoc, exists_and_left, true_and, Nat.zero_add, Nat.add_zero, Nat.mul_one, ble_t, mul_nn, quo_nn, rem_nn, add_nn, sub_nn, lss_nn, eql_nn, neq_nn, xor_by, k0, k1, k2, k3, k4, k5, k6, k7, k8, k12, k13, k14, k15, k16, k32, k60, k254, k256]
  refine W.seq (W.region ?_)
  simp only [w_mov, w_ibin, w_load1, w_loadN, w_nilCheck, w_indexArr, w_indexSl, w_indexVal, w_indexStr, w_lenStr, w_lenSl, w_store, w_alloc, w_box, w_build, w_sliceArr, w_bytesToStr, w_pick, WOps_nil, thenQ_normal, eX_t, eX_c, put_s, put_n, getset, Nat.reduceEqDiff, if_false, if_true, Option.getD_some, rd, natOf_nn, natOf_by, Option.some.injEq, exists_eq_left', Prod.mk.injEq, and_assoc, exists_and_left, true_and, Nat.zero_add, Nat.add_zero, Nat.mul_one, ble_t, mul_nn, quo_nn, rem_nn, add_nn, sub_nn, lss_nn, eql_nn, neq_nn, xor_by, k0, k1, k2, k3, k4, k5, k6, k7, k8, k12, k13, k14, k15, k16, k32, k60, k254, k256, f0]
  refine w_strToBytes (S := N) (by simp only [eX_t, eX_c, put_s, put_n, getset, Nat.reduceEqDiff, if_false, if_true, Option.getD_some]) ?_
  have hp := get_push H (.cells (bs N) 5 true false)
  have hpn := next_push H (.cells (bs N) 5 true false)
  generalize H.push (.cells (bs N) 5 true false) = H2 at hp hpn ⊢
  simp only [w_mov, w_ibin, w_load1, w_loadN, w_nilCheck, w_indexArr, w_indexSl, w_indexVal, w_indexStr, w_lenStr, w_lenSl, w_store, w_alloc, w_box, w_build, w_sliceArr, w_bytesToStr, w_pick, WOps_nil, thenQ_normal, eX_t, eX_c, put_s, put_n, getset, Nat.reduceEqDiff, if_false, if_true, Option.getD_some, rd, natOf_nn, natOf_by, Option.some.injEq, exists_eq_left', Prod.mk.injEq, and_assoc, exists_and_left, true_and, Nat.zero_add, Nat.add_zero, Nat.mul_one, ble_t, mul_nn, quo_nn, rem_nn, add_nn, sub_nn, lss_nn, eql_nn, neq_nn, xor_by, k0, k1, k2, k3, k4, k5, k6, k7, k8, k12, k13, k14, k15, k16, k32, k60, k254, k256]
  have m1 : minI2 (nn n) [nn 8] = some (nn n) := by rw [min_nn, Nat.min_eq_left hn8]
  have m2 : ∀ a H, rd (.maxI [.tmp 11, .const (nn 1)]) ((a : Frm).set 11 (nn n)) H = some (nn n) := by
    intro a H
    obtain rfl | rfl | rfl | rfl | rfl | rfl | rfl | rfl : n = 1 ∨ n = 2 ∨ n = 3 ∨ n = 4 ∨ n = 5 ∨ n = 6 ∨ n = 7 ∨ n = 8 := by omega
    all_goals (simp only [rd, List.map_cons, List.map_nil, eX_t, eX_c, put_s, put_n, getset, Nat.reduceEqDiff, if_false, if_true, Option.getD_some]; rfl)
  have m3 : ∀ a H, rd (.minI [.tmp 12, .const (nn 8)]) ((a : Frm).set 12 (nn n)) H = some (nn n) := by
    intro a H
    obtain rfl | rfl | rfl | rfl | rfl | rfl | rfl | rfl : n = 1 ∨ n = 2 ∨ n = 3 ∨ n = 4 ∨ n = 5 ∨ n = 6 ∨ n = 7 ∨ n = 8 := by omega
    all_goals (simp only [rd, List.map_cons, List.map_nil, eX_t, eX_c, put_s, put_n, getset, Nat.reduceEqDiff, if_false, if_true, Option.getD_some]; rfl)
  refine W.seq (W.seq (W.region ?_))
  simp only [w_mov, eX_t, eX_c, put_s, put_n, getset, Nat.reduceEqDiff, if_false, if_true, Option.getD_some, k0, k1, k2, k3, k4, k5, k6, k7, k8, k12, k13, k14, k15, k16, k32, k60, k254, k256, f1]
  rw [w_maxI]
  refine ⟨nn n, m2 _ _, ?_⟩
  simp only [put_s]
  rw [w_minI]
  refine ⟨nn n, m3 _ _, ?_⟩
  have d : ibin .sub (nn n) (nn 1) = some (nn (n - 1)) := sub_nn hn1 (by omega)
  simp only [w_mov, w_ibin, w_load1, w_loadN, w_nilCheck, w_indexArr, w_indexSl, w_indexVal, w_indexStr, w_lenStr, w_lenSl, w_store, w_alloc, w_box, w_build, w_sliceArr, w_bytesToStr, w_pick, WOps_nil, thenQ_normal, eX_t, eX_c, put_s, put_n, getset, Nat.reduceEqDiff, if_false, if_true, Option.getD_some, rd, natOf_nn, natOf_by, Option.some.injEq, exists_eq_left', Prod.mk.injEq, and_assoc, exists_and_left, true_and, Nat.zero_add, Nat.add_zero, Nat.mul_one, ble_t, mul_nn, quo_nn, rem_nn, add_nn, sub_nn, lss_nn, eql_nn, neq_nn, xor_by, k0, k1, k2, k3, k4, k5, k6, k7, k8, k12, k13, k14, k15, k16, k32, k60, k254, k256, d]
  refine pn_main (N := N) (n := n) (v := v) (L := N.length) (b := H.next) (by simp only [eX_t, eX_c, put_s, put_n, getset, Nat.reduceEqDiff, if_false, if_true, Option.getD_some]; exact f2) (by simp only [eX_t, eX_c, put_s, put_n, getset, Nat.reduceEqDiff, if_false, if_true, Option.getD_some]) (by simp only [eX_t, eX_c, put_s, put_n, getset, Nat.reduceEqDiff, if_false, if_true, Option.getD_some]) (by omega) rfl hL hn1 hn8 (by rw [hp, if_pos rfl]) ?_
  intro a3 H3 b3 q7 hn3 hb3 hk3
  obtain ⟨T3, n3⟩ := H3
  simp only at hn3 hb3 hk3
  simp only [thenQ_normal]
  refine W.seq (W.region ?_)
  simp only [w_mov, eX_t, eX_c, put_s, put_n, getset, Nat.reduceEqDiff, if_false, if_true, Option.getD_some, q7]
  rw [w_bytesToStr]
  refine ⟨_, toStr (b := b3) (L := N.length + n) (cap := .unk 1) (S := N ++ beK n v n) (by simp only [eX_t, eX_c, put_s, put_n, getset, Nat.reduceEqDiff, if_false, if_true, Option.getD_some]) (by rw [List.length_append, length_beK]) hb3, ?_⟩
  simp only [w_mov, w_ibin, w_load1, w_loadN, w_nilCheck, w_indexArr, w_indexSl, w_indexVal, w_indexStr, w_lenStr, w_lenSl, w_store, w_alloc, w_box, w_build, w_sliceArr, w_bytesToStr, w_pick, WOps_nil, thenQ_normal, eX_t, eX_c, put_s, put_n, getset, Nat.reduceEqDiff, if_false, if_true, Option.getD_some, rd, natOf_nn, natOf_by, Option.some.injEq, exists_eq_left', Prod.mk.injEq, and_assoc, exists_and_left, true_and, Nat.zero_add, Nat.add_zero, Nat.mul_one, ble_t, mul_nn, quo_nn, rem_nn, add_nn, sub_nn, lss_nn, eql_nn, neq_nn, xor_by, k0, k1, k2, k3, k4, k5, k6, k7, k8, k12, k13, k14, k15, k16, k32, k60, k254, k256]
  refine W.ret ⟨.inr rfl, ?_⟩
  simp only [resultsOf, resOf, eX_t, eX_c, put_s, put_n, getset, Nat.reduceEqDiff, if_false, if_true, Option.getD_some, Option.some.injEq, exists_eq_left', oneOf]
  refine hQ ⟨T3, n3⟩ (by show H.next ≤ n3; omega) fun j hj => ?_
  show T3.get j = _
  rw [hk3 _ (by omega) (by omega), hp, if_neg (by omega)]
end Go.AE
end
