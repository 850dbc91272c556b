/- Contracts of aes: keys, Block. -/
import Derived.Test.YtdpnbpocjdooeaaLawsA
set_option linter.unusedVariables false
set_option linter.unusedSimpArgs false
section
set_option linter.unusedVariables false
set_option linter.unusedSimpArgs false
set_option maxRecDepth 100000
set_option maxHeartbeats 600000
namespace Go.AE
variable {E : Env}
attribute [local irreducible] setK boxK lastK wordsP roundsP encP

/-- the words of all rounds -/
def keysP (K : List UInt8) : List UInt8 := (wordsP K 52).1
theorem length_keysP (K : List UInt8) : (keysP K).length = 240 := length_wordsP K 52

theorem k32' : AV.int .i64 32 = nn 32 := rfl

theorem keys_ok (hE : ∀ f, E.funcs f = Aes.funcsT.get f) (hx : ∀ f args H, special f = false → E.sums f args H = none) {H : Heap} {K : List UInt8} (hK : K.length = 32) {Q : AV → Heap → Prop}
    (hQ : ∀ H', H.next < H'.next → (∀ j, j < H.next + 1 → H'.t.get j = if H.next = j then some (.cells (bs (keysP K)) 53 false false) else H.t.get j) → Q (.ptr (some (H.next, 0))) H') : WCall E 17 [.str K] H Q := by
  refine WCall.func (hx 17 _ _ (by decide)) ((hE 17).trans rfl) ?_
  have f0 : (frameOf [.str K] 0 .nil).get 0 = some (.str K) := rfl
  generalize frameOf [.str K] 0 .nil = a at f0
  refine W.seq (W.region ?_)
  simp only [w_mov, w_ibin, w_load1, w_loadN, w_nilCheck, w_indexArr, w_indexSl, w_indexVal, w_indexStr, w_lenStr, w_lenSl, w_store, w_alloc, w_box, w_build, w_sliceArr, w_bytesToStr, w_pick, WOps_nil, thenQ_normal, eX_t, eX_c, put_s, put_n, getset, Nat.reduceEqDiff, if_false, if_true, Option.getD_some]
  refine W.seq (W.region ?_)
  rw [w_alloc, put_s, WOps_nil, thenQ_normal]
  have e : ∀ l, bs (List.replicate 240 0) = l → H.push (.cells l 53 false false) = H.push (.cells (bs (List.replicate 240 0)) 53 false false) := fun l h => by rw [h]
  rw [e _ (by kernel_rfl)]
  have hp := get_push H (.cells (bs (List.replicate 240 0)) 53 false false)
  have hpn := next_push H (.cells (bs (List.replicate 240 0)) 53 false false)
  generalize H.push (.cells (bs (List.replicate 240 0)) 53 false false) = H1 at hp hpn ⊢
  refine W.seq (W.seq (W.region ?_))
  simp only [w_mov, w_ibin, w_load1, w_loadN, w_nilCheck, w_indexArr, w_indexSl, w_indexVal, w_indexStr, w_lenStr, w_lenSl, w_store, w_alloc, w_box, w_build, w_sliceArr, w_bytesToStr, w_pick, WOps_nil, thenQ_normal, eX_t, eX_c, put_s, put_n, getset, Nat.reduceEqDiff, if_false, if_true, Option.getD_some, rd, natOf_nn, natOf_by, Option.some.injEq, exists_eq_left', Prod.mk.injEq, and_assoc, exists_and_left, true_and, Nat.zero_add, Nat.add_zero, Nat.mul_one, ble_t, mul_nn, quo_nn, rem_nn, add_nn, sub_nn, lss_nn, eql_nn, neq_nn, xor_by, k0, k1, k2, k3, k4, k5, k6, k7, k8, k12, k13, k14, k15, k16, k32, k60, k254, k256, f0, hK]
  refine key_l0 (K := K) (c := H.next) (e := 53) (by simp only [eX_t, eX_c, put_s, put_n, getset, Nat.reduceEqDiff, if_false, if_true, Option.getD_some]; exact f0) (by simp only [eX_t, eX_c, put_s, put_n, getset, Nat.reduceEqDiff, if_false, if_true, Option.getD_some]) (by simp only [eX_t, eX_c, put_s, put_n, getset, Nat.reduceEqDiff, if_false, if_true, Option.getD_some]; rfl) (by simp only [eX_t, eX_c, put_s, put_n, getset, Nat.reduceEqDiff, if_false, if_true, Option.getD_some]) hK (by rw [hp, if_pos rfl]) ?_
  intro a2 H2 g3 hn2 hb2
  simp only [getset, Nat.reduceEqDiff, if_false, if_true] at g3
  rw [thenQ_normal]
  refine W.seq (W.region ?_)
  simp only [w_mov, w_ibin, w_load1, w_loadN, w_nilCheck, w_indexArr, w_indexSl, w_indexVal, w_indexStr, w_lenStr, w_lenSl, w_store, w_alloc, w_box, w_build, w_sliceArr, w_bytesToStr, w_pick, WOps_nil, thenQ_normal, eX_t, eX_c, put_s, put_n, getset, Nat.reduceEqDiff, if_false, if_true, Option.getD_some, rd, natOf_nn, natOf_by, Option.some.injEq, exists_eq_left', Prod.mk.injEq, and_assoc, exists_and_left, true_and, Nat.zero_add, Nat.add_zero, Nat.mul_one, ble_t, mul_nn, quo_nn, rem_nn, add_nn, sub_nn, lss_nn, eql_nn, neq_nn, xor_by, k0, k1, k2, k3, k4, k5, k6, k7, k8, k12, k13, k14, k15, k16, k32, k60, k254, k256, b1]
  refine W.seq (W.seq (W.region ?_))
  simp only [w_mov, w_ibin, w_load1, w_loadN, w_nilCheck, w_indexArr, w_indexSl, w_indexVal, w_indexStr, w_lenStr, w_lenSl, w_store, w_alloc, w_box, w_build, w_sliceArr, w_bytesToStr, w_pick, WOps_nil, thenQ_normal, eX_t, eX_c, put_s, put_n, getset, Nat.reduceEqDiff, if_false, if_true, Option.getD_some, rd, natOf_nn, natOf_by, Option.some.injEq, exists_eq_left', Prod.mk.injEq, and_assoc, exists_and_left, true_and, Nat.zero_add, Nat.add_zero, Nat.mul_one, ble_t, mul_nn, quo_nn, rem_nn, add_nn, sub_nn, lss_nn, eql_nn, neq_nn, xor_by, k0, k1, k2, k3, k4, k5, k6, k7, k8, k12, k13, k14, k15, k16, k32, k60, k254, k256]
  refine key_main hE hx (K := K) (c := H.next) (by simp only [eX_t, eX_c, put_s, put_n, getset, Nat.reduceEqDiff, if_false, if_true, Option.getD_some]; exact g3) (by simp only [eX_t, eX_c, put_s, put_n, getset, Nat.reduceEqDiff, if_false, if_true, Option.getD_some]) (by simp only [eX_t, eX_c, put_s, put_n, getset, Nat.reduceEqDiff, if_false, if_true, Option.getD_some]) (by omega) (by rw [hb2, if_pos rfl]) ?_
  intro a3 H3 q3 hn3 hb3
  simp only [getset, Nat.reduceEqDiff, if_false, if_true] at q3
  rw [g3] at q3
  rw [thenQ_normal]
  refine W.seq (W.region ?_)
  simp only [w_mov, w_ibin, w_load1, w_loadN, w_nilCheck, w_indexArr, w_indexSl, w_indexVal, w_indexStr, w_lenStr, w_lenSl, w_store, w_alloc, w_box, w_build, w_sliceArr, w_bytesToStr, w_pick, WOps_nil, thenQ_normal, eX_t, eX_c, put_s, put_n, getset, Nat.reduceEqDiff, if_false, if_true, Option.getD_some, rd, natOf_nn, natOf_by, Option.some.injEq, exists_eq_left', Prod.mk.injEq, and_assoc, exists_and_left, true_and, Nat.zero_add, Nat.add_zero, Nat.mul_one, ble_t, mul_nn, quo_nn, rem_nn, add_nn, sub_nn, lss_nn, eql_nn, neq_nn, xor_by, k0, k1, k2, k3, k4, k5, k6, k7, k8, k12, k13, k14, k15, k16, k32, k60, k254, k256, q3]
  refine W.ret ⟨.inr rfl, ?_⟩
  simp only [resultsOf, resOf, eX_t, eX_c, put_s, put_n, getset, Nat.reduceEqDiff, if_false, if_true, Option.getD_some, Option.some.injEq, exists_eq_left', oneOf]
  refine hQ _ (by omega) fun j hj => ?_
  rw [hb3 _ (by omega)]
  by_cases h : H.next = j
  · rw [if_pos h, if_pos h]; rfl
  · rw [if_neg h, if_neg h, hb2, if_neg h, hp, if_neg h]

theorem WL_al {ops : List AOper} {base i : Nat} {is : List (Nat × AOper)} {dst : Option Nat} {op : AOp} {a : Frm} {H : Heap} {hs : List Heap} {Q : Frm → List Heap → Prop} (hk : kindOf op = .al) {x : ABlk} {f : Nat → AV} (e : al op a = some (x, f))
    (h : WL E ops base is (put a dst (f (base + i))) ⟨H.t.set (base + i) x, H.next⟩ hs Q) : WL E ops base ((i, ⟨dst, op, none⟩) :: is) a H hs Q := by
  obtain ⟨n, a', H', h, q⟩ := h
  exact ⟨n, a', H', fun m hm => by simp only [runL, wantedA, cond_true, hk, e, h m hm], q⟩

theorem beqs_bs : ∀ l : List UInt8, AV.beqs (bs l) (bs l) = true
  | [] => by simp [bs, AV.beqs]
  | b :: l => by
    have := beqs_bs l
    simp only [bs] at this
    simp only [bs, List.map_cons, AV.beqs, AVbeq_by, this, Bool.and_self]

theorem beq_agg (l : List UInt8) : AV.beq (.agg (bs l)) (.agg (bs l)) = true := by simp only [AV.beq, beqs_bs]

theorem blkIs_bs {H : Heap} {i : Nat} {l : List UInt8} {e : TypeId} {op ro : Bool} (h : H.t.get i = some (.cells (bs l) e op ro)) : blkIs H i (.cells (bs l) e op ro) = true := by
  simp [blkIs, h, beqs_bs]

theorem sm_al {d : ADraw} {a0 afin : Frm} {base i : Nat} {dst : Option Nat} {hs : List Heap} {op : AOp} (hk : kindOf op = .al) (hw : d.war = false) {x : ABlk} {f : Nat → AV} (e : al op afin = some (x, f))
    (h : ∀ H ∈ hs, blkIs H (base + i) x = true) : sameAt d a0 afin base i ⟨dst, op, none⟩ hs = true := by
  simp only [sameAt, hk, frameFor, hw, cond_false, wantedA, cond_true, e, List.all_eq_true]
  exact h

theorem sm_loadN {d : ADraw} {a0 afin : Frm} {base i e n : Nat} {hs : List Heap} {x : AX} (hw : d.war = false) {b o : Nat} (hx : evalX afin x = .ptr (some (b, o))) {l : List AV} (hv : afin.get e = some (.agg l))
    (hl : ∀ H ∈ hs, H.loadN b o n = some l) (hb : AV.beq (.agg l) (.agg l) = true) : sameAt d a0 afin base i ⟨some e, .loadN n x, none⟩ hs = true := by
  simp only [sameAt, kindOf, looks, cond_true, frameFor, hw, cond_false, wantedA, List.all_eq_true]
  intro H hH
  simp only [rd, hx, hl H hH, hv, hb]

theorem bytesOf_bs : ∀ l : List UInt8, bytesOf (bs l) = some l
  | [] => rfl
  | b :: l => by
    have := bytesOf_bs l
    simp only [bs] at this
    show (match bytesOf (List.map by' l) with | some r => some (UInt8.ofNat (Int.ofNat b.toNat).toNat :: r) | none => none) = _
    rw [this]
    show some (UInt8.ofNat b.toNat :: l) = _
    rw [UInt8.ofNat_toNat]

def blockDraw : ADraw := (ADraw.mk [(AOper.mk (some 15) (.mov (.tmp 0)) none), (AOper.mk (some 16) (.call (.const (.func (.func 17) [] [])) [(.tmp 15)]) none), (AOper.mk (some 17) (.mov (.tmp 1)) none), (AOper.mk (some 18) (.strToBytes 5 (.tmp 17)) none), (AOper.mk (some 19) (.arrPtr 16 (.tmp 18)) none), (AOper.mk (some 20) (.loadN 16 (.tmp 19)) none), (AOper.mk (some 21) (.call (.const (.func (.func 18) [] [])) [(.tmp 16), (.tmp 20)]) none), (AOper.mk (some 6) (.alloc 38 [(.int .u8 0), (.int .u8 0), (.int .u8 0), (.int .u8 0), (.int .u8 0), (.int .u8 0), (.int .u8 0), (.int .u8 0), (.int .u8 0), (.int .u8 0), (.int .u8 0), (.int .u8 0), (.int .u8 0), (.int .u8 0), (.int .u8 0), (.int .u8 0)]) none), (AOper.mk none (.store 16 (.tmp 6) (.tmp 21)) none)] [0, 2, 3, 4, 5, 7, 1, 6, 8] [0, 1, 0, 4, 12, 28, 63, 0, 255] [(0, 0), (0, 1), (0, 1), (0, 1), (0, 1), (0, 1), (1, 2), (0, 2), (2, 3)] false)

theorem l_arrPtr {ops : List AOper} {base i : Nat} {is : List (Nat × AOper)} {dst : Option Nat} {n : Nat} {x : AX} {a : Frm} {H : Heap} {hs : List Heap} {Q : Frm → List Heap → Prop} :
    WL E ops base ((i, ⟨dst, .arrPtr n x, none⟩) :: is) a H hs Q ↔ ∃ v, rd (.arrPtr n x) a H = some v ∧ WL E ops base is (put a dst v) H hs Q := WL_rd rfl
theorem sm_arrPtr {d : ADraw} {a0 afin : Frm} {base i : Nat} {dst : Option Nat} {g : Option (Nat × Bool)} {hs : List Heap} {n : Nat} {x : AX} : sameAt d a0 afin base i ⟨dst, .arrPtr n x, g⟩ hs = true := same_rd rfl rfl

theorem ble_self (n m : Nat) (h : m = Nat.succ n) : (Nat.ble (Nat.succ 0) m && Nat.ble m m) = true := by
  subst h
  simp [Nat.ble_eq]

theorem block_d (hE : ∀ f, E.funcs f = Aes.funcsT.get f) (hx : ∀ f args H, special f = false → E.sums f args H = none) {a : Frm} {H : Heap} {K S : List UInt8} (h0 : a.get 0 = some (.str K)) (h1 : a.get 1 = some (.str S)) (hK : K.length = 32) (hS : S.length = 16)
    {Q : AExit → Frm → Heap → Prop} (hQ : ∀ a' H', a'.get 6 = some (.ptr (some (H.next + 7, 0))) → H.next ≤ H'.next → H'.t.get (H.next + 7) = some (.cells (bs (encP (keysP K) S)) 38 false false) → (∀ j, j < H.next → H'.t.get j = H.t.get j) → Q .normal a' H') : W E (.draw blockDraw) a H Q := by
  refine W_draw (l := _) rfl (N := 9) rfl ?_
  simp only [blockDraw, l_mov, eX_t, eX_c, put_s, put_n, getset, Nat.reduceEqDiff, if_false, if_true, Option.getD_some, h0, h1]
  refine WL_al rfl (x := .cells (bs S) 5 true false) (f := fun i => .slice (some (i, 0)) S.length (.unk 1)) (by simp only [al, eX_t, eX_c, put_s, put_n, getset, Nat.reduceEqDiff, if_false, if_true, Option.getD_some, h1]; rfl) ?_
  have e16 : (Nat.ble (Nat.succ 0) 16 && Nat.ble 16 16) = true := rfl
  have hn3 : ((H.t.set (H.next + 3) (.cells (bs S) 5 true false))).get (H.next + 3) = some (.cells (bs S) 5 true false) := by rw [getset, if_pos rfl]
  simp only [l_arrPtr, l_loadN, rd, eX_t, eX_c, put_s, put_n, getset, Nat.reduceEqDiff, if_false, if_true, Option.getD_some, hS, e16, cond_true, Option.some.injEq, exists_eq_left', loadN_bs hn3 hS]
  rw [zero16]
  refine WL_al rfl (x := .cells (bs (List.replicate 16 0)) 38 false false) (f := fun i => .ptr (some (i, 0))) rfl ?_
  simp only [put_s]
  have hb0 : ∀ j, j < H.next → ((H.t.set (H.next + 3) (.cells (bs S) 5 true false)).set (H.next + 7) (.cells (bs (List.replicate 16 0)) 38 false false)).get j = H.t.get j := fun j hj => by rw [getset, if_neg (by omega), getset, if_neg (by omega)]
  have hb3 : ((H.t.set (H.next + 3) (.cells (bs S) 5 true false)).set (H.next + 7) (.cells (bs (List.replicate 16 0)) 38 false false)).get (H.next + 3) = some (.cells (bs S) 5 true false) := by rw [getset, if_neg (by omega), getset, if_pos rfl]
  have hb7 : ((H.t.set (H.next + 3) (.cells (bs S) 5 true false)).set (H.next + 7) (.cells (bs (List.replicate 16 0)) 38 false false)).get (H.next + 7) = some (.cells (bs (List.replicate 16 0)) 38 false false) := by rw [getset, if_pos rfl]
  generalize (H.t.set (H.next + 3) (.cells (bs S) 5 true false)).set (H.next + 7) (.cells (bs (List.replicate 16 0)) 38 false false) = T0 at hb0 hb3 hb7 ⊢
  refine WL_call rfl ?_
  simp only [List.map_cons, List.map_nil, List.nil_append, List.append_nil, eX_t, eX_c, put_s, put_n, getset, Nat.reduceEqDiff, if_false, if_true, Option.getD_some]
  refine keys_ok hE hx hK ?_
  intro H1 hn1 hk1
  simp only at hn1 hk1
  refine WL_call rfl ?_
  simp only [List.map_cons, List.map_nil, List.nil_append, List.append_nil, eX_t, eX_c, put_s, put_n, getset, Nat.reduceEqDiff, if_false, if_true, Option.getD_some]
  refine enc_ok hE hx (S := S) (C := keysP K) (e' := 53) (op' := false) (ro' := false) hS (length_keysP K) (by omega) (by rw [hk1 _ (by omega), if_pos rfl]) ?_
  intro H2 hn2 hk2
  obtain ⟨T2, n2⟩ := H2
  simp only at hn2 hk2
  have hl : (encP (keysP K) S).length = 16 := by unfold encP; exact length_roundsP hS 14
  have h27 : T2.get (H.next + 7) = some (.cells (bs (List.replicate 16 0)) 38 false false) := by rw [hk2 _ (by omega), hk1 _ (by omega), if_neg (by omega)]; exact hb7
  simp only [l_store, wr0_store, eX_t, eX_c, put_s, put_n, getset, Nat.reduceEqDiff, if_false, if_true, Option.getD_some, wst_agg h27 List.length_replicate hl, Option.some.injEq, Prod.mk.injEq, exists_eq_left', and_assoc, exists_and_left, WL_nil]
  refine ⟨?_, _, _, rfl, ?_⟩
  · simp only [stable_cons, stable_nil, sm_mov, sm_ibin, sm_nilCheck, sm_indexArr, sm_indexSl, sm_indexVal, sm_indexStr, sm_lenStr, sm_lenSl, sm_build, sm_store, sm_call, Bool.true_and, Bool.and_true, Bool.and_eq_true, List.reverse_cons, List.reverse_nil, List.nil_append, List.cons_append, List.drop_zero, List.drop_succ_cons, Nat.sub_zero, Nat.succ_eq_add_one, Nat.zero_add, Nat.reduceAdd, Nat.reduceSub, List.take_succ_cons, List.take_zero, List.take_nil, sm_arrPtr]
    refine ⟨?_, ?_, ?_⟩
    · refine sm_al rfl rfl (x := .cells (bs S) 5 true false) (f := fun i => .slice (some (i, 0)) S.length (.unk 1)) (by simp only [al, eX_t, eX_c, put_s, put_n, getset, Nat.reduceEqDiff, if_false, if_true, Option.getD_some]; rfl) ?_
      intro H' hH'
      simp only [List.mem_cons, List.not_mem_nil, or_false] at hH'
      rcases hH' with rfl | rfl
      · exact blkIs_bs hb3
      · exact blkIs_bs (by rw [hk1 _ (by omega), if_neg (by omega)]; exact hb3)
    · refine sm_loadN rfl (b := H.next + 3) (o := 0) (l := bs S) (by simp only [eX_t, eX_c, put_s, put_n, getset, Nat.reduceEqDiff, if_false, if_true, Option.getD_some]) (by simp only [eX_t, eX_c, put_s, put_n, getset, Nat.reduceEqDiff, if_false, if_true, Option.getD_some]) ?_ (beq_agg S)
      intro H' hH'
      simp only [List.mem_cons, List.not_mem_nil, or_false] at hH'
      rcases hH' with rfl | rfl
      · exact loadN_bs hb3 hS
      · obtain ⟨T1, n1⟩ := H'
        exact loadN_bs (by rw [hk1 _ (by omega), if_neg (by omega)]; exact hb3) hS
    · refine sm_al rfl rfl (x := .cells (bs (List.replicate 16 0)) 38 false false) (f := fun i => .ptr (some (i, 0))) rfl ?_
      intro H' hH'
      simp only [List.mem_cons, List.not_mem_nil, or_false] at hH'
      rcases hH' with rfl | rfl | rfl
      · exact blkIs_bs hb7
      · exact blkIs_bs (by rw [hk1 _ (by omega), if_neg (by omega)]; exact hb7)
      · exact blkIs_bs h27
  · refine hQ _ _ (by simp only [eX_t, eX_c, put_s, put_n, getset, Nat.reduceEqDiff, if_false, if_true, Option.getD_some]) (by show H.next ≤ n2; omega) (by rw [getset, if_pos rfl]) fun j hj => ?_
    rw [getset, if_neg (by omega), hk2 _ (by omega), hk1 _ (by omega), if_neg (by omega), hb0 _ hj]

/-- Block, as the program does it -/
def blockP (K S : List UInt8) : List UInt8 × Nat :=
  if K.length ≠ 32 then ([], 8) else if S.length ≠ 16 then ([], 2) else (encP (keysP K) S, 0)

theorem Block_ok (hE : ∀ f, E.funcs f = Aes.funcsT.get f) (hx : ∀ f args H, special f = false → E.sums f args H = none) {H : Heap} {K S : List UInt8} {Q : AV → Heap → Prop}
    (hQ : ∀ H', H.next ≤ H'.next → (∀ j, j < H.next → H'.t.get j = H.t.get j) → Q (.tuple [.str (blockP K S).1, nn (blockP K S).2]) H') : WCall E 8 [.str K, .str S] H Q := by
  refine WCall.func (hx 8 _ _ (by decide)) ((hE 8).trans rfl) ?_
  have f0 : (frameOf [.str K, .str S] 0 .nil).get 0 = some (.str K) := rfl
  have f1 : (frameOf [.str K, .str S] 0 .nil).get 1 = some (.str S) := rfl
  generalize frameOf [.str K, .str S] 0 .nil = a at f0 f1
  have e32 : ∀ n : Nat, AV.int .i64 (.ofNat n) = nn n := fun _ => rfl
  refine W.seq (W.region ?_)
  simp only [w_mov, w_ibin, w_load1, w_loadN, w_nilCheck, w_indexArr, w_indexSl, w_indexVal, w_indexStr, w_lenStr, w_lenSl, w_store, w_alloc, w_box, w_build, w_sliceArr, w_bytesToStr, w_pick, WOps_nil, thenQ_normal, eX_t, eX_c, put_s, put_n, getset, Nat.reduceEqDiff, if_false, if_true, Option.getD_some, rd, natOf_nn, natOf_by, Option.some.injEq, exists_eq_left', Prod.mk.injEq, and_assoc, exists_and_left, true_and, Nat.zero_add, Nat.add_zero, Nat.mul_one, ble_t, mul_nn, quo_nn, rem_nn, add_nn, sub_nn, lss_nn, eql_nn, neq_nn, xor_by, k0, k1, k2, k3, k4, k5, k6, k7, k8, k12, k13, k14, k15, k16, k32, k60, k254, k256]
  refine W.seq (W.block (W.seq (W.region ?_)))
  simp only [w_mov, w_ibin, w_load1, w_loadN, w_nilCheck, w_indexArr, w_indexSl, w_indexVal, w_indexStr, w_lenStr, w_lenSl, w_store, w_alloc, w_box, w_build, w_sliceArr, w_bytesToStr, w_pick, WOps_nil, thenQ_normal, eX_t, eX_c, put_s, put_n, getset, Nat.reduceEqDiff, if_false, if_true, Option.getD_some, rd, natOf_nn, natOf_by, Option.some.injEq, exists_eq_left', Prod.mk.injEq, and_assoc, exists_and_left, true_and, Nat.zero_add, Nat.add_zero, Nat.mul_one, ble_t, mul_nn, quo_nn, rem_nn, add_nn, sub_nn, lss_nn, eql_nn, neq_nn, xor_by, k0, k1, k2, k3, k4, k5, k6, k7, k8, k12, k13, k14, k15, k16, k32, k60, k254, k256, f0, e32]
  refine W.cond (b := decide (K.length ≠ 32)) (by simp only [eX_t, eX_c, put_s, put_n, getset, Nat.reduceEqDiff, if_false, if_true, Option.getD_some]) ?_
  by_cases hK : K.length = 32
  · simp only [hK, ne_eq, not_true_eq_false, decide_false, cond_false]
    refine W.seq (W.region ?_)
    simp only [w_mov, w_ibin, w_load1, w_loadN, w_nilCheck, w_indexArr, w_indexSl, w_indexVal, w_indexStr, w_lenStr, w_lenSl, w_store, w_alloc, w_box, w_build, w_sliceArr, w_bytesToStr, w_pick, WOps_nil, thenQ_normal, eX_t, eX_c, put_s, put_n, getset, Nat.reduceEqDiff, if_false, if_true, Option.getD_some, rd, natOf_nn, natOf_by, Option.some.injEq, exists_eq_left', Prod.mk.injEq, and_assoc, exists_and_left, true_and, Nat.zero_add, Nat.add_zero, Nat.mul_one, ble_t, mul_nn, quo_nn, rem_nn, add_nn, sub_nn, lss_nn, eql_nn, neq_nn, xor_by, k0, k1, k2, k3, k4, k5, k6, k7, k8, k12, k13, k14, k15, k16, k32, k60, k254, k256, f1, e32]
    refine W.cond (b := decide (S.length ≠ 16)) (by simp only [eX_t, eX_c, put_s, put_n, getset, Nat.reduceEqDiff, if_false, if_true, Option.getD_some]) ?_
    by_cases hS : S.length = 16
    · simp only [hS, ne_eq, not_true_eq_false, decide_false, cond_false]
      refine W.skip ?_
      simp only [blockQ_normal, thenQ_normal]
      refine W.seq (block_d hE hx (K := K) (S := S) (by simp only [eX_t, eX_c, put_s, put_n, getset, Nat.reduceEqDiff, if_false, if_true, Option.getD_some]; exact f0) (by simp only [eX_t, eX_c, put_s, put_n, getset, Nat.reduceEqDiff, if_false, if_true, Option.getD_some]; exact f1) hK hS ?_)
      intro a' H' h6 hn hb hfr
      obtain ⟨T1, n1⟩ := H'
      simp only at hn hb hfr
      rw [thenQ_normal]
      have hl : (encP (keysP K) S).length = 16 := by unfold encP; exact length_roundsP hS 14
      refine W.seq (W.region ?_)
      rw [w_sliceArr]
      refine ⟨.slice (some (H.next + 7, 0)) 16 (.known 16), by simp only [rd, eX_t, eX_c, put_s, put_n, getset, Nat.reduceEqDiff, if_false, if_true, Option.getD_some, h6]; rfl, ?_⟩
      rw [w_bytesToStr]
      refine ⟨.str (encP (keysP K) S), ?_, ?_⟩
      · simp only [rd, eX_t, eX_c, put_s, put_n, getset, Nat.reduceEqDiff, if_false, if_true, Option.getD_some]
        rw [show Heap.loadN ⟨T1, n1⟩ (H.next + 7) 0 (15 + 1) = some (bs (encP (keysP K) S)) from loadN_bs hb hl]
        simp only [bytesOf_bs]
      · simp only [w_mov, w_ibin, w_load1, w_loadN, w_nilCheck, w_indexArr, w_indexSl, w_indexVal, w_indexStr, w_lenStr, w_lenSl, w_store, w_alloc, w_box, w_build, w_sliceArr, w_bytesToStr, w_pick, WOps_nil, thenQ_normal, eX_t, eX_c, put_s, put_n, getset, Nat.reduceEqDiff, if_false, if_true, Option.getD_some, rd, natOf_nn, natOf_by, Option.some.injEq, exists_eq_left', Prod.mk.injEq, and_assoc, exists_and_left, true_and, Nat.zero_add, Nat.add_zero, Nat.mul_one, ble_t, mul_nn, quo_nn, rem_nn, add_nn, sub_nn, lss_nn, eql_nn, neq_nn, xor_by, k0, k1, k2, k3, k4, k5, k6, k7, k8, k12, k13, k14, k15, k16, k32, k60, k254, k256]
        refine W.ret ⟨.inr rfl, ?_⟩
        simp only [resultsOf, resOf, eX_t, eX_c, put_s, put_n, getset, Nat.reduceEqDiff, if_false, if_true, Option.getD_some, Option.some.injEq, exists_eq_left', oneOf]
        have := hQ ⟨T1, n1⟩ hn hfr
        simp only [blockP, hK, hS, ne_eq, not_true_eq_false, if_false] at this
        exact this
    · simp only [hS, ne_eq, not_false_eq_true, decide_true, cond_true]
      refine W.seq (W.region ?_)
      simp only [w_mov, w_ibin, w_load1, w_loadN, w_nilCheck, w_indexArr, w_indexSl, w_indexVal, w_indexStr, w_lenStr, w_lenSl, w_store, w_alloc, w_box, w_build, w_sliceArr, w_bytesToStr, w_pick, WOps_nil, thenQ_normal, eX_t, eX_c, put_s, put_n, getset, Nat.reduceEqDiff, if_false, if_true, Option.getD_some, rd, natOf_nn, natOf_by, Option.some.injEq, exists_eq_left', Prod.mk.injEq, and_assoc, exists_and_left, true_and, Nat.zero_add, Nat.add_zero, Nat.mul_one, ble_t, mul_nn, quo_nn, rem_nn, add_nn, sub_nn, lss_nn, eql_nn, neq_nn, xor_by, k0, k1, k2, k3, k4, k5, k6, k7, k8, k12, k13, k14, k15, k16, k32, k60, k254, k256]
      refine W.ret ?_
      simp only [blockQ_ret, thenQ_ret]
      refine ⟨.inr rfl, ?_⟩
      simp only [resultsOf, resOf, eX_t, eX_c, put_s, put_n, getset, Nat.reduceEqDiff, if_false, if_true, Option.getD_some, Option.some.injEq, exists_eq_left', oneOf]
      have := hQ H (Nat.le_refl _) fun _ _ => rfl
      simp only [blockP, hK, hS, ne_eq, not_true_eq_false, not_false_eq_true, if_false, if_true] at this
      exact this
  · simp only [hK, ne_eq, not_false_eq_true, decide_true, cond_true]
    refine W.seq (W.region ?_)
    simp only [w_mov, w_ibin, w_load1, w_loadN, w_nilCheck, w_indexArr, w_indexSl, w_indexVal, w_indexStr, w_lenStr, w_lenSl, w_store, w_alloc, w_box, w_build, w_sliceArr, w_bytesToStr, w_pick, WOps_nil, thenQ_normal, eX_t, eX_c, put_s, put_n, getset, Nat.reduceEqDiff, if_false, if_true, Option.getD_some, rd, natOf_nn, natOf_by, Option.some.injEq, exists_eq_left', Prod.mk.injEq, and_assoc, exists_and_left, true_and, Nat.zero_add, Nat.add_zero, Nat.mul_one, ble_t, mul_nn, quo_nn, rem_nn, add_nn, sub_nn, lss_nn, eql_nn, neq_nn, xor_by, k0, k1, k2, k3, k4, k5, k6, k7, k8, k12, k13, k14, k15, k16, k32, k60, k254, k256]
    refine W.ret ?_
    simp only [blockQ_ret, thenQ_ret]
    refine ⟨.inr rfl, ?_⟩
    simp only [resultsOf, resOf, eX_t, eX_c, put_s, put_n, getset, Nat.reduceEqDiff, if_false, if_true, Option.getD_some, Option.some.injEq, exists_eq_left', oneOf]
    have := hQ H (Nat.le_refl _) fun _ _ => rfl
    simp only [blockP, hK, ne_eq, not_false_eq_true, if_true] at this
    exact this
end Go.AE
end
-- Contracts of the reference of aes: product, of.
section
set_option linter.unusedVariables false
set_option linter.unusedSimpArgs false
set_option maxRecDepth 100000
set_option maxHeartbeats 600000
namespace Go.AE
variable {E : Env}

theorem shr_by (b : UInt8) {i : Nat} (h : i < 8) : ibin .shr (by' b) (nn i) = some (by' (b >>> UInt8.ofNat i)) := by
  have e1 : Nat.ble i 8 = true := by rw [Nat.ble_eq]; omega
  have e2 : (b >>> UInt8.ofNat i).toNat = b.toNat / 2 ^ i := by
    rw [UInt8.toNat_shiftRight, UInt8.toNat_ofNat', Nat.mod_eq_of_lt (by omega : i < 2 ^ 8), Nat.mod_eq_of_lt h, Nat.shiftRight_eq_div_pow]
  show (let n := bif Nat.ble i 8 then i else 8; some (AV.int .u8 (.ofNat (Nat.div b.toNat (Nat.pow 2 n))))) = _
  rw [e1, cond_true]
  show some (AV.int .u8 (.ofNat (b.toNat / 2 ^ i))) = some (AV.int .u8 (.ofNat (b >>> UInt8.ofNat i).toNat))
  rw [e2]

theorem and_by (a b : UInt8) : ibin .and (by' a) (by' b) = some (by' (a &&& b)) := by
  simp only [by', ibin, kindEq, ibits, fits_by, Bool.and_self, cond_true, natBits, UInt8.toNat_and]
  rfl

theorem or_by (a b : UInt8) : ibin .or (by' a) (by' b) = some (by' (a ||| b)) := by
  simp only [by', ibin, kindEq, ibits, fits_by, Bool.and_self, cond_true, natBits, UInt8.toNat_or]
  rfl

/-- the product so far, and the first factor, doubled so often -/
def prodK (a b : UInt8) : Nat → UInt8 × UInt8
  | 0 => (0, a)
  | i + 1 => (bif decide (b >>> UInt8.ofNat i &&& 1 = 1) then (prodK a b i).1 ^^^ (prodK a b i).2 else (prodK a b i).1, tw (prodK a b i).2)

def prod (a b : UInt8) : UInt8 := (prodK a b 8).1

theorem product_ok (hE : ∀ f, E.funcs f = Aes.funcsT.get f) (hx : ∀ f args H, special f = false → E.sums f args H = none) {H : Heap} {x y : UInt8} {Q : AV → Heap → Prop} (hQ : Q (by' (prod x y)) H) : WCall E 28 [by' x, by' y] H Q := by
  refine WCall.func (hx 28 _ _ (by decide)) ((hE 28).trans rfl) ?_
  have f0 : (frameOf [by' x, by' y] 0 .nil).get 0 = some (by' x) := rfl
  have f1 : (frameOf [by' x, by' y] 0 .nil).get 1 = some (by' y) := rfl
  generalize frameOf [by' x, by' y] 0 .nil = a at f0 f1
  refine W.seq (W.region ?_)
  simp only [w_mov, w_ibin, w_load1, w_loadN, w_nilCheck, w_indexArr, w_indexSl, w_indexVal, w_indexStr, w_lenStr, w_lenSl, w_store, w_alloc, w_box, w_build, w_sliceArr, w_bytesToStr, w_pick, WOps_nil, thenQ_normal, eX_t, eX_c, put_s, put_n, getset, Nat.reduceEqDiff, if_false, if_true, Option.getD_some, rd, natOf_nn, natOf_by, Option.some.injEq, exists_eq_left', Prod.mk.injEq, and_assoc, exists_and_left, true_and, Nat.zero_add, Nat.add_zero, Nat.mul_one, ble_t, mul_nn, quo_nn, rem_nn, add_nn, sub_nn, lss_nn, eql_nn, neq_nn, xor_by, k0, k1, k2, k3, k4, k5, k6, k7, k8, k12, k13, k14, k15, k16, k32, k60, k254, k256, b0]
  refine W.seq (W.region ?_)
  simp only [w_mov, w_ibin, w_load1, w_loadN, w_nilCheck, w_indexArr, w_indexSl, w_indexVal, w_indexStr, w_lenStr, w_lenSl, w_store, w_alloc, w_box, w_build, w_sliceArr, w_bytesToStr, w_pick, WOps_nil, thenQ_normal, eX_t, eX_c, put_s, put_n, getset, Nat.reduceEqDiff, if_false, if_true, Option.getD_some, rd, natOf_nn, natOf_by, Option.some.injEq, exists_eq_left', Prod.mk.injEq, and_assoc, exists_and_left, true_and, Nat.zero_add, Nat.add_zero, Nat.mul_one, ble_t, mul_nn, quo_nn, rem_nn, add_nn, sub_nn, lss_nn, eql_nn, neq_nn, xor_by, k0, k1, k2, k3, k4, k5, k6, k7, k8, k12, k13, k14, k15, k16, k32, k60, k254, k256, b0]
  refine W.seq (W.seq (W.region ?_))
  simp only [w_mov, w_ibin, w_load1, w_loadN, w_nilCheck, w_indexArr, w_indexSl, w_indexVal, w_indexStr, w_lenStr, w_lenSl, w_store, w_alloc, w_box, w_build, w_sliceArr, w_bytesToStr, w_pick, WOps_nil, thenQ_normal, eX_t, eX_c, put_s, put_n, getset, Nat.reduceEqDiff, if_false, if_true, Option.getD_some, rd, natOf_nn, natOf_by, Option.some.injEq, exists_eq_left', Prod.mk.injEq, and_assoc, exists_and_left, true_and, Nat.zero_add, Nat.add_zero, Nat.mul_one, ble_t, mul_nn, quo_nn, rem_nn, add_nn, sub_nn, lss_nn, eql_nn, neq_nn, xor_by, k0, k1, k2, k3, k4, k5, k6, k7, k8, k12, k13, k14, k15, k16, k32, k60, k254, k256]
  refine W.block ?_
  refine W.count 8 (fun i a' H' => H' = H ∧ a'.get 0 = some (by' (prodK x y i).2) ∧ a'.get 1 = some (by' y) ∧ a'.get 5 = some (by' (prodK x y i).1) ∧ a'.get 6 = some (nn i)) ?_ ?_ 0 _ H (by omega) ?_
  · intro i a1 H1 hi ⟨rfl, g0, g1, g5, g6⟩
    refine W.seq (W.seq (W.region ?_))
    simp only [w_mov, w_ibin, w_load1, w_loadN, w_nilCheck, w_indexArr, w_indexSl, w_indexVal, w_indexStr, w_lenStr, w_lenSl, w_store, w_alloc, w_box, w_build, w_sliceArr, w_bytesToStr, w_pick, WOps_nil, thenQ_normal, eX_t, eX_c, put_s, put_n, getset, Nat.reduceEqDiff, if_false, if_true, Option.getD_some, rd, natOf_nn, natOf_by, Option.some.injEq, exists_eq_left', Prod.mk.injEq, and_assoc, exists_and_left, true_and, Nat.zero_add, Nat.add_zero, Nat.mul_one, ble_t, mul_nn, quo_nn, rem_nn, add_nn, sub_nn, lss_nn, eql_nn, neq_nn, xor_by, k0, k1, k2, k3, k4, k5, k6, k7, k8, k12, k13, k14, k15, k16, k32, k60, k254, k256, g6]
    refine W.cond (b := true) (by simp only [eX_t, eX_c, put_s, put_n, getset, Nat.reduceEqDiff, if_false, if_true, Option.getD_some]; simp [hi]) (W.skip ?_)
    rw [thenQ_normal]
    refine W.seq (W.block (W.seq (W.seq (W.region ?_))))
    simp only [w_mov, w_ibin, w_load1, w_loadN, w_nilCheck, w_indexArr, w_indexSl, w_indexVal, w_indexStr, w_lenStr, w_lenSl, w_store, w_alloc, w_box, w_build, w_sliceArr, w_bytesToStr, w_pick, WOps_nil, thenQ_normal, eX_t, eX_c, put_s, put_n, getset, Nat.reduceEqDiff, if_false, if_true, Option.getD_some, rd, natOf_nn, natOf_by, Option.some.injEq, exists_eq_left', Prod.mk.injEq, and_assoc, exists_and_left, true_and, Nat.zero_add, Nat.add_zero, Nat.mul_one, ble_t, mul_nn, quo_nn, rem_nn, add_nn, sub_nn, lss_nn, eql_nn, neq_nn, xor_by, k0, k1, k2, k3, k4, k5, k6, k7, k8, k12, k13, k14, k15, k16, k32, k60, k254, k256, g6, g1, shr_by y hi, b1, and_by, eql_by]
    refine W.cond (b := decide (y >>> UInt8.ofNat i &&& 1 = 1)) (by simp only [eX_t, eX_c, put_s, put_n, getset, Nat.reduceEqDiff, if_false, if_true, Option.getD_some]) ?_
    have tail : ∀ (a4 : Frm) (p : UInt8), a4.get 0 = some (by' (prodK x y i).2) → a4.get 1 = some (by' y) → a4.get 5 = some (by' p) → a4.get 6 = some (nn i) → (prodK x y (i + 1)).1 = p →
        thenQ E (.seq (.region [(AOper.mk (some 20) (.mov (.tmp 0)) none), (AOper.mk (some 21) (.ibin .shr (.tmp 20) (.const (.int .u64 7))) none), (AOper.mk (some 7) (.mov (.tmp 21)) none)]) (.seq (.region [(AOper.mk (some 22) (.mov (.tmp 0)) none), (AOper.mk (some 23) (.ibin .shl (.tmp 22) (.const (.int .u64 1))) none), (AOper.mk (some 0) (.mov (.tmp 23)) none)]) (.seq (.region [(AOper.mk (some 24) (.mov (.tmp 7)) none), (AOper.mk (some 25) (.ibin .eql (.tmp 24) (.const (.int .u8 1))) none)]) (.cond (.tmp 25) (.region [(AOper.mk (some 26) (.mov (.tmp 0)) none), (AOper.mk (some 27) (.ibin .xor (.tmp 26) (.const (.int .u8 27))) none), (AOper.mk (some 0) (.mov (.tmp 27)) none)]) .skip)))) (blockQ 1 (thenQ E (.region [(AOper.mk (some 10) (.mov (.tmp 6)) none), (AOper.mk (some 11) (.ibin .add (.tmp 10) (.const (.int .i64 1))) none), (AOper.mk (some 6) (.mov (.tmp 11)) none)])
          (fun e a' H' => e = .normal ∧ H' = H1 ∧ a'.get 0 = some (by' (prodK x y (i + 1)).2) ∧ a'.get 1 = some (by' y) ∧ a'.get 5 = some (by' (prodK x y (i + 1)).1) ∧ a'.get 6 = some (nn (i + 1))))) .normal a4 H1 := by
      intro a4 p q0 q1 q5 q6 hp
      rw [thenQ_normal]
      refine W.seq (W.region ?_)
      simp only [w_mov, w_ibin, w_load1, w_loadN, w_nilCheck, w_indexArr, w_indexSl, w_indexVal, w_indexStr, w_lenStr, w_lenSl, w_store, w_alloc, w_box, w_build, w_sliceArr, w_bytesToStr, w_pick, WOps_nil, thenQ_normal, eX_t, eX_c, put_s, put_n, getset, Nat.reduceEqDiff, if_false, if_true, Option.getD_some, rd, natOf_nn, natOf_by, Option.some.injEq, exists_eq_left', Prod.mk.injEq, and_assoc, exists_and_left, true_and, Nat.zero_add, Nat.add_zero, Nat.mul_one, ble_t, mul_nn, quo_nn, rem_nn, add_nn, sub_nn, lss_nn, eql_nn, neq_nn, xor_by, k0, k1, k2, k3, k4, k5, k6, k7, k8, k12, k13, k14, k15, k16, k32, k60, k254, k256, q0, shr7_by]
      refine W.seq (W.region ?_)
      simp only [w_mov, w_ibin, w_load1, w_loadN, w_nilCheck, w_indexArr, w_indexSl, w_indexVal, w_indexStr, w_lenStr, w_lenSl, w_store, w_alloc, w_box, w_build, w_sliceArr, w_bytesToStr, w_pick, WOps_nil, thenQ_normal, eX_t, eX_c, put_s, put_n, getset, Nat.reduceEqDiff, if_false, if_true, Option.getD_some, rd, natOf_nn, natOf_by, Option.some.injEq, exists_eq_left', Prod.mk.injEq, and_assoc, exists_and_left, true_and, Nat.zero_add, Nat.add_zero, Nat.mul_one, ble_t, mul_nn, quo_nn, rem_nn, add_nn, sub_nn, lss_nn, eql_nn, neq_nn, xor_by, k0, k1, k2, k3, k4, k5, k6, k7, k8, k12, k13, k14, k15, k16, k32, k60, k254, k256, q0, shl1_by]
      refine W.seq (W.region ?_)
      simp only [w_mov, w_ibin, w_load1, w_loadN, w_nilCheck, w_indexArr, w_indexSl, w_indexVal, w_indexStr, w_lenStr, w_lenSl, w_store, w_alloc, w_box, w_build, w_sliceArr, w_bytesToStr, w_pick, WOps_nil, thenQ_normal, eX_t, eX_c, put_s, put_n, getset, Nat.reduceEqDiff, if_false, if_true, Option.getD_some, rd, natOf_nn, natOf_by, Option.some.injEq, exists_eq_left', Prod.mk.injEq, and_assoc, exists_and_left, true_and, Nat.zero_add, Nat.add_zero, Nat.mul_one, ble_t, mul_nn, quo_nn, rem_nn, add_nn, sub_nn, lss_nn, eql_nn, neq_nn, xor_by, k0, k1, k2, k3, k4, k5, k6, k7, k8, k12, k13, k14, k15, k16, k32, k60, k254, k256, b1, eql_by]
      refine W.cond (b := decide ((prodK x y i).2 >>> 7 = 1)) (by simp only [eX_t, eX_c, put_s, put_n, getset, Nat.reduceEqDiff, if_false, if_true, Option.getD_some]) ?_
      have e2 : (prodK x y (i + 1)).2 = tw (prodK x y i).2 := rfl
      rw [e2, hp, tw]
      cases decide ((prodK x y i).2 >>> 7 = 1) with
      | true =>
        simp only [cond_true]
        refine W.region ?_
        simp only [w_mov, w_ibin, w_load1, w_loadN, w_nilCheck, w_indexArr, w_indexSl, w_indexVal, w_indexStr, w_lenStr, w_lenSl, w_store, w_alloc, w_box, w_build, w_sliceArr, w_bytesToStr, w_pick, WOps_nil, thenQ_normal, eX_t, eX_c, put_s, put_n, getset, Nat.reduceEqDiff, if_false, if_true, Option.getD_some, rd, natOf_nn, natOf_by, Option.some.injEq, exists_eq_left', Prod.mk.injEq, and_assoc, exists_and_left, true_and, Nat.zero_add, Nat.add_zero, Nat.mul_one, ble_t, mul_nn, quo_nn, rem_nn, add_nn, sub_nn, lss_nn, eql_nn, neq_nn, xor_by, k0, k1, k2, k3, k4, k5, k6, k7, k8, k12, k13, k14, k15, k16, k32, k60, k254, k256, b27, blockQ_normal]
        refine W.region ?_
        simp (disch := omega) only [w_mov, w_ibin, w_load1, w_loadN, w_nilCheck, w_indexArr, w_indexSl, w_indexVal, w_indexStr, w_lenStr, w_lenSl, w_store, w_alloc, w_box, w_build, w_sliceArr, w_bytesToStr, w_pick, WOps_nil, thenQ_normal, eX_t, eX_c, put_s, put_n, getset, Nat.reduceEqDiff, if_false, if_true, Option.getD_some, rd, natOf_nn, natOf_by, Option.some.injEq, exists_eq_left', Prod.mk.injEq, and_assoc, exists_and_left, true_and, Nat.zero_add, Nat.add_zero, Nat.mul_one, ble_t, mul_nn, quo_nn, rem_nn, add_nn, sub_nn, lss_nn, eql_nn, neq_nn, xor_by, k0, k1, k2, k3, k4, k5, k6, k7, k8, k12, k13, k14, k15, k16, k32, k60, k254, k256, q6]
        exact ⟨q1, q5, trivial⟩
      | false =>
        simp only [cond_false]
        refine W.skip ?_
        simp only [thenQ_normal, blockQ_normal]
        refine W.region ?_
        simp (disch := omega) only [w_mov, w_ibin, w_load1, w_loadN, w_nilCheck, w_indexArr, w_indexSl, w_indexVal, w_indexStr, w_lenStr, w_lenSl, w_store, w_alloc, w_box, w_build, w_sliceArr, w_bytesToStr, w_pick, WOps_nil, thenQ_normal, eX_t, eX_c, put_s, put_n, getset, Nat.reduceEqDiff, if_false, if_true, Option.getD_some, rd, natOf_nn, natOf_by, Option.some.injEq, exists_eq_left', Prod.mk.injEq, and_assoc, exists_and_left, true_and, Nat.zero_add, Nat.add_zero, Nat.mul_one, ble_t, mul_nn, quo_nn, rem_nn, add_nn, sub_nn, lss_nn, eql_nn, neq_nn, xor_by, k0, k1, k2, k3, k4, k5, k6, k7, k8, k12, k13, k14, k15, k16, k32, k60, k254, k256, q6]
        exact ⟨q1, q5, trivial⟩
    by_cases hd : y >>> UInt8.ofNat i &&& 1 = 1
    · simp only [hd, decide_true, cond_true]
      refine W.region ?_
      simp only [w_mov, w_ibin, eX_t, eX_c, put_s, put_n, getset, Nat.reduceEqDiff, if_false, if_true, Option.getD_some, rd, natOf_nn, natOf_by, Option.some.injEq, exists_eq_left', Prod.mk.injEq, and_assoc, exists_and_left, true_and, Nat.zero_add, Nat.add_zero, Nat.mul_one, ble_t, mul_nn, quo_nn, rem_nn, add_nn, sub_nn, lss_nn, eql_nn, neq_nn, xor_by, k0, k1, k2, k3, k4, k5, k6, k7, k8, k12, k13, k14, k15, k16, k32, k60, k254, k256, g5, g0, WOps_nil]
      refine tail _ ((prodK x y i).1 ^^^ (prodK x y i).2) (by simp only [eX_t, eX_c, put_s, put_n, getset, Nat.reduceEqDiff, if_false, if_true, Option.getD_some]; exact g0) (by simp only [eX_t, eX_c, put_s, put_n, getset, Nat.reduceEqDiff, if_false, if_true, Option.getD_some]; exact g1) (by simp only [eX_t, eX_c, put_s, put_n, getset, Nat.reduceEqDiff, if_false, if_true, Option.getD_some]) (by simp only [eX_t, eX_c, put_s, put_n, getset, Nat.reduceEqDiff, if_false, if_true, Option.getD_some]; exact g6) ?_
      rw [prodK, decide_eq_true hd, cond_true]
    · simp only [hd, decide_false, cond_false]
      refine W.skip ?_
      refine tail _ (prodK x y i).1 (by simp only [eX_t, eX_c, put_s, put_n, getset, Nat.reduceEqDiff, if_false, if_true, Option.getD_some]; exact g0) (by simp only [eX_t, eX_c, put_s, put_n, getset, Nat.reduceEqDiff, if_false, if_true, Option.getD_some]; exact g1) (by simp only [eX_t, eX_c, put_s, put_n, getset, Nat.reduceEqDiff, if_false, if_true, Option.getD_some]; exact g5) (by simp only [eX_t, eX_c, put_s, put_n, getset, Nat.reduceEqDiff, if_false, if_true, Option.getD_some]; exact g6) ?_
      rw [prodK, decide_eq_false hd, cond_false]
  · intro a1 H1 ⟨rfl, g0, g1, g5, g6⟩
    refine W.seq (W.seq (W.region ?_))
    simp only [w_mov, w_ibin, w_load1, w_loadN, w_nilCheck, w_indexArr, w_indexSl, w_indexVal, w_indexStr, w_lenStr, w_lenSl, w_store, w_alloc, w_box, w_build, w_sliceArr, w_bytesToStr, w_pick, WOps_nil, thenQ_normal, eX_t, eX_c, put_s, put_n, getset, Nat.reduceEqDiff, if_false, if_true, Option.getD_some, rd, natOf_nn, natOf_by, Option.some.injEq, exists_eq_left', Prod.mk.injEq, and_assoc, exists_and_left, true_and, Nat.zero_add, Nat.add_zero, Nat.mul_one, ble_t, mul_nn, quo_nn, rem_nn, add_nn, sub_nn, lss_nn, eql_nn, neq_nn, xor_by, k0, k1, k2, k3, k4, k5, k6, k7, k8, k12, k13, k14, k15, k16, k32, k60, k254, k256, g6]
    refine W.cond (b := false) (by simp only [eX_t, eX_c, put_s, put_n, getset, Nat.reduceEqDiff, if_false, if_true, Option.getD_some]; simp) (W.exit ?_)
    rw [thenQ_exit]
    refine ⟨nofun, ?_⟩
    simp only [blockQ_exit, Nat.beq_refl, cond_true, thenQ_normal]
    refine W.seq (W.region ?_)
    simp only [w_mov, w_ibin, w_load1, w_loadN, w_nilCheck, w_indexArr, w_indexSl, w_indexVal, w_indexStr, w_lenStr, w_lenSl, w_store, w_alloc, w_box, w_build, w_sliceArr, w_bytesToStr, w_pick, WOps_nil, thenQ_normal, eX_t, eX_c, put_s, put_n, getset, Nat.reduceEqDiff, if_false, if_true, Option.getD_some, rd, natOf_nn, natOf_by, Option.some.injEq, exists_eq_left', Prod.mk.injEq, and_assoc, exists_and_left, true_and, Nat.zero_add, Nat.add_zero, Nat.mul_one, ble_t, mul_nn, quo_nn, rem_nn, add_nn, sub_nn, lss_nn, eql_nn, neq_nn, xor_by, k0, k1, k2, k3, k4, k5, k6, k7, k8, k12, k13, k14, k15, k16, k32, k60, k254, k256, g5]
    refine W.ret ⟨.inr rfl, ?_⟩
    simp only [resultsOf, resOf, eX_t, eX_c, put_s, put_n, getset, Nat.reduceEqDiff, if_false, if_true, Option.getD_some, Option.some.injEq, exists_eq_left', oneOf]
    exact hQ
  · refine ⟨rfl, ?_, ?_, ?_, ?_⟩
    · simp only [eX_t, eX_c, put_s, put_n, getset, Nat.reduceEqDiff, if_false, if_true, Option.getD_some]; exact f0
    · simp only [eX_t, eX_c, put_s, put_n, getset, Nat.reduceEqDiff, if_false, if_true, Option.getD_some]; exact f1
    · simp only [eX_t, eX_c, put_s, put_n, getset, Nat.reduceEqDiff, if_false, if_true, Option.getD_some]; rfl
    · simp only [eX_t, eX_c, put_s, put_n, getset, Nat.reduceEqDiff, if_false, if_true, Option.getD_some]
end Go.AE
end
-- Contracts of the reference of aes: boxes.
section
set_option linter.unusedVariables false
set_option linter.unusedSimpArgs false
set_option maxRecDepth 100000
set_option maxHeartbeats 600000
namespace Go.AE
variable {E : Env}

theorem shl_by (b : UInt8) {i : Nat} (h : i < 8) : ibin .shl (by' b) (nn i) = some (by' (b <<< UInt8.ofNat i)) := by
  have e1 : Nat.ble i 8 = true := by rw [Nat.ble_eq]; omega
  have e2 : (b <<< UInt8.ofNat i).toNat = b.toNat * 2 ^ i % 256 := by
    rw [UInt8.toNat_shiftLeft, UInt8.toNat_ofNat', Nat.mod_eq_of_lt (by omega : i < 2 ^ 8), Nat.mod_eq_of_lt h, Nat.shiftLeft_eq]
  show (let n := bif Nat.ble i 8 then i else 8; some (AV.int .u8 (wrapK .u8 (Int.ofNat b.toNat * ((2 ^ n : Nat) : Int))))) = _
  rw [e1, cond_true]
  have e3 : (Int.ofNat b.toNat * ((2 ^ i : Nat) : Int)) = Int.ofNat (b.toNat * 2 ^ i) := rfl
  show some (AV.int .u8 (wrapK .u8 (Int.ofNat b.toNat * ((2 ^ i : Nat) : Int)))) = some (AV.int .u8 (.ofNat (b <<< UInt8.ofNat i).toNat))
  rw [e3, wrap_u8, e2]

theorem conv_u8 (x : Nat) : wrapK .u8 (.ofNat x) = .ofNat (UInt8.ofNat x).toNat := by rw [wrap_u8, UInt8.toNat_ofNat']

def powK (x : UInt8) : Nat → UInt8
  | 0 => 1
  | k + 1 => prod (powK x k) x

def bitK (b : UInt8) (i : Nat) : UInt8 :=
  b >>> UInt8.ofNat i ^^^ b >>> UInt8.ofNat ((i + 4) % 8) ^^^ b >>> UInt8.ofNat ((i + 5) % 8) ^^^ b >>> UInt8.ofNat ((i + 6) % 8) ^^^ b >>> UInt8.ofNat ((i + 7) % 8) ^^^ 99 >>> UInt8.ofNat i

def affK (b : UInt8) : Nat → UInt8
  | 0 => 0
  | i + 1 => affK b i ||| (bitK b i &&& 1) <<< UInt8.ofNat i

def outK : Nat → List UInt8
  | 0 => List.replicate 256 0
  | x + 1 => (outK x).set x (affK (powK (UInt8.ofNat x) 254) 8)
theorem length_outK : ∀ x, (outK x).length = 256
  | 0 => by rw [outK, List.length_replicate]
  | x + 1 => by rw [outK, List.length_set, length_outK x]

attribute [local irreducible] outK powK affK bitK prod

def bxDraw : ADraw := (ADraw.mk [(AOper.mk (some 24) (.mov (.tmp 3)) none), (AOper.mk (some 25) (.mov (.tmp 6)) none), (AOper.mk (some 26) (.ibin .shr (.tmp 24) (.tmp 25)) none), (AOper.mk (some 27) (.mov (.tmp 3)) none), (AOper.mk (some 28) (.mov (.tmp 6)) none), (AOper.mk (some 29) (.ibin .add (.tmp 28) (.const (.int .i64 4))) none), (AOper.mk (some 30) (.ibin .rem (.tmp 29) (.const (.int .i64 8))) none), (AOper.mk (some 31) (.ibin .shr (.tmp 27) (.tmp 30)) none), (AOper.mk (some 32) (.ibin .xor (.tmp 26) (.tmp 31)) none), (AOper.mk (some 33) (.mov (.tmp 3)) none), (AOper.mk (some 34) (.mov (.tmp 6)) none), (AOper.mk (some 35) (.ibin .add (.tmp 34) (.const (.int .i64 5))) none), (AOper.mk (some 36) (.ibin .rem (.tmp 35) (.const (.int .i64 8))) none), (AOper.mk (some 37) (.ibin .shr (.tmp 33) (.tmp 36)) none), (AOper.mk (some 38) (.ibin .xor (.tmp 32) (.tmp 37)) none), (AOper.mk (some 39) (.mov (.tmp 3)) none), (AOper.mk (some 40) (.mov (.tmp 6)) none), (AOper.mk (some 41) (.ibin .add (.tmp 40) (.const (.int .i64 6))) none), (AOper.mk (some 42) (.ibin .rem (.tmp 41) (.const (.int .i64 8))) none), (AOper.mk (some 43) (.ibin .shr (.tmp 39) (.tmp 42)) none), (AOper.mk (some 44) (.ibin .xor (.tmp 38) (.tmp 43)) none), (AOper.mk (some 45) (.mov (.tmp 3)) none), (AOper.mk (some 46) (.mov (.tmp 6)) none), (AOper.mk (some 47) (.ibin .add (.tmp 46) (.const (.int .i64 7))) none), (AOper.mk (some 48) (.ibin .rem (.tmp 47) (.const (.int .i64 8))) none), (AOper.mk (some 49) (.ibin .shr (.tmp 45) (.tmp 48)) none), (AOper.mk (some 50) (.ibin .xor (.tmp 44) (.tmp 49)) none), (AOper.mk (some 51) (.mov (.tmp 6)) none), (AOper.mk (some 52) (.ibin .shr (.const (.int .u8 99)) (.tmp 51)) none), (AOper.mk (some 53) (.ibin .xor (.tmp 50) (.tmp 52)) none), (AOper.mk (some 7) (.mov (.tmp 53)) none)] [0, 1, 2, 3, 4, 5, 6, 7, 8, 9, 10, 11, 12, 13, 14, 15, 16, 17, 18, 19, 20, 21, 22, 23, 24, 25, 26, 27, 28, 29, 30] [0, 0, 3, 0, 0, 16, 48, 120, 255, 0, 0, 1024, 3072, 7680, 16383, 0, 0, 65536, 196608, 491520, 1048575, 0, 0, 4194304, 12582912, 31457280, 67108863, 0, 134217728, 536870911, 1073741823] [(0, 0), (0, 0), (0, 0), (0, 0), (0, 0), (0, 0), (0, 0), (0, 0), (0, 0), (0, 0), (0, 0), (0, 0), (0, 0), (0, 0), (0, 0), (0, 0), (0, 0), (0, 0), (0, 0), (0, 0), (0, 0), (0, 0), (0, 0), (0, 0), (0, 0), (0, 0), (0, 0), (0, 0), (0, 0), (0, 0), (0, 0)] false)
def bxPow : ACode := (.block 2 (.loop (.seq (.seq (.region [(AOper.mk (some 12) (.mov (.tmp 4)) none), (AOper.mk (some 13) (.ibin .lss (.tmp 12) (.const (.int .i64 254))) none)]) (.cond (.tmp 13) .skip (.exit 2))) (.seq (.block 3 (.region [(AOper.mk (some 16) (.mov (.tmp 3)) none), (AOper.mk (some 17) (.mov (.tmp 2)) none), (AOper.mk (some 18) (.convInt .u8 (.tmp 17)) none), (AOper.mk (some 19) (.call (.const (.func (.func 28) [] [])) [(.tmp 16), (.tmp 18)]) none), (AOper.mk (some 3) (.mov (.tmp 19)) none)])) (.region [(AOper.mk (some 14) (.mov (.tmp 4)) none), (AOper.mk (some 15) (.ibin .add (.tmp 14) (.const (.int .i64 1))) none), (AOper.mk (some 4) (.mov (.tmp 15)) none)])))))
def bxBits : ACode := (.block 4 (.loop (.seq (.seq (.region [(AOper.mk (some 20) (.mov (.tmp 6)) none), (AOper.mk (some 21) (.ibin .lss (.tmp 20) (.const (.int .i64 8))) none)]) (.cond (.tmp 21) .skip (.exit 4))) (.seq (.block 5 (.seq (.draw (ADraw.mk [(AOper.mk (some 24) (.mov (.tmp 3)) none), (AOper.mk (some 25) (.mov (.tmp 6)) none), (AOper.mk (some 26) (.ibin .shr (.tmp 24) (.tmp 25)) none), (AOper.mk (some 27) (.mov (.tmp 3)) none), (AOper.mk (some 28) (.mov (.tmp 6)) none), (AOper.mk (some 29) (.ibin .add (.tmp 28) (.const (.int .i64 4))) none), (AOper.mk (some 30) (.ibin .rem (.tmp 29) (.const (.int .i64 8))) none), (AOper.mk (some 31) (.ibin .shr (.tmp 27) (.tmp 30)) none), (AOper.mk (some 32) (.ibin .xor (.tmp 26) (.tmp 31)) none), (AOper.mk (some 33) (.mov (.tmp 3)) none), (AOper.mk (some 34) (.mov (.tmp 6)) none), (AOper.mk (some 35) (.ibin .add (.tmp 34) (.const (.int .i64 5))) none), (AOper.mk (some 36) (.ibin .rem (.tmp 35) (.const (.int .i64 8))) none), (AOper.mk (some 37) (.ibin .shr (.tmp 33) (.tmp 36)) none), (AOper.mk (some 38) (.ibin .xor (.tmp 32) (.tmp 37)) none), (AOper.mk (some 39) (.mov (.tmp 3)) none), (AOper.mk (some 40) (.mov (.tmp 6)) none), (AOper.mk (some 41) (.ibin .add (.tmp 40) (.const (.int .i64 6))) none), (AOper.mk (some 42) (.ibin .rem (.tmp 41) (.const (.int .i64 8))) none), (AOper.mk (some 43) (.ibin .shr (.tmp 39) (.tmp 42)) none), (AOper.mk (some 44) (.ibin .xor (.tmp 38) (.tmp 43)) none), (AOper.mk (some 45) (.mov (.tmp 3)) none), (AOper.mk (some 46) (.mov (.tmp 6)) none), (AOper.mk (some 47) (.ibin .add (.tmp 46) (.const (.int .i64 7))) none), (AOper.mk (some 48) (.ibin .rem (.tmp 47) (.const (.int .i64 8))) none), (AOper.mk (some 49) (.ibin .shr (.tmp 45) (.tmp 48)) none), (AOper.mk (some 50) (.ibin .xor (.tmp 44) (.tmp 49)) none), (AOper.mk (some 51) (.mov (.tmp 6)) none), (AOper.mk (some 52) (.ibin .shr (.const (.int .u8 99)) (.tmp 51)) none), (AOper.mk (some 53) (.ibin .xor (.tmp 50) (.tmp 52)) none), (AOper.mk (some 7) (.mov (.tmp 53)) none)] [0, 1, 2, 3, 4, 5, 6, 7, 8, 9, 10, 11, 12, 13, 14, 15, 16, 17, 18, 19, 20, 21, 22, 23, 24, 25, 26, 27, 28, 29, 30] [0, 0, 3, 0, 0, 16, 48, 120, 255, 0, 0, 1024, 3072, 7680, 16383, 0, 0, 65536, 196608, 491520, 1048575, 0, 0, 4194304, 12582912, 31457280, 67108863, 0, 134217728, 536870911, 1073741823] [(0, 0), (0, 0), (0, 0), (0, 0), (0, 0), (0, 0), (0, 0), (0, 0), (0, 0), (0, 0), (0, 0), (0, 0), (0, 0), (0, 0), (0, 0), (0, 0), (0, 0), (0, 0), (0, 0), (0, 0), (0, 0), (0, 0), (0, 0), (0, 0), (0, 0), (0, 0), (0, 0), (0, 0), (0, 0), (0, 0), (0, 0)] false)) (.region [(AOper.mk (some 54) (.mov (.tmp 5)) none), (AOper.mk (some 55) (.mov (.tmp 7)) none), (AOper.mk (some 56) (.ibin .and (.tmp 55) (.const (.int .u8 1))) none), (AOper.mk (some 57) (.mov (.tmp 6)) none), (AOper.mk (some 58) (.ibin .shl (.tmp 56) (.tmp 57)) none), (AOper.mk (some 59) (.ibin .or (.tmp 54) (.tmp 58)) none), (AOper.mk (some 5) (.mov (.tmp 59)) none)]))) (.region [(AOper.mk (some 22) (.mov (.tmp 6)) none), (AOper.mk (some 23) (.ibin .add (.tmp 22) (.const (.int .i64 1))) none), (AOper.mk (some 6) (.mov (.tmp 23)) none)])))))
def bxMain : ACode := (.block 0 (.loop (.seq (.seq (.region [(AOper.mk (some 8) (.mov (.tmp 2)) none), (AOper.mk (some 9) (.ibin .lss (.tmp 8) (.const (.int .i64 256))) none)]) (.cond (.tmp 9) .skip (.exit 0))) (.seq (.block 1 (.seq (.region [(AOper.mk (some 3) (.mov (.const (.int .u8 1))) none)]) (.seq (.seq (.region [(AOper.mk (some 4) (.mov (.const (.int .i64 0))) none)]) (.block 2 (.loop (.seq (.seq (.region [(AOper.mk (some 12) (.mov (.tmp 4)) none), (AOper.mk (some 13) (.ibin .lss (.tmp 12) (.const (.int .i64 254))) none)]) (.cond (.tmp 13) .skip (.exit 2))) (.seq (.block 3 (.region [(AOper.mk (some 16) (.mov (.tmp 3)) none), (AOper.mk (some 17) (.mov (.tmp 2)) none), (AOper.mk (some 18) (.convInt .u8 (.tmp 17)) none), (AOper.mk (some 19) (.call (.const (.func (.func 28) [] [])) [(.tmp 16), (.tmp 18)]) none), (AOper.mk (some 3) (.mov (.tmp 19)) none)])) (.region [(AOper.mk (some 14) (.mov (.tmp 4)) none), (AOper.mk (some 15) (.ibin .add (.tmp 14) (.const (.int .i64 1))) none), (AOper.mk (some 4) (.mov (.tmp 15)) none)])))))) (.seq (.region [(AOper.mk (some 5) (.mov (.const (.int .u8 0))) none)]) (.seq (.seq (.region [(AOper.mk (some 6) (.mov (.const (.int .i64 0))) none)]) (.block 4 (.loop (.seq (.seq (.region [(AOper.mk (some 20) (.mov (.tmp 6)) none), (AOper.mk (some 21) (.ibin .lss (.tmp 20) (.const (.int .i64 8))) none)]) (.cond (.tmp 21) .skip (.exit 4))) (.seq (.block 5 (.seq (.draw (ADraw.mk [(AOper.mk (some 24) (.mov (.tmp 3)) none), (AOper.mk (some 25) (.mov (.tmp 6)) none), (AOper.mk (some 26) (.ibin .shr (.tmp 24) (.tmp 25)) none), (AOper.mk (some 27) (.mov (.tmp 3)) none), (AOper.mk (some 28) (.mov (.tmp 6)) none), (AOper.mk (some 29) (.ibin .add (.tmp 28) (.const (.int .i64 4))) none), (AOper.mk (some 30) (.ibin .rem (.tmp 29) (.const (.int .i64 8))) none), (AOper.mk (some 31) (.ibin .shr (.tmp 27) (.tmp 30)) none), (AOper.mk (some 32) (.ibin .xor (.tmp 26) (.tmp 31)) none), (AOper.mk (some 33) (.mov (.tmp 3)) none), (AOper.mk (some 34) (.mov (.tmp 6)) none), (AOper.mk (some 35) (.ibin .add (.tmp 34) (.const (.int .i64 5))) none), (AOper.mk (some 36) (.ibin .rem (.tmp 35) (.const (.int .i64 8))) none), (AOper.mk (some 37) (.ibin .shr (.tmp 33) (.tmp 36)) none), (AOper.mk (some 38) (.ibin .xor (.tmp 32) (.tmp 37)) none), (AOper.mk (some 39) (.mov (.tmp 3)) none), (AOper.mk (some 40) (.mov (.tmp 6)) none), (AOper.mk (some 41) (.ibin .add (.tmp 40) (.const (.int .i64 6))) none), (AOper.mk (some 42) (.ibin .rem (.tmp 41) (.const (.int .i64 8))) none), (AOper.mk (some 43) (.ibin .shr (.tmp 39) (.tmp 42)) none), (AOper.mk (some 44) (.ibin .xor (.tmp 38) (.tmp 43)) none), (AOper.mk (some 45) (.mov (.tmp 3)) none), (AOper.mk (some 46) (.mov (.tmp 6)) none), (AOper.mk (some 47) (.ibin .add (.tmp 46) (.const (.int .i64 7))) none), (AOper.mk (some 48) (.ibin .rem (.tmp 47) (.const (.int .i64 8))) none), (AOper.mk (some 49) (.ibin .shr (.tmp 45) (.tmp 48)) none), (AOper.mk (some 50) (.ibin .xor (.tmp 44) (.tmp 49)) none), (AOper.mk (some 51) (.mov (.tmp 6)) none), (AOper.mk (some 52) (.ibin .shr (.const (.int .u8 99)) (.tmp 51)) none), (AOper.mk (some 53) (.ibin .xor (.tmp 50) (.tmp 52)) none), (AOper.mk (some 7) (.mov (.tmp 53)) none)] [0, 1, 2, 3, 4, 5, 6, 7, 8, 9, 10, 11, 12, 13, 14, 15, 16, 17, 18, 19, 20, 21, 22, 23, 24, 25, 26, 27, 28, 29, 30] [0, 0, 3, 0, 0, 16, 48, 120, 255, 0, 0, 1024, 3072, 7680, 16383, 0, 0, 65536, 196608, 491520, 1048575, 0, 0, 4194304, 12582912, 31457280, 67108863, 0, 134217728, 536870911, 1073741823] [(0, 0), (0, 0), (0, 0), (0, 0), (0, 0), (0, 0), (0, 0), (0, 0), (0, 0), (0, 0), (0, 0), (0, 0), (0, 0), (0, 0), (0, 0), (0, 0), (0, 0), (0, 0), (0, 0), (0, 0), (0, 0), (0, 0), (0, 0), (0, 0), (0, 0), (0, 0), (0, 0), (0, 0), (0, 0), (0, 0), (0, 0)] false)) (.region [(AOper.mk (some 54) (.mov (.tmp 5)) none), (AOper.mk (some 55) (.mov (.tmp 7)) none), (AOper.mk (some 56) (.ibin .and (.tmp 55) (.const (.int .u8 1))) none), (AOper.mk (some 57) (.mov (.tmp 6)) none), (AOper.mk (some 58) (.ibin .shl (.tmp 56) (.tmp 57)) none), (AOper.mk (some 59) (.ibin .or (.tmp 54) (.tmp 58)) none), (AOper.mk (some 5) (.mov (.tmp 59)) none)]))) (.region [(AOper.mk (some 22) (.mov (.tmp 6)) none), (AOper.mk (some 23) (.ibin .add (.tmp 22) (.const (.int .i64 1))) none), (AOper.mk (some 6) (.mov (.tmp 23)) none)])))))) (.region [(AOper.mk (some 60) (.mov (.tmp 2)) none), (AOper.mk (some 61) (.mov (.tmp 5)) none), (AOper.mk (some 62) (.indexArr 256 1 (.tmp 1) (.tmp 60)) none), (AOper.mk none (.store 1 (.tmp 62) (.tmp 61)) none)])))))) (.region [(AOper.mk (some 10) (.mov (.tmp 2)) none), (AOper.mk (some 11) (.ibin .add (.tmp 10) (.const (.int .i64 1))) none), (AOper.mk (some 2) (.mov (.tmp 11)) none)])))))

theorem w_conv {all os : List AOper} {dst : Option Nat} {k : IntKind} {x : AX} {a : Frm} {H : Heap} {Q : Frm → Heap → Prop} :
    WOps E all (⟨dst, .convInt k x, none⟩ :: os) a H Q ↔ ∃ v, rd (.convInt k x) a H = some v ∧ WOps E all os (put a dst v) H Q := WOps_rd rfl
theorem conv_nn {a : Frm} {H : Heap} {x : AX} {n : Nat} (h : evalX a x = nn n) : rd (.convInt .u8 x) a H = some (by' (UInt8.ofNat n)) := by
  simp only [rd, h, nn, conv_u8, by']
theorem b99 : AV.int .u8 99 = by' 99 := rfl
theorem b2 : AV.int .u8 2 = by' 2 := rfl
theorem b3 : AV.int .u8 3 = by' 3 := rfl

theorem bx_pow (hE : ∀ f, E.funcs f = Aes.funcsT.get f) (hx : ∀ f args H, special f = false → E.sums f args H = none) {a : Frm} {H : Heap} {x : Nat} (h2 : a.get 2 = some (nn x)) (h3 : a.get 3 = some (by' 1)) (h4 : a.get 4 = some (nn 0)) {Q : AExit → Frm → Heap → Prop}
    (hQ : ∀ a', a'.get 0 = a.get 0 → a'.get 1 = a.get 1 → a'.get 2 = a.get 2 → a'.get 3 = some (by' (powK (UInt8.ofNat x) 254)) → Q .normal a' H) : W E bxPow a H Q := by
  refine W.block ?_
  refine W.count 254 (fun k a' H' => H' = H ∧ a'.get 0 = a.get 0 ∧ a'.get 1 = a.get 1 ∧ a'.get 2 = a.get 2 ∧ a'.get 3 = some (by' (powK (UInt8.ofNat x) k)) ∧ a'.get 4 = some (nn k)) ?_ ?_ 0 _ H (by omega) ?_
  · intro k a1 H1 hk ⟨rfl, g0, g1, g2, g3, g4⟩
    rw [h2] at g2
    refine W.seq (W.seq (W.region ?_))
    simp only [w_mov, w_ibin, w_load1, w_loadN, w_nilCheck, w_indexArr, w_indexSl, w_indexVal, w_indexStr, w_lenStr, w_lenSl, w_store, w_alloc, w_box, w_build, w_sliceArr, w_bytesToStr, w_pick, WOps_nil, thenQ_normal, eX_t, eX_c, put_s, put_n, getset, Nat.reduceEqDiff, if_false, if_true, Option.getD_some, rd, natOf_nn, natOf_by, Option.some.injEq, exists_eq_left', Prod.mk.injEq, and_assoc, exists_and_left, true_and, Nat.zero_add, Nat.add_zero, Nat.mul_one, ble_t, mul_nn, quo_nn, rem_nn, add_nn, sub_nn, lss_nn, eql_nn, neq_nn, xor_by, k0, k1, k2, k3, k4, k5, k6, k7, k8, k12, k13, k14, k15, k16, k32, k60, k254, k256, g4]
    refine W.cond (b := true) (by simp only [eX_t, eX_c, put_s, put_n, getset, Nat.reduceEqDiff, if_false, if_true, Option.getD_some]; simp [hk]) (W.skip ?_)
    rw [thenQ_normal]
    refine W.seq (W.block (W.region ?_))
    simp only [w_mov, eX_t, eX_c, put_s, put_n, getset, Nat.reduceEqDiff, if_false, if_true, Option.getD_some, g3, g2]
    rw [w_conv]
    refine ⟨_, conv_nn (n := x) (by simp only [eX_t, eX_c, put_s, put_n, getset, Nat.reduceEqDiff, if_false, if_true, Option.getD_some]), ?_⟩
    refine WOps.call (g := 28) (first := []) (captured := []) (by simp only [eX_t, eX_c, put_s, put_n, getset, Nat.reduceEqDiff, if_false, if_true, Option.getD_some]) ?_
    simp only [List.map_cons, List.map_nil, List.nil_append, List.append_nil, eX_t, eX_c, put_s, put_n, getset, Nat.reduceEqDiff, if_false, if_true, Option.getD_some]
    refine product_ok hE hx ?_
    simp only [w_mov, w_ibin, w_load1, w_loadN, w_nilCheck, w_indexArr, w_indexSl, w_indexVal, w_indexStr, w_lenStr, w_lenSl, w_store, w_alloc, w_box, w_build, w_sliceArr, w_bytesToStr, w_pick, WOps_nil, thenQ_normal, eX_t, eX_c, put_s, put_n, getset, Nat.reduceEqDiff, if_false, if_true, Option.getD_some, blockQ_normal]
    refine W.region ?_
    simp (disch := omega) only [w_mov, w_ibin, w_load1, w_loadN, w_nilCheck, w_indexArr, w_indexSl, w_indexVal, w_indexStr, w_lenStr, w_lenSl, w_store, w_alloc, w_box, w_build, w_sliceArr, w_bytesToStr, w_pick, WOps_nil, thenQ_normal, eX_t, eX_c, put_s, put_n, getset, Nat.reduceEqDiff, if_false, if_true, Option.getD_some, rd, natOf_nn, natOf_by, Option.some.injEq, exists_eq_left', Prod.mk.injEq, and_assoc, exists_and_left, true_and, Nat.zero_add, Nat.add_zero, Nat.mul_one, ble_t, mul_nn, quo_nn, rem_nn, add_nn, sub_nn, lss_nn, eql_nn, neq_nn, xor_by, k0, k1, k2, k3, k4, k5, k6, k7, k8, k12, k13, k14, k15, k16, k32, k60, k254, k256, g4]
    refine ⟨g0, g1, by rw [g2, h2], by rw [powK], trivial⟩
  · intro a1 H1 ⟨rfl, g0, g1, g2, g3, g4⟩
    refine W.seq (W.seq (W.region ?_))
    simp only [w_mov, w_ibin, w_load1, w_loadN, w_nilCheck, w_indexArr, w_indexSl, w_indexVal, w_indexStr, w_lenStr, w_lenSl, w_store, w_alloc, w_box, w_build, w_sliceArr, w_bytesToStr, w_pick, WOps_nil, thenQ_normal, eX_t, eX_c, put_s, put_n, getset, Nat.reduceEqDiff, if_false, if_true, Option.getD_some, rd, natOf_nn, natOf_by, Option.some.injEq, exists_eq_left', Prod.mk.injEq, and_assoc, exists_and_left, true_and, Nat.zero_add, Nat.add_zero, Nat.mul_one, ble_t, mul_nn, quo_nn, rem_nn, add_nn, sub_nn, lss_nn, eql_nn, neq_nn, xor_by, k0, k1, k2, k3, k4, k5, k6, k7, k8, k12, k13, k14, k15, k16, k32, k60, k254, k256, g4]
    refine W.cond (b := false) (by simp only [eX_t, eX_c, put_s, put_n, getset, Nat.reduceEqDiff, if_false, if_true, Option.getD_some]; simp) (W.exit ?_)
    rw [thenQ_exit]
    refine ⟨nofun, ?_⟩
    simp only [blockQ_exit, Nat.beq_refl, cond_true]
    refine hQ _ ?_ ?_ ?_ ?_ <;> simp only [eX_t, eX_c, put_s, put_n, getset, Nat.reduceEqDiff, if_false, if_true, Option.getD_some] <;> assumption
  · exact ⟨rfl, rfl, rfl, rfl, by rw [h3, powK], h4⟩

theorem bx_bit {a : Frm} {H : Heap} {b : UInt8} {i : Nat} (h3 : a.get 3 = some (by' b)) (h6 : a.get 6 = some (nn i)) (hi : i < 8) {Q : AExit → Frm → Heap → Prop}
    (hQ : ∀ a', a'.get 0 = a.get 0 → a'.get 1 = a.get 1 → a'.get 2 = a.get 2 → a'.get 3 = a.get 3 → a'.get 5 = a.get 5 → a'.get 6 = a.get 6 → a'.get 7 = some (by' (bitK b i)) → Q .normal a' ⟨H.t, H.next + 31⟩) : W E (.draw bxDraw) a H Q := by
  refine W_draw (l := _) rfl (N := 31) rfl ?_
  have k9 : AV.int .i64 5 = nn 5 := rfl
  simp (disch := omega) only [bxDraw, l_mov, l_ibin, l_load1, l_loadN, l_nilCheck, l_indexArr, l_indexSl, l_indexVal, l_indexStr, l_lenStr, l_lenSl, l_store, l_build, WL_nil, eX_t, eX_c, put_s, put_n, getset, Nat.reduceEqDiff, if_false, if_true, Option.getD_some, rd, natOf_nn, natOf_by, Option.some.injEq, exists_eq_left', Prod.mk.injEq, and_assoc, exists_and_left, true_and, Nat.zero_add, Nat.add_zero, Nat.mul_one, ble_t, mul_nn, quo_nn, rem_nn, add_nn, sub_nn, lss_nn, eql_nn, neq_nn, xor_by, k0, k1, k2, k3, k4, k5, k6, k7, k8, k12, k13, k14, k15, k16, k32, k60, k254, k256, h3, h6, shr_by, b99]
  refine ⟨?_, _, _, rfl, ?_⟩
  · simp only [stable_cons, stable_nil, sm_mov, sm_ibin, sm_nilCheck, sm_indexArr, sm_indexSl, sm_indexVal, sm_indexStr, sm_lenStr, sm_lenSl, sm_build, sm_store, sm_call, Bool.true_and, Bool.and_true, Bool.and_eq_true, List.reverse_cons, List.reverse_nil, List.nil_append, List.cons_append, List.drop_zero, List.drop_succ_cons, Nat.sub_zero, Nat.succ_eq_add_one, Nat.zero_add, Nat.reduceAdd, Nat.reduceSub, List.take_succ_cons, List.take_zero, List.take_nil]
  · refine hQ _ ?_ ?_ ?_ ?_ ?_ ?_ ?_ <;> simp only [eX_t, eX_c, put_s, put_n, getset, Nat.reduceEqDiff, if_false, if_true, Option.getD_some, bitK]

theorem bx_bits {a : Frm} {H : Heap} {b : UInt8} (h3 : a.get 3 = some (by' b)) (h5 : a.get 5 = some (by' 0)) (h6 : a.get 6 = some (nn 0)) {Q : AExit → Frm → Heap → Prop}
    (hQ : ∀ a' H', a'.get 0 = a.get 0 → a'.get 1 = a.get 1 → a'.get 2 = a.get 2 → a'.get 5 = some (by' (affK b 8)) → H.next ≤ H'.next → H'.t = H.t → Q .normal a' H') : W E bxBits a H Q := by
  refine W.block ?_
  refine W.count 8 (fun i a' H' => H.next ≤ H'.next ∧ H'.t = H.t ∧ a'.get 0 = a.get 0 ∧ a'.get 1 = a.get 1 ∧ a'.get 2 = a.get 2 ∧ a'.get 3 = some (by' b) ∧ a'.get 5 = some (by' (affK b i)) ∧ a'.get 6 = some (nn i)) ?_ ?_ 0 _ H (by omega) ?_
  · intro i a1 H1 hi ⟨hn, ht, g0, g1, g2, g3, g5, g6⟩
    refine W.seq (W.seq (W.region ?_))
    simp only [w_mov, w_ibin, w_load1, w_loadN, w_nilCheck, w_indexArr, w_indexSl, w_indexVal, w_indexStr, w_lenStr, w_lenSl, w_store, w_alloc, w_box, w_build, w_sliceArr, w_bytesToStr, w_pick, WOps_nil, thenQ_normal, eX_t, eX_c, put_s, put_n, getset, Nat.reduceEqDiff, if_false, if_true, Option.getD_some, rd, natOf_nn, natOf_by, Option.some.injEq, exists_eq_left', Prod.mk.injEq, and_assoc, exists_and_left, true_and, Nat.zero_add, Nat.add_zero, Nat.mul_one, ble_t, mul_nn, quo_nn, rem_nn, add_nn, sub_nn, lss_nn, eql_nn, neq_nn, xor_by, k0, k1, k2, k3, k4, k5, k6, k7, k8, k12, k13, k14, k15, k16, k32, k60, k254, k256, g6]
    refine W.cond (b := true) (by simp only [eX_t, eX_c, put_s, put_n, getset, Nat.reduceEqDiff, if_false, if_true, Option.getD_some]; simp [hi]) (W.skip ?_)
    rw [thenQ_normal]
    refine W.seq (W.block (W.seq (bx_bit (b := b) (i := i) (by simp only [eX_t, eX_c, put_s, put_n, getset, Nat.reduceEqDiff, if_false, if_true, Option.getD_some]; exact g3) (by simp only [eX_t, eX_c, put_s, put_n, getset, Nat.reduceEqDiff, if_false, if_true, Option.getD_some]; exact g6) hi ?_)))
    intro a' f0 f1 f2 f3 f5 f6 f7
    simp only [getset, Nat.reduceEqDiff, if_false] at f0 f1 f2 f3 f5 f6
    rw [g3] at f3
    rw [g5] at f5
    rw [g6] at f6
    rw [thenQ_normal]
    refine W.region ?_
    simp (disch := omega) only [w_mov, w_ibin, w_load1, w_loadN, w_nilCheck, w_indexArr, w_indexSl, w_indexVal, w_indexStr, w_lenStr, w_lenSl, w_store, w_alloc, w_box, w_build, w_sliceArr, w_bytesToStr, w_pick, WOps_nil, thenQ_normal, eX_t, eX_c, put_s, put_n, getset, Nat.reduceEqDiff, if_false, if_true, Option.getD_some, rd, natOf_nn, natOf_by, Option.some.injEq, exists_eq_left', Prod.mk.injEq, and_assoc, exists_and_left, true_and, Nat.zero_add, Nat.add_zero, Nat.mul_one, ble_t, mul_nn, quo_nn, rem_nn, add_nn, sub_nn, lss_nn, eql_nn, neq_nn, xor_by, k0, k1, k2, k3, k4, k5, k6, k7, k8, k12, k13, k14, k15, k16, k32, k60, k254, k256, f5, f6, f7, b1, and_by, shl_by, or_by, blockQ_normal]
    refine W.region ?_
    simp (disch := omega) only [w_mov, w_ibin, w_load1, w_loadN, w_nilCheck, w_indexArr, w_indexSl, w_indexVal, w_indexStr, w_lenStr, w_lenSl, w_store, w_alloc, w_box, w_build, w_sliceArr, w_bytesToStr, w_pick, WOps_nil, thenQ_normal, eX_t, eX_c, put_s, put_n, getset, Nat.reduceEqDiff, if_false, if_true, Option.getD_some, rd, natOf_nn, natOf_by, Option.some.injEq, exists_eq_left', Prod.mk.injEq, and_assoc, exists_and_left, true_and, Nat.zero_add, Nat.add_zero, Nat.mul_one, ble_t, mul_nn, quo_nn, rem_nn, add_nn, sub_nn, lss_nn, eql_nn, neq_nn, xor_by, k0, k1, k2, k3, k4, k5, k6, k7, k8, k12, k13, k14, k15, k16, k32, k60, k254, k256, f6]
    refine ⟨by omega, ht, f0.trans g0, f1.trans g1, f2.trans g2, f3, by rw [affK], trivial⟩
  · intro a1 H1 ⟨hn, ht, g0, g1, g2, g3, g5, g6⟩
    refine W.seq (W.seq (W.region ?_))
    simp only [w_mov, w_ibin, w_load1, w_loadN, w_nilCheck, w_indexArr, w_indexSl, w_indexVal, w_indexStr, w_lenStr, w_lenSl, w_store, w_alloc, w_box, w_build, w_sliceArr, w_bytesToStr, w_pick, WOps_nil, thenQ_normal, eX_t, eX_c, put_s, put_n, getset, Nat.reduceEqDiff, if_false, if_true, Option.getD_some, rd, natOf_nn, natOf_by, Option.some.injEq, exists_eq_left', Prod.mk.injEq, and_assoc, exists_and_left, true_and, Nat.zero_add, Nat.add_zero, Nat.mul_one, ble_t, mul_nn, quo_nn, rem_nn, add_nn, sub_nn, lss_nn, eql_nn, neq_nn, xor_by, k0, k1, k2, k3, k4, k5, k6, k7, k8, k12, k13, k14, k15, k16, k32, k60, k254, k256, g6]
    refine W.cond (b := false) (by simp only [eX_t, eX_c, put_s, put_n, getset, Nat.reduceEqDiff, if_false, if_true, Option.getD_some]; simp) (W.exit ?_)
    rw [thenQ_exit]
    refine ⟨nofun, ?_⟩
    simp only [blockQ_exit, Nat.beq_refl, cond_true]
    refine hQ _ _ ?_ ?_ ?_ ?_ hn ht <;> simp only [eX_t, eX_c, put_s, put_n, getset, Nat.reduceEqDiff, if_false, if_true, Option.getD_some] <;> assumption
  · exact ⟨Nat.le_refl _, rfl, rfl, rfl, rfl, h3, by rw [h5, affK], h6⟩

theorem bx_main (hE : ∀ f, E.funcs f = Aes.funcsT.get f) (hx : ∀ f args H, special f = false → E.sums f args H = none) {a : Frm} {H : Heap} {o : Nat} (h1 : a.get 1 = some (.ptr (some (o, 0)))) (h2 : a.get 2 = some (nn 0)) (hob : o < H.next)
    (ho : H.t.get o = some (.cells (bs (outK 0)) 42 false false)) {Q : AExit → Frm → Heap → Prop}
    (hQ : ∀ a' H', a'.get 0 = a.get 0 → a'.get 1 = a.get 1 → H.next ≤ H'.next → (∀ j, H'.t.get j = if o = j then some (.cells (bs (outK 256)) 42 false false) else H.t.get j) → Q .normal a' H') : W E bxMain a H Q := by
  refine W.block ?_
  refine W.count 256 (fun x a' H' => H.next ≤ H'.next ∧ (∀ j, H'.t.get j = if o = j then some (.cells (bs (outK x)) 42 false false) else H.t.get j) ∧ a'.get 0 = a.get 0 ∧ a'.get 1 = a.get 1 ∧ a'.get 2 = some (nn x)) ?_ ?_ 0 _ H (by omega) ?_
  · intro x a1 H1 hxx ⟨hn, hb, g0, g1, g2⟩
    refine W.seq (W.seq (W.region ?_))
    simp only [w_mov, w_ibin, w_load1, w_loadN, w_nilCheck, w_indexArr, w_indexSl, w_indexVal, w_indexStr, w_lenStr, w_lenSl, w_store, w_alloc, w_box, w_build, w_sliceArr, w_bytesToStr, w_pick, WOps_nil, thenQ_normal, eX_t, eX_c, put_s, put_n, getset, Nat.reduceEqDiff, if_false, if_true, Option.getD_some, rd, natOf_nn, natOf_by, Option.some.injEq, exists_eq_left', Prod.mk.injEq, and_assoc, exists_and_left, true_and, Nat.zero_add, Nat.add_zero, Nat.mul_one, ble_t, mul_nn, quo_nn, rem_nn, add_nn, sub_nn, lss_nn, eql_nn, neq_nn, xor_by, k0, k1, k2, k3, k4, k5, k6, k7, k8, k12, k13, k14, k15, k16, k32, k60, k254, k256, g2]
    refine W.cond (b := true) (by simp only [eX_t, eX_c, put_s, put_n, getset, Nat.reduceEqDiff, if_false, if_true, Option.getD_some]; simp [hxx]) (W.skip ?_)
    rw [thenQ_normal]
    refine W.seq (W.block (W.seq (W.region ?_)))
    simp only [w_mov, w_ibin, w_load1, w_loadN, w_nilCheck, w_indexArr, w_indexSl, w_indexVal, w_indexStr, w_lenStr, w_lenSl, w_store, w_alloc, w_box, w_build, w_sliceArr, w_bytesToStr, w_pick, WOps_nil, thenQ_normal, eX_t, eX_c, put_s, put_n, getset, Nat.reduceEqDiff, if_false, if_true, Option.getD_some, rd, natOf_nn, natOf_by, Option.some.injEq, exists_eq_left', Prod.mk.injEq, and_assoc, exists_and_left, true_and, Nat.zero_add, Nat.add_zero, Nat.mul_one, ble_t, mul_nn, quo_nn, rem_nn, add_nn, sub_nn, lss_nn, eql_nn, neq_nn, xor_by, k0, k1, k2, k3, k4, k5, k6, k7, k8, k12, k13, k14, k15, k16, k32, k60, k254, k256, b1]
    refine W.seq (W.seq (W.region ?_))
    simp only [w_mov, w_ibin, w_load1, w_loadN, w_nilCheck, w_indexArr, w_indexSl, w_indexVal, w_indexStr, w_lenStr, w_lenSl, w_store, w_alloc, w_box, w_build, w_sliceArr, w_bytesToStr, w_pick, WOps_nil, thenQ_normal, eX_t, eX_c, put_s, put_n, getset, Nat.reduceEqDiff, if_false, if_true, Option.getD_some, rd, natOf_nn, natOf_by, Option.some.injEq, exists_eq_left', Prod.mk.injEq, and_assoc, exists_and_left, true_and, Nat.zero_add, Nat.add_zero, Nat.mul_one, ble_t, mul_nn, quo_nn, rem_nn, add_nn, sub_nn, lss_nn, eql_nn, neq_nn, xor_by, k0, k1, k2, k3, k4, k5, k6, k7, k8, k12, k13, k14, k15, k16, k32, k60, k254, k256]
    refine bx_pow hE hx (x := x) (by simp only [eX_t, eX_c, put_s, put_n, getset, Nat.reduceEqDiff, if_false, if_true, Option.getD_some]; exact g2) (by simp only [eX_t, eX_c, put_s, put_n, getset, Nat.reduceEqDiff, if_false, if_true, Option.getD_some]) (by simp only [eX_t, eX_c, put_s, put_n, getset, Nat.reduceEqDiff, if_false, if_true, Option.getD_some]) ?_
    intro a2 f0 f1 f2 f3
    simp only [getset, Nat.reduceEqDiff, if_false] at f0 f1 f2
    rw [g2] at f2
    rw [thenQ_normal]
    refine W.seq (W.region ?_)
    simp only [w_mov, w_ibin, w_load1, w_loadN, w_nilCheck, w_indexArr, w_indexSl, w_indexVal, w_indexStr, w_lenStr, w_lenSl, w_store, w_alloc, w_box, w_build, w_sliceArr, w_bytesToStr, w_pick, WOps_nil, thenQ_normal, eX_t, eX_c, put_s, put_n, getset, Nat.reduceEqDiff, if_false, if_true, Option.getD_some, rd, natOf_nn, natOf_by, Option.some.injEq, exists_eq_left', Prod.mk.injEq, and_assoc, exists_and_left, true_and, Nat.zero_add, Nat.add_zero, Nat.mul_one, ble_t, mul_nn, quo_nn, rem_nn, add_nn, sub_nn, lss_nn, eql_nn, neq_nn, xor_by, k0, k1, k2, k3, k4, k5, k6, k7, k8, k12, k13, k14, k15, k16, k32, k60, k254, k256, b0]
    refine W.seq (W.seq (W.region ?_))
    simp only [w_mov, w_ibin, w_load1, w_loadN, w_nilCheck, w_indexArr, w_indexSl, w_indexVal, w_indexStr, w_lenStr, w_lenSl, w_store, w_alloc, w_box, w_build, w_sliceArr, w_bytesToStr, w_pick, WOps_nil, thenQ_normal, eX_t, eX_c, put_s, put_n, getset, Nat.reduceEqDiff, if_false, if_true, Option.getD_some, rd, natOf_nn, natOf_by, Option.some.injEq, exists_eq_left', Prod.mk.injEq, and_assoc, exists_and_left, true_and, Nat.zero_add, Nat.add_zero, Nat.mul_one, ble_t, mul_nn, quo_nn, rem_nn, add_nn, sub_nn, lss_nn, eql_nn, neq_nn, xor_by, k0, k1, k2, k3, k4, k5, k6, k7, k8, k12, k13, k14, k15, k16, k32, k60, k254, k256]
    refine bx_bits (b := powK (UInt8.ofNat x) 254) (by simp only [eX_t, eX_c, put_s, put_n, getset, Nat.reduceEqDiff, if_false, if_true, Option.getD_some]; exact f3) (by simp only [eX_t, eX_c, put_s, put_n, getset, Nat.reduceEqDiff, if_false, if_true, Option.getD_some]) (by simp only [eX_t, eX_c, put_s, put_n, getset, Nat.reduceEqDiff, if_false, if_true, Option.getD_some]) ?_
    intro a3 H3 q0 q1 q2 q5 hn3 ht3
    simp only [getset, Nat.reduceEqDiff, if_false] at q0 q1 q2
    rw [f2] at q2
    rw [f1, g1, h1] at q1
    obtain ⟨T3, n3⟩ := H3
    simp only at hn3 ht3
    subst ht3
    have ho3 : H1.t.get o = some (.cells (bs (outK x)) 42 false false) := by rw [hb, if_pos rfl]
    rw [thenQ_normal]
    refine W.region ?_
    simp (disch := omega) only [w_mov, w_indexArr, w_store, eX_t, eX_c, put_s, put_n, getset, Nat.reduceEqDiff, if_false, if_true, Option.getD_some, rd, natOf_nn, natOf_by, Option.some.injEq, exists_eq_left', Prod.mk.injEq, and_assoc, exists_and_left, true_and, Nat.zero_add, Nat.add_zero, Nat.mul_one, ble_t, mul_nn, quo_nn, rem_nn, add_nn, sub_nn, lss_nn, eql_nn, neq_nn, xor_by, k0, k1, k2, k3, k4, k5, k6, k7, k8, k12, k13, k14, k15, k16, k32, k60, k254, k256, q1, q2, q5, wst_by (ho3) (by rw [length_outK]; exact hxx : x < (outK x).length), WOps_nil, blockQ_normal, thenQ_normal]
    refine W.region ?_
    simp (disch := omega) only [w_mov, w_ibin, w_load1, w_loadN, w_nilCheck, w_indexArr, w_indexSl, w_indexVal, w_indexStr, w_lenStr, w_lenSl, w_store, w_alloc, w_box, w_build, w_sliceArr, w_bytesToStr, w_pick, WOps_nil, thenQ_normal, eX_t, eX_c, put_s, put_n, getset, Nat.reduceEqDiff, if_false, if_true, Option.getD_some, rd, natOf_nn, natOf_by, Option.some.injEq, exists_eq_left', Prod.mk.injEq, and_assoc, exists_and_left, true_and, Nat.zero_add, Nat.add_zero, Nat.mul_one, ble_t, mul_nn, quo_nn, rem_nn, add_nn, sub_nn, lss_nn, eql_nn, neq_nn, xor_by, k0, k1, k2, k3, k4, k5, k6, k7, k8, k12, k13, k14, k15, k16, k32, k60, k254, k256, q2]
    refine ⟨by omega, ?_, q0.trans (f0.trans g0), by rw [q1, h1], trivial⟩
    intro j
    by_cases h : o = j
    · rw [if_pos h, if_pos h, outK]
    · rw [if_neg h, if_neg h, hb, if_neg h]
  · intro a1 H1 ⟨hn, hb, g0, g1, g2⟩
    refine W.seq (W.seq (W.region ?_))
    simp only [w_mov, w_ibin, w_load1, w_loadN, w_nilCheck, w_indexArr, w_indexSl, w_indexVal, w_indexStr, w_lenStr, w_lenSl, w_store, w_alloc, w_box, w_build, w_sliceArr, w_bytesToStr, w_pick, WOps_nil, thenQ_normal, eX_t, eX_c, put_s, put_n, getset, Nat.reduceEqDiff, if_false, if_true, Option.getD_some, rd, natOf_nn, natOf_by, Option.some.injEq, exists_eq_left', Prod.mk.injEq, and_assoc, exists_and_left, true_and, Nat.zero_add, Nat.add_zero, Nat.mul_one, ble_t, mul_nn, quo_nn, rem_nn, add_nn, sub_nn, lss_nn, eql_nn, neq_nn, xor_by, k0, k1, k2, k3, k4, k5, k6, k7, k8, k12, k13, k14, k15, k16, k32, k60, k254, k256, g2]
    refine W.cond (b := false) (by simp only [eX_t, eX_c, put_s, put_n, getset, Nat.reduceEqDiff, if_false, if_true, Option.getD_some]; simp) (W.exit ?_)
    rw [thenQ_exit]
    refine ⟨nofun, ?_⟩
    simp only [blockQ_exit, Nat.beq_refl, cond_true]
    refine hQ _ _ ?_ ?_ hn hb <;> simp only [eX_t, eX_c, put_s, put_n, getset, Nat.reduceEqDiff, if_false, if_true, Option.getD_some] <;> assumption
  · refine ⟨Nat.le_refl _, ?_, rfl, rfl, h2⟩
    intro j
    by_cases h : o = j
    · subst h; rw [if_pos rfl]; exact ho
    · rw [if_neg h]
end Go.AE
end
-- The reference's box is the program's.
section
set_option linter.unusedVariables false
set_option linter.unusedSimpArgs false
set_option maxRecDepth 100000
set_option maxHeartbeats 600000
namespace Go.AE
variable {E : Env}

/-! numbers for bytes: the kernel reckons them fast -/

def twN (a : Nat) : Nat := Nat.xor (Nat.mul 2 a) (Nat.mul (Nat.div a 128) 283)

theorem tw_all : (List.range 256).all (fun a => Nat.beq (tw (UInt8.ofNat a)).toNat (twN a)) = true := by kernel_rfl

theorem tw_nat (b : UInt8) : (tw b).toNat = twN b.toNat := by
  have := List.all_eq_true.1 tw_all b.toNat (List.mem_range.2 b.toNat_lt)
  rw [UInt8.ofNat_toNat] at this
  exact Nat.eq_of_beq_eq_true this

def bitN (b i : Nat) : Nat := Nat.mod (Nat.div b (Nat.pow 2 i)) 2

def prodKN (a b : Nat) : Nat → Nat × Nat
  | 0 => (0, a)
  | i + 1 => (Nat.xor (prodKN a b i).1 (Nat.mul (bitN b i) (prodKN a b i).2), twN (prodKN a b i).2)

theorem bit_nat (b : UInt8) {i : Nat} (hi : i < 8) : decide (b >>> UInt8.ofNat i &&& 1 = 1) = Nat.beq (bitN b.toNat i) 1 := by
  have e2 : (b >>> UInt8.ofNat i).toNat = b.toNat / 2 ^ i := by
    rw [UInt8.toNat_shiftRight, UInt8.toNat_ofNat', Nat.mod_eq_of_lt (by omega : i < 2 ^ 8), Nat.mod_eq_of_lt hi, Nat.shiftRight_eq_div_pow]
  have e3 : (b >>> UInt8.ofNat i &&& 1).toNat = bitN b.toNat i := by
    rw [UInt8.toNat_and, e2]
    show b.toNat / 2 ^ i &&& 1 = b.toNat / 2 ^ i % 2
    exact Nat.and_one_is_mod _
  rw [← e3]
  cases h : Nat.beq (b >>> UInt8.ofNat i &&& 1).toNat 1 with
  | true =>
    have := Nat.eq_of_beq_eq_true h
    have h2 : b >>> UInt8.ofNat i &&& 1 = 1 := UInt8.toNat_inj.1 this
    simp [h2]
  | false =>
    have := Nat.ne_of_beq_eq_false h
    have h2 : ¬ (b >>> UInt8.ofNat i &&& 1 = 1) := fun e => this (by rw [e]; rfl)
    simp [h2]

theorem prodK_nat (a b : UInt8) : ∀ i, i ≤ 8 → (prodK a b i).1.toNat = (prodKN a.toNat b.toNat i).1 ∧ (prodK a b i).2.toNat = (prodKN a.toNat b.toNat i).2
  | 0, _ => ⟨rfl, rfl⟩
  | i + 1, hi => by
    obtain ⟨h1, h2⟩ := prodK_nat a b i (by omega)
    rw [prodK, prodKN]
    refine ⟨?_, by simp only [tw_nat, h2]⟩
    simp only
    rw [bit_nat b (by omega : i < 8)]
    have hb : bitN b.toNat i < 2 := Nat.mod_lt _ (by omega)
    rcases (show bitN b.toNat i = 0 ∨ bitN b.toNat i = 1 by omega) with h | h
    · rw [h]
      show (prodK a b i).1.toNat = Nat.xor _ (Nat.mul 0 _)
      rw [h1]
      show _ = (prodKN a.toNat b.toNat i).1 ^^^ (0 * (prodKN a.toNat b.toNat i).2)
      rw [Nat.zero_mul, Nat.xor_zero]
    · rw [h]
      show ((prodK a b i).1 ^^^ (prodK a b i).2).toNat = Nat.xor _ (Nat.mul 1 _)
      rw [UInt8.toNat_xor, h1, h2]
      show _ = (prodKN a.toNat b.toNat i).1 ^^^ (1 * (prodKN a.toNat b.toNat i).2)
      rw [Nat.one_mul]

/-- the product, told so that the kernel reckons it fast -/
def prodN (a b : Nat) : Nat := (prodKN a b 8).1

theorem prod_nat (a b : UInt8) : (prod a b).toNat = prodN a.toNat b.toNat := (prodK_nat a b 8 (by omega)).1

def powN (x : Nat) : Nat → Nat
  | 0 => 1
  | k + 1 => prodN (powN x k) x

theorem pow_nat (x : UInt8) : ∀ k, (powK x k).toNat = powN x.toNat k
  | 0 => rfl
  | k + 1 => by rw [powK, powN, prod_nat, pow_nat x k]

theorem bx0 : (List.range 32).all (fun x => Nat.beq (affK (UInt8.ofNat (powN (x + 0) 254)) 8).toNat (boxL.getD (x + 0) 0).toNat) = true := by kernel_rfl
theorem bx1 : (List.range 32).all (fun x => Nat.beq (affK (UInt8.ofNat (powN (x + 32) 254)) 8).toNat (boxL.getD (x + 32) 0).toNat) = true := by kernel_rfl
theorem bx2 : (List.range 32).all (fun x => Nat.beq (affK (UInt8.ofNat (powN (x + 64) 254)) 8).toNat (boxL.getD (x + 64) 0).toNat) = true := by kernel_rfl
theorem bx3 : (List.range 32).all (fun x => Nat.beq (affK (UInt8.ofNat (powN (x + 96) 254)) 8).toNat (boxL.getD (x + 96) 0).toNat) = true := by kernel_rfl
theorem bx4 : (List.range 32).all (fun x => Nat.beq (affK (UInt8.ofNat (powN (x + 128) 254)) 8).toNat (boxL.getD (x + 128) 0).toNat) = true := by kernel_rfl
theorem bx5 : (List.range 32).all (fun x => Nat.beq (affK (UInt8.ofNat (powN (x + 160) 254)) 8).toNat (boxL.getD (x + 160) 0).toNat) = true := by kernel_rfl
theorem bx6 : (List.range 32).all (fun x => Nat.beq (affK (UInt8.ofNat (powN (x + 192) 254)) 8).toNat (boxL.getD (x + 192) 0).toNat) = true := by kernel_rfl
theorem bx7 : (List.range 32).all (fun x => Nat.beq (affK (UInt8.ofNat (powN (x + 224) 254)) 8).toNat (boxL.getD (x + 224) 0).toNat) = true := by kernel_rfl

theorem box_at {x : Nat} (hx : x < 256) : affK (powK (UInt8.ofNat x) 254) 8 = boxL.getD x 0 := by
  have e : (powK (UInt8.ofNat x) 254) = UInt8.ofNat (powN x 254) := by
    apply UInt8.toNat_inj.1
    rw [pow_nat, UInt8.toNat_ofNat', Nat.mod_eq_of_lt (by omega : x < 2 ^ 8)]
    rw [UInt8.toNat_ofNat']
    have := (powK (UInt8.ofNat x) 254).toNat_lt
    rw [pow_nat, UInt8.toNat_ofNat', Nat.mod_eq_of_lt (by omega : x < 2 ^ 8)] at this
    exact (Nat.mod_eq_of_lt this).symm
  rw [e]
  have key : ∀ k, ((List.range 32).all (fun x => Nat.beq (affK (UInt8.ofNat (powN (x + 32 * k) 254)) 8).toNat (boxL.getD (x + 32 * k) 0).toNat) = true) → 32 * k ≤ x → x < 32 * k + 32 → affK (UInt8.ofNat (powN x 254)) 8 = boxL.getD x 0 := by
    intro k h h1 h2
    have := List.all_eq_true.1 h (x - 32 * k) (List.mem_range.2 (by omega))
    rw [show x - 32 * k + 32 * k = x by omega] at this
    exact UInt8.toNat_inj.1 (Nat.eq_of_beq_eq_true this)
  rcases (show x / 32 = 0 ∨ x / 32 = 1 ∨ x / 32 = 2 ∨ x / 32 = 3 ∨ x / 32 = 4 ∨ x / 32 = 5 ∨ x / 32 = 6 ∨ x / 32 = 7 by omega) with h | h | h | h | h | h | h | h
  · exact key 0 bx0 (by omega) (by omega)
  · exact key 1 bx1 (by omega) (by omega)
  · exact key 2 bx2 (by omega) (by omega)
  · exact key 3 bx3 (by omega) (by omega)
  · exact key 4 bx4 (by omega) (by omega)
  · exact key 5 bx5 (by omega) (by omega)
  · exact key 6 bx6 (by omega) (by omega)
  · exact key 7 bx7 (by omega) (by omega)

attribute [local irreducible] outK powK affK bitK prod

theorem outK_get : ∀ (n i : Nat), n ≤ 256 → i < n → (outK n).getD i 0 = boxL.getD i 0
  | 0, i, _, h => absurd h (by omega)
  | n + 1, i, hn, h => by
    rw [outK, box_at (by omega)]
    have hl := length_outK n
    by_cases e : n = i
    · subst e
      simp [List.getD, List.getElem?_set, hl, show n < 256 by omega]
    · have := outK_get n i (by omega) (by omega)
      simp only [List.getD] at this ⊢
      rw [List.getElem?_set_ne e]
      exact this

theorem outK_box : outK 256 = boxL := by
  apply List.ext_getElem
  · rw [length_outK, length_boxL]
  · intro i h1 h2
    have := outK_get 256 i (Nat.le_refl _) (by rw [length_outK] at h1; exact h1)
    simp only [List.getD, List.getElem?_eq_getElem h1, List.getElem?_eq_getElem h2, Option.getD_some] at this
    exact this

theorem boxes_ok (hE : ∀ f, E.funcs f = Aes.funcsT.get f) (hx : ∀ f args H, special f = false → E.sums f args H = none) {H : Heap} {Q : AV → Heap → Prop}
    (hQ : ∀ H', H.next ≤ H'.next → (∀ j, j < H.next → H'.t.get j = H.t.get j) → Q (.agg (bs boxL)) H') : WCall E 19 [] H Q := by
  refine WCall.func (hx 19 _ _ (by decide)) ((hE 19).trans rfl) ?_
  generalize frameOf [] 0 .nil = a
  have e : ∀ (H : Heap) l, bs (List.replicate 256 0) = l → H.push (.cells l 42 false false) = H.push (.cells (bs (List.replicate 256 0)) 42 false false) := fun H l h => by rw [h]
  refine W.seq (W.region ?_)
  rw [w_alloc, put_s, WOps_nil, thenQ_normal, e _ _ (by kernel_rfl)]
  have hp := get_push H (.cells (bs (List.replicate 256 0)) 42 false false)
  have hpn := next_push H (.cells (bs (List.replicate 256 0)) 42 false false)
  generalize H.push (.cells (bs (List.replicate 256 0)) 42 false false) = H1 at hp hpn ⊢
  refine W.seq (W.region ?_)
  rw [w_alloc, put_s, WOps_nil, thenQ_normal, e _ _ (by kernel_rfl)]
  have hp2 := get_push H1 (.cells (bs (List.replicate 256 0)) 42 false false)
  have hpn2 := next_push H1 (.cells (bs (List.replicate 256 0)) 42 false false)
  generalize H1.push (.cells (bs (List.replicate 256 0)) 42 false false) = H2 at hp2 hpn2 ⊢
  refine W.seq (W.seq (W.region ?_))
  simp only [w_mov, w_ibin, w_load1, w_loadN, w_nilCheck, w_indexArr, w_indexSl, w_indexVal, w_indexStr, w_lenStr, w_lenSl, w_store, w_alloc, w_box, w_build, w_sliceArr, w_bytesToStr, w_pick, WOps_nil, thenQ_normal, eX_t, eX_c, put_s, put_n, getset, Nat.reduceEqDiff, if_false, if_true, Option.getD_some, rd, natOf_nn, natOf_by, Option.some.injEq, exists_eq_left', Prod.mk.injEq, and_assoc, exists_and_left, true_and, Nat.zero_add, Nat.add_zero, Nat.mul_one, ble_t, mul_nn, quo_nn, rem_nn, add_nn, sub_nn, lss_nn, eql_nn, neq_nn, xor_by, k0, k1, k2, k3, k4, k5, k6, k7, k8, k12, k13, k14, k15, k16, k32, k60, k254, k256]
  refine bx_main hE hx (o := H1.next) (by simp only [eX_t, eX_c, put_s, put_n, getset, Nat.reduceEqDiff, if_false, if_true, Option.getD_some]) (by simp only [eX_t, eX_c, put_s, put_n, getset, Nat.reduceEqDiff, if_false, if_true, Option.getD_some]) (by omega) (by rw [hp2, if_pos rfl, outK]) ?_
  intro a3 H3 q0 q1 hn3 hb3
  simp only [getset, Nat.reduceEqDiff, if_false, if_true] at q0 q1
  obtain ⟨T3, n3⟩ := H3
  simp only at hn3 hb3
  have h1 : T3.get H1.next = some (.cells (bs boxL) 42 false false) := by rw [hb3, if_pos rfl, outK_box]
  have h0 : T3.get H.next = some (.cells (bs (List.replicate 256 0)) 42 false false) := by rw [hb3, if_neg (by omega), hp2, if_neg (by omega), hp, if_pos rfl]
  rw [thenQ_normal]
  refine W.seq (W.region ?_)
  simp only [w_loadN, rd, eX_t, eX_c, put_s, put_n, getset, Nat.reduceEqDiff, if_false, if_true, Option.getD_some, q0, q1, loadN_bs h1 length_boxL, Option.some.injEq, exists_eq_left', w_store, wst_agg h0 List.length_replicate length_boxL, Prod.mk.injEq, and_assoc, exists_and_left, WOps_nil, thenQ_normal]
  have hr : (T3.set H.next (.cells (bs boxL) 42 false false)).get H.next = some (.cells (bs boxL) 42 false false) := by rw [getset, if_pos rfl]
  refine W.ret ⟨.inr rfl, ?_⟩
  simp only [resultsOf, resOf, eX_t, eX_c, put_s, put_n, getset, Nat.reduceEqDiff, if_false, if_true, Option.getD_some, q0, loadN_bs hr length_boxL, Option.some.injEq, exists_eq_left', oneOf]
  refine hQ _ (by show H.next ≤ n3; omega) fun j hj => ?_
  rw [getset, if_neg (by omega), hb3, if_neg (by omega), hp2, if_neg (by omega), hp, if_neg (by omega)]
end Go.AE
end
-- Contracts of the reference of aes: of, keys (its loops).
section
set_option linter.unusedVariables false
set_option linter.unusedSimpArgs false
set_option maxRecDepth 100000
set_option maxHeartbeats 600000
namespace Go.AE
variable {E : Env}

/-- the first bytes laid over zeros -/
def ofK (S : List UInt8) : Nat → List UInt8
  | 0 => List.replicate 16 0
  | i + 1 => (ofK S i).set i (S.getD i 0)
theorem length_ofK (S : List UInt8) : ∀ i, (ofK S i).length = 16
  | 0 => by rw [ofK, List.length_replicate]
  | i + 1 => by rw [ofK, List.length_set, length_ofK S i]

theorem ofK_get (S : List UInt8) : ∀ (n i : Nat), n ≤ 16 → i < n → (ofK S n).getD i 0 = S.getD i 0
  | 0, i, _, h => absurd h (by omega)
  | n + 1, i, hn, h => by
    rw [ofK]
    have hl := length_ofK S n
    by_cases e : n = i
    · subst e
      simp [List.getD, List.getElem?_set, hl, show n < 16 by omega]
    · have := ofK_get S n i (by omega) (by omega)
      simp only [List.getD] at this ⊢
      rw [List.getElem?_set_ne e]
      exact this

theorem list_ext {X Y : List UInt8} (h : X.length = Y.length) (hg : ∀ i, i < X.length → X.getD i 0 = Y.getD i 0) : X = Y := by
  apply List.ext_getElem h
  intro i h1 h2
  have := hg i h1
  simp only [List.getD, List.getElem?_eq_getElem h1, List.getElem?_eq_getElem h2, Option.getD_some] at this
  exact this

theorem ofK_all {S : List UInt8} (h : S.length = 16) : ofK S 16 = S :=
  list_ext (by rw [length_ofK, h]) fun i hi => ofK_get S 16 i (Nat.le_refl _) (by rw [length_ofK] at hi; exact hi)

theorem by_str (b : UInt8) : AV.int .u8 (.ofNat b.toNat) = by' b := rfl

theorem of_ok (hE : ∀ f, E.funcs f = Aes.funcsT.get f) (hx : ∀ f args H, special f = false → E.sums f args H = none) {H : Heap} {S : List UInt8} (hS : S.length = 16) {Q : AV → Heap → Prop}
    (hQ : ∀ H', H.next ≤ H'.next → (∀ j, j < H.next → H'.t.get j = H.t.get j) → Q (.agg (bs S)) H') : WCall E 22 [.str S] H Q := by
  refine WCall.func (hx 22 _ _ (by decide)) ((hE 22).trans rfl) ?_
  have f0 : (frameOf [.str S] 0 .nil).get 0 = some (.str S) := rfl
  generalize frameOf [.str S] 0 .nil = a at f0
  refine W.seq (W.region ?_)
  rw [w_alloc, put_s, WOps_nil, thenQ_normal, zero16]
  have hp := get_push H (.cells (bs (List.replicate 16 0)) 37 false false)
  have hpn := next_push H (.cells (bs (List.replicate 16 0)) 37 false false)
  generalize H.push (.cells (bs (List.replicate 16 0)) 37 false false) = H1 at hp hpn ⊢
  refine W.seq (W.region ?_)
  rw [w_alloc, put_s, WOps_nil, thenQ_normal]
  have hp2 := get_push H1 (.cells (bs (List.replicate 16 0)) 37 false false)
  have hpn2 := next_push H1 (.cells (bs (List.replicate 16 0)) 37 false false)
  generalize H1.push (.cells (bs (List.replicate 16 0)) 37 false false) = H2 at hp2 hpn2 ⊢
  refine W.seq (W.seq (W.region ?_))
  simp only [w_mov, w_ibin, w_load1, w_loadN, w_nilCheck, w_indexArr, w_indexSl, w_indexVal, w_indexStr, w_lenStr, w_lenSl, w_store, w_alloc, w_box, w_build, w_sliceArr, w_bytesToStr, w_pick, WOps_nil, thenQ_normal, eX_t, eX_c, put_s, put_n, getset, Nat.reduceEqDiff, if_false, if_true, Option.getD_some, rd, natOf_nn, natOf_by, Option.some.injEq, exists_eq_left', Prod.mk.injEq, and_assoc, exists_and_left, true_and, Nat.zero_add, Nat.add_zero, Nat.mul_one, ble_t, mul_nn, quo_nn, rem_nn, add_nn, sub_nn, lss_nn, eql_nn, neq_nn, xor_by, k0, k1, k2, k3, k4, k5, k6, k7, k8, k12, k13, k14, k15, k16, k32, k60, k254, k256]
  refine W.block ?_
  refine W.count 16 (fun i a' H' => H2.next ≤ H'.next ∧ (∀ j, H'.t.get j = if H1.next = j then some (.cells (bs (ofK S i)) 37 false false) else H2.t.get j) ∧ a'.get 0 = some (.str S) ∧ a'.get 2 = some (.ptr (some (H.next, 0))) ∧ a'.get 3 = some (.ptr (some (H1.next, 0))) ∧ a'.get 4 = some (nn i)) ?_ ?_ 0 _ _ (by omega) ?_
  · intro i a1 H3 hi ⟨hn, hb, g0, g2, g3, g4⟩
    refine W.seq (W.seq (W.region ?_))
    simp only [w_mov, w_ibin, w_load1, w_loadN, w_nilCheck, w_indexArr, w_indexSl, w_indexVal, w_indexStr, w_lenStr, w_lenSl, w_store, w_alloc, w_box, w_build, w_sliceArr, w_bytesToStr, w_pick, WOps_nil, thenQ_normal, eX_t, eX_c, put_s, put_n, getset, Nat.reduceEqDiff, if_false, if_true, Option.getD_some, rd, natOf_nn, natOf_by, Option.some.injEq, exists_eq_left', Prod.mk.injEq, and_assoc, exists_and_left, true_and, Nat.zero_add, Nat.add_zero, Nat.mul_one, ble_t, mul_nn, quo_nn, rem_nn, add_nn, sub_nn, lss_nn, eql_nn, neq_nn, xor_by, k0, k1, k2, k3, k4, k5, k6, k7, k8, k12, k13, k14, k15, k16, k32, k60, k254, k256, g4]
    refine W.cond (b := true) (by simp only [eX_t, eX_c, put_s, put_n, getset, Nat.reduceEqDiff, if_false, if_true, Option.getD_some]; simp [hi]) (W.skip ?_)
    rw [thenQ_normal]
    refine W.seq (W.block (W.region ?_))
    obtain ⟨T3, n3⟩ := H3
    simp only at hn hb
    have h3 : T3.get H1.next = some (.cells (bs (ofK S i)) 37 false false) := by rw [hb, if_pos rfl]
    simp (disch := omega) only [w_mov, w_indexStr, w_indexArr, w_store, eX_t, eX_c, put_s, put_n, getset, Nat.reduceEqDiff, if_false, if_true, Option.getD_some, rd, natOf_nn, natOf_by, Option.some.injEq, exists_eq_left', Prod.mk.injEq, and_assoc, exists_and_left, true_and, Nat.zero_add, Nat.add_zero, Nat.mul_one, ble_t, mul_nn, quo_nn, rem_nn, add_nn, sub_nn, lss_nn, eql_nn, neq_nn, xor_by, k0, k1, k2, k3, k4, k5, k6, k7, k8, k12, k13, k14, k15, k16, k32, k60, k254, k256, g0, g4, g3, idx_str (show i < S.length by omega), by_str, wst_by h3 (by rw [length_ofK]; exact hi), WOps_nil, blockQ_normal, thenQ_normal]
    refine W.region ?_
    simp (disch := omega) only [w_mov, w_ibin, w_load1, w_loadN, w_nilCheck, w_indexArr, w_indexSl, w_indexVal, w_indexStr, w_lenStr, w_lenSl, w_store, w_alloc, w_box, w_build, w_sliceArr, w_bytesToStr, w_pick, WOps_nil, thenQ_normal, eX_t, eX_c, put_s, put_n, getset, Nat.reduceEqDiff, if_false, if_true, Option.getD_some, rd, natOf_nn, natOf_by, Option.some.injEq, exists_eq_left', Prod.mk.injEq, and_assoc, exists_and_left, true_and, Nat.zero_add, Nat.add_zero, Nat.mul_one, ble_t, mul_nn, quo_nn, rem_nn, add_nn, sub_nn, lss_nn, eql_nn, neq_nn, xor_by, k0, k1, k2, k3, k4, k5, k6, k7, k8, k12, k13, k14, k15, k16, k32, k60, k254, k256, g4]
    refine ⟨by omega, ?_, g0, g2, g3, trivial⟩
    intro j
    by_cases h : H1.next = j
    · rw [if_pos h, if_pos h, ofK]
    · rw [if_neg h, if_neg h, hb, if_neg h]
  · intro a1 H3 ⟨hn, hb, g0, g2, g3, g4⟩
    refine W.seq (W.seq (W.region ?_))
    simp only [w_mov, w_ibin, w_load1, w_loadN, w_nilCheck, w_indexArr, w_indexSl, w_indexVal, w_indexStr, w_lenStr, w_lenSl, w_store, w_alloc, w_box, w_build, w_sliceArr, w_bytesToStr, w_pick, WOps_nil, thenQ_normal, eX_t, eX_c, put_s, put_n, getset, Nat.reduceEqDiff, if_false, if_true, Option.getD_some, rd, natOf_nn, natOf_by, Option.some.injEq, exists_eq_left', Prod.mk.injEq, and_assoc, exists_and_left, true_and, Nat.zero_add, Nat.add_zero, Nat.mul_one, ble_t, mul_nn, quo_nn, rem_nn, add_nn, sub_nn, lss_nn, eql_nn, neq_nn, xor_by, k0, k1, k2, k3, k4, k5, k6, k7, k8, k12, k13, k14, k15, k16, k32, k60, k254, k256, g4]
    refine W.cond (b := false) (by simp only [eX_t, eX_c, put_s, put_n, getset, Nat.reduceEqDiff, if_false, if_true, Option.getD_some]; simp) (W.exit ?_)
    rw [thenQ_exit]
    refine ⟨nofun, ?_⟩
    simp only [blockQ_exit, Nat.beq_refl, cond_true, thenQ_normal]
    rw [ofK_all hS] at hb
    obtain ⟨T3, n3⟩ := H3
    simp only at hn hb
    have h1 : T3.get H1.next = some (.cells (bs S) 37 false false) := by rw [hb, if_pos rfl]
    have h0 : T3.get H.next = some (.cells (bs (List.replicate 16 0)) 37 false false) := by rw [hb, if_neg (by omega), hp2, if_neg (by omega), hp, if_pos rfl]
    refine W.seq (W.region ?_)
    simp only [w_loadN, rd, eX_t, eX_c, put_s, put_n, getset, Nat.reduceEqDiff, if_false, if_true, Option.getD_some, g2, g3, loadN_bs h1 hS, Option.some.injEq, exists_eq_left', w_store, wst_agg h0 List.length_replicate hS, Prod.mk.injEq, and_assoc, exists_and_left, WOps_nil, thenQ_normal]
    have hr : (T3.set H.next (.cells (bs S) 37 false false)).get H.next = some (.cells (bs S) 37 false false) := by rw [getset, if_pos rfl]
    refine W.ret ⟨.inr rfl, ?_⟩
    simp only [resultsOf, resOf, eX_t, eX_c, put_s, put_n, getset, Nat.reduceEqDiff, if_false, if_true, Option.getD_some, g2, loadN_bs hr hS, Option.some.injEq, exists_eq_left', oneOf]
    refine hQ _ (by show H.next ≤ n3; omega) fun j hj => ?_
    rw [getset, if_neg (by omega), hb, if_neg (by omega), hp2, if_neg (by omega), hp, if_neg (by omega)]
  · refine ⟨Nat.le_refl _, ?_, ?_, ?_, ?_, ?_⟩
    · intro j
      by_cases h : H1.next = j
      · subst h; rw [if_pos rfl, hp2, if_pos rfl, ofK]
      · rw [if_neg h]
    · simp only [eX_t, eX_c, put_s, put_n, getset, Nat.reduceEqDiff, if_false, if_true, Option.getD_some]; exact f0
    · simp only [eX_t, eX_c, put_s, put_n, getset, Nat.reduceEqDiff, if_false, if_true, Option.getD_some]
    · simp only [eX_t, eX_c, put_s, put_n, getset, Nat.reduceEqDiff, if_false, if_true, Option.getD_some]
    · simp only [eX_t, eX_c, put_s, put_n, getset, Nat.reduceEqDiff, if_false, if_true, Option.getD_some]

def rkDraw0 : ADraw := (ADraw.mk [(AOper.mk (some 20) (.mov (.tmp 6)) none), (AOper.mk (some 21) (.mov (.tmp 7)) none), (AOper.mk (some 22) (.mov (.tmp 0)) none), (AOper.mk (some 23) (.mov (.tmp 6)) none), (AOper.mk (some 24) (.ibin .mul (.const (.int .i64 4)) (.tmp 23)) none), (AOper.mk (some 25) (.mov (.tmp 7)) none), (AOper.mk (some 26) (.ibin .add (.tmp 24) (.tmp 25)) none), (AOper.mk (some 27) (.indexStr (.tmp 22) (.tmp 26)) none), (AOper.mk (some 28) (.indexArr 60 4 (.tmp 5) (.tmp 20)) none), (AOper.mk (some 29) (.indexArr 4 1 (.tmp 28) (.tmp 21)) none), (AOper.mk none (.store 1 (.tmp 29) (.tmp 27)) none)] [0, 1, 2, 3, 4, 5, 6, 7, 8, 9, 10] [0, 0, 0, 0, 8, 0, 56, 124, 1, 511, 1023] [(0, 0), (0, 0), (0, 0), (0, 0), (0, 0), (0, 0), (0, 0), (0, 0), (0, 0), (0, 0), (0, 1)] false)
def rkLoop2 : ACode := (.block 2 (.loop (.seq (.seq (.region [(AOper.mk (some 16) (.mov (.tmp 7)) none), (AOper.mk (some 17) (.ibin .lss (.tmp 16) (.const (.int .i64 4))) none)]) (.cond (.tmp 17) .skip (.exit 2))) (.seq (.block 3 (.draw (ADraw.mk [(AOper.mk (some 20) (.mov (.tmp 6)) none), (AOper.mk (some 21) (.mov (.tmp 7)) none), (AOper.mk (some 22) (.mov (.tmp 0)) none), (AOper.mk (some 23) (.mov (.tmp 6)) none), (AOper.mk (some 24) (.ibin .mul (.const (.int .i64 4)) (.tmp 23)) none), (AOper.mk (some 25) (.mov (.tmp 7)) none), (AOper.mk (some 26) (.ibin .add (.tmp 24) (.tmp 25)) none), (AOper.mk (some 27) (.indexStr (.tmp 22) (.tmp 26)) none), (AOper.mk (some 28) (.indexArr 60 4 (.tmp 5) (.tmp 20)) none), (AOper.mk (some 29) (.indexArr 4 1 (.tmp 28) (.tmp 21)) none), (AOper.mk none (.store 1 (.tmp 29) (.tmp 27)) none)] [0, 1, 2, 3, 4, 5, 6, 7, 8, 9, 10] [0, 0, 0, 0, 8, 0, 56, 124, 1, 511, 1023] [(0, 0), (0, 0), (0, 0), (0, 0), (0, 0), (0, 0), (0, 0), (0, 0), (0, 0), (0, 0), (0, 1)] false))) (.region [(AOper.mk (some 18) (.mov (.tmp 7)) none), (AOper.mk (some 19) (.ibin .add (.tmp 18) (.const (.int .i64 1))) none), (AOper.mk (some 7) (.mov (.tmp 19)) none)])))))
def rkLoop0 : ACode := (.block 0 (.loop (.seq (.seq (.region [(AOper.mk (some 12) (.mov (.tmp 6)) none), (AOper.mk (some 13) (.ibin .lss (.tmp 12) (.const (.int .i64 8))) none)]) (.cond (.tmp 13) .skip (.exit 0))) (.seq (.block 1 (.seq (.region [(AOper.mk (some 7) (.mov (.const (.int .i64 0))) none)]) (.block 2 (.loop (.seq (.seq (.region [(AOper.mk (some 16) (.mov (.tmp 7)) none), (AOper.mk (some 17) (.ibin .lss (.tmp 16) (.const (.int .i64 4))) none)]) (.cond (.tmp 17) .skip (.exit 2))) (.seq (.block 3 (.draw (ADraw.mk [(AOper.mk (some 20) (.mov (.tmp 6)) none), (AOper.mk (some 21) (.mov (.tmp 7)) none), (AOper.mk (some 22) (.mov (.tmp 0)) none), (AOper.mk (some 23) (.mov (.tmp 6)) none), (AOper.mk (some 24) (.ibin .mul (.const (.int .i64 4)) (.tmp 23)) none), (AOper.mk (some 25) (.mov (.tmp 7)) none), (AOper.mk (some 26) (.ibin .add (.tmp 24) (.tmp 25)) none), (AOper.mk (some 27) (.indexStr (.tmp 22) (.tmp 26)) none), (AOper.mk (some 28) (.indexArr 60 4 (.tmp 5) (.tmp 20)) none), (AOper.mk (some 29) (.indexArr 4 1 (.tmp 28) (.tmp 21)) none), (AOper.mk none (.store 1 (.tmp 29) (.tmp 27)) none)] [0, 1, 2, 3, 4, 5, 6, 7, 8, 9, 10] [0, 0, 0, 0, 8, 0, 56, 124, 1, 511, 1023] [(0, 0), (0, 0), (0, 0), (0, 0), (0, 0), (0, 0), (0, 0), (0, 0), (0, 0), (0, 0), (0, 1)] false))) (.region [(AOper.mk (some 18) (.mov (.tmp 7)) none), (AOper.mk (some 19) (.ibin .add (.tmp 18) (.const (.int .i64 1))) none), (AOper.mk (some 7) (.mov (.tmp 19)) none)]))))))) (.region [(AOper.mk (some 14) (.mov (.tmp 6)) none), (AOper.mk (some 15) (.ibin .add (.tmp 14) (.const (.int .i64 1))) none), (AOper.mk (some 6) (.mov (.tmp 15)) none)])))))

theorem rk_d0 {a : Frm} {H : Heap} {c i k : Nat} {K : List UInt8} {e : TypeId} (h0 : a.get 0 = some (.str K)) (h5 : a.get 5 = some (.ptr (some (c, 0)))) (h6 : a.get 6 = some (nn i)) (h7 : a.get 7 = some (nn k)) (hi : i < 8) (hk : k < 4) (hK : K.length = 32)
    (hc : H.t.get c = some (.cells (bs (setK K (4 * i + k))) e false false)) {Q : AExit → Frm → Heap → Prop}
    (hQ : ∀ a', a'.get 0 = a.get 0 → a'.get 3 = a.get 3 → a'.get 4 = a.get 4 → a'.get 5 = a.get 5 → a'.get 6 = a.get 6 → a'.get 7 = a.get 7 → Q .normal a' ⟨H.t.set c (.cells (bs (setK K (4 * i + (k + 1)))) e false false), H.next + 11⟩) : W E (.draw rkDraw0) a H Q := by
  refine W_draw (l := _) rfl (N := 11) rfl ?_
  have e1 := idx_str (K := K) (i := 4 * i + k) (by omega)
  simp (disch := omega) only [rkDraw0, l_mov, l_ibin, l_load1, l_loadN, l_nilCheck, l_indexArr, l_indexSl, l_indexVal, l_indexStr, l_lenStr, l_lenSl, l_store, l_build, WL_nil, eX_t, eX_c, put_s, put_n, getset, Nat.reduceEqDiff, if_false, if_true, Option.getD_some, rd, natOf_nn, natOf_by, Option.some.injEq, exists_eq_left', Prod.mk.injEq, and_assoc, exists_and_left, true_and, Nat.zero_add, Nat.add_zero, Nat.mul_one, ble_t, mul_nn, quo_nn, rem_nn, add_nn, sub_nn, lss_nn, eql_nn, neq_nn, xor_by, k0, k1, k2, k3, k4, k5, k6, k7, k8, k12, k13, k14, k15, k16, k32, k60, k254, k256, h0, h5, h6, h7, e1]
  have hw := wst_by (nx := H.next + 11) (o := i * 4 + k) hc (by rw [length_setK]; omega) (K.getD (4 * i + k) 0)
  have e0 : i * 4 + k = 4 * i + k := by omega
  rw [e0] at hw
  have e3 : (setK K (4 * i + k)).set (4 * i + k) (K.getD (4 * i + k) 0) = setK K (4 * i + (k + 1)) := by rw [← Nat.add_assoc, setK]
  rw [e3] at hw
  simp (disch := omega) only [wr0_store, l_mov, l_ibin, l_load1, l_loadN, l_nilCheck, l_indexArr, l_indexSl, l_indexVal, l_indexStr, l_lenStr, l_lenSl, l_store, l_build, WL_nil, eX_t, eX_c, put_s, put_n, getset, Nat.reduceEqDiff, if_false, if_true, Option.getD_some, rd, natOf_nn, natOf_by, Option.some.injEq, exists_eq_left', Prod.mk.injEq, and_assoc, exists_and_left, true_and, Nat.zero_add, Nat.add_zero, Nat.mul_one, ble_t, mul_nn, quo_nn, rem_nn, add_nn, sub_nn, lss_nn, eql_nn, neq_nn, xor_by, e0, by_str, hw]
  refine ⟨?_, _, _, rfl, ?_⟩
  · simp only [stable_cons, stable_nil, sm_mov, sm_ibin, sm_nilCheck, sm_indexArr, sm_indexSl, sm_indexVal, sm_indexStr, sm_lenStr, sm_lenSl, sm_build, sm_store, sm_call, Bool.true_and, Bool.and_true, Bool.and_eq_true, List.reverse_cons, List.reverse_nil, List.nil_append, List.cons_append, List.drop_zero, List.drop_succ_cons, Nat.sub_zero, Nat.succ_eq_add_one, Nat.zero_add, Nat.reduceAdd, Nat.reduceSub, List.take_succ_cons, List.take_zero, List.take_nil]
  · refine hQ _ ?_ ?_ ?_ ?_ ?_ ?_ <;> simp only [getset, Nat.reduceEqDiff, if_false]

attribute [local irreducible] setK

theorem rk_l2 {a : Frm} {H : Heap} {c i : Nat} {K : List UInt8} {e : TypeId} (h0 : a.get 0 = some (.str K)) (h5 : a.get 5 = some (.ptr (some (c, 0)))) (h6 : a.get 6 = some (nn i)) (h7 : a.get 7 = some (nn 0)) (hi : i < 8) (hK : K.length = 32)
    (hc : H.t.get c = some (.cells (bs (setK K (4 * i))) e false false)) {Q : AExit → Frm → Heap → Prop}
    (hQ : ∀ a' H', a'.get 0 = a.get 0 → a'.get 3 = a.get 3 → a'.get 4 = a.get 4 → a'.get 5 = a.get 5 → a'.get 6 = a.get 6 → H.next ≤ H'.next → (∀ j, H'.t.get j = if c = j then some (.cells (bs (setK K (4 * (i + 1)))) e false false) else H.t.get j) → Q .normal a' H') : W E rkLoop2 a H Q := by
  refine W.block ?_
  refine W.count 4 (fun k a' H' => H.next ≤ H'.next ∧ (∀ j, H'.t.get j = if c = j then some (.cells (bs (setK K (4 * i + k))) e false false) else H.t.get j) ∧ a'.get 0 = a.get 0 ∧ a'.get 3 = a.get 3 ∧ a'.get 4 = a.get 4 ∧ a'.get 5 = a.get 5 ∧ a'.get 6 = a.get 6 ∧ a'.get 7 = some (nn k)) ?_ ?_ 0 _ H (by omega) ?_
  · intro k a1 H1 hk ⟨hn, hb, g0, g3, g4, g5, g6, g7⟩
    refine W.seq (W.seq (W.region ?_))
    simp only [w_mov, w_ibin, w_load1, w_loadN, w_nilCheck, w_indexArr, w_indexSl, w_indexVal, w_indexStr, w_lenStr, w_lenSl, w_store, w_alloc, w_box, w_build, w_sliceArr, w_bytesToStr, w_pick, WOps_nil, thenQ_normal, eX_t, eX_c, put_s, put_n, getset, Nat.reduceEqDiff, if_false, if_true, Option.getD_some, rd, natOf_nn, natOf_by, Option.some.injEq, exists_eq_left', Prod.mk.injEq, and_assoc, exists_and_left, true_and, Nat.zero_add, Nat.add_zero, Nat.mul_one, ble_t, mul_nn, quo_nn, rem_nn, add_nn, sub_nn, lss_nn, eql_nn, neq_nn, xor_by, k0, k1, k2, k3, k4, k5, k6, k7, k8, k12, k13, k14, k15, k16, k32, k60, k254, k256, g7]
    refine W.cond (b := true) (by simp only [eX_t, eX_c, put_s, put_n, getset, Nat.reduceEqDiff, if_false, if_true, Option.getD_some]; simp [hk]) (W.skip ?_)
    rw [thenQ_normal]
    refine W.seq (W.block ?_)
    refine rk_d0 (K := K) (i := i) (k := k) (c := c) (e := e) (by simp only [eX_t, eX_c, put_s, put_n, getset, Nat.reduceEqDiff, if_false, if_true, Option.getD_some]; exact g0.trans h0) (by simp only [eX_t, eX_c, put_s, put_n, getset, Nat.reduceEqDiff, if_false, if_true, Option.getD_some]; exact g5.trans h5) (by simp only [eX_t, eX_c, put_s, put_n, getset, Nat.reduceEqDiff, if_false, if_true, Option.getD_some]; exact g6.trans h6) (by simp only [eX_t, eX_c, put_s, put_n, getset, Nat.reduceEqDiff, if_false, if_true, Option.getD_some]; exact g7) hi hk hK (by rw [hb, if_pos rfl]) ?_
    intro a' f0 f3 f4 f5 f6 f7
    simp only [getset, Nat.reduceEqDiff, if_false] at f0 f3 f4 f5 f6 f7
    simp only [blockQ_normal, thenQ_normal]
    rw [g7] at f7
    refine W.region ?_
    simp (disch := omega) only [w_mov, w_ibin, w_load1, w_loadN, w_nilCheck, w_indexArr, w_indexSl, w_indexVal, w_indexStr, w_lenStr, w_lenSl, w_store, w_alloc, w_box, w_build, w_sliceArr, w_bytesToStr, w_pick, WOps_nil, thenQ_normal, eX_t, eX_c, put_s, put_n, getset, Nat.reduceEqDiff, if_false, if_true, Option.getD_some, rd, natOf_nn, natOf_by, Option.some.injEq, exists_eq_left', Prod.mk.injEq, and_assoc, exists_and_left, true_and, Nat.zero_add, Nat.add_zero, Nat.mul_one, ble_t, mul_nn, quo_nn, rem_nn, add_nn, sub_nn, lss_nn, eql_nn, neq_nn, xor_by, k0, k1, k2, k3, k4, k5, k6, k7, k8, k12, k13, k14, k15, k16, k32, k60, k254, k256, f7]
    refine ⟨by omega, ?_, f0.trans g0, f3.trans g3, f4.trans g4, f5.trans g5, f6.trans g6, trivial⟩
    intro j
    by_cases h : c = j
    · rw [if_pos h, if_pos h]
    · rw [if_neg h, if_neg h, hb, if_neg h]
  · intro a1 H1 ⟨hn, hb, g0, g3, g4, g5, g6, g7⟩
    refine W.seq (W.seq (W.region ?_))
    simp only [w_mov, w_ibin, w_load1, w_loadN, w_nilCheck, w_indexArr, w_indexSl, w_indexVal, w_indexStr, w_lenStr, w_lenSl, w_store, w_alloc, w_box, w_build, w_sliceArr, w_bytesToStr, w_pick, WOps_nil, thenQ_normal, eX_t, eX_c, put_s, put_n, getset, Nat.reduceEqDiff, if_false, if_true, Option.getD_some, rd, natOf_nn, natOf_by, Option.some.injEq, exists_eq_left', Prod.mk.injEq, and_assoc, exists_and_left, true_and, Nat.zero_add, Nat.add_zero, Nat.mul_one, ble_t, mul_nn, quo_nn, rem_nn, add_nn, sub_nn, lss_nn, eql_nn, neq_nn, xor_by, k0, k1, k2, k3, k4, k5, k6, k7, k8, k12, k13, k14, k15, k16, k32, k60, k254, k256, g7]
    refine W.cond (b := false) (by simp only [eX_t, eX_c, put_s, put_n, getset, Nat.reduceEqDiff, if_false, if_true, Option.getD_some]; simp) (W.exit ?_)
    rw [thenQ_exit]
    refine ⟨nofun, ?_⟩
    simp only [blockQ_exit, Nat.beq_refl, cond_true]
    refine hQ _ _ ?_ ?_ ?_ ?_ ?_ hn (by rw [show 4 * (i + 1) = 4 * i + 4 by omega]; exact hb) <;> simp only [getset, Nat.reduceEqDiff, if_false] <;> assumption
  · refine ⟨Nat.le_refl _, ?_, rfl, rfl, rfl, rfl, rfl, h7⟩
    intro j
    by_cases h : c = j
    · subst h; rw [if_pos rfl]; exact hc
    · rw [if_neg h]

theorem rk_l0 {a : Frm} {H : Heap} {c : Nat} {K : List UInt8} {e : TypeId} (h0 : a.get 0 = some (.str K)) (h5 : a.get 5 = some (.ptr (some (c, 0)))) (h6 : a.get 6 = some (nn 0)) (hK : K.length = 32)
    (hc : H.t.get c = some (.cells (bs (setK K 0)) e false false)) {Q : AExit → Frm → Heap → Prop}
    (hQ : ∀ a' H', a'.get 0 = a.get 0 → a'.get 3 = a.get 3 → a'.get 4 = a.get 4 → a'.get 5 = a.get 5 → H.next ≤ H'.next → (∀ j, H'.t.get j = if c = j then some (.cells (bs (setK K 32)) e false false) else H.t.get j) → Q .normal a' H') : W E rkLoop0 a H Q := by
  refine W.block ?_
  refine W.count 8 (fun i a' H' => H.next ≤ H'.next ∧ (∀ j, H'.t.get j = if c = j then some (.cells (bs (setK K (4 * i))) e false false) else H.t.get j) ∧ a'.get 0 = a.get 0 ∧ a'.get 3 = a.get 3 ∧ a'.get 4 = a.get 4 ∧ a'.get 5 = a.get 5 ∧ a'.get 6 = some (nn i)) ?_ ?_ 0 _ H (by omega) ?_
  · intro i a1 H1 hi ⟨hn, hb, g0, g3, g4, g5, g6⟩
    refine W.seq (W.seq (W.region ?_))
    simp only [w_mov, w_ibin, w_load1, w_loadN, w_nilCheck, w_indexArr, w_indexSl, w_indexVal, w_indexStr, w_lenStr, w_lenSl, w_store, w_alloc, w_box, w_build, w_sliceArr, w_bytesToStr, w_pick, WOps_nil, thenQ_normal, eX_t, eX_c, put_s, put_n, getset, Nat.reduceEqDiff, if_false, if_true, Option.getD_some, rd, natOf_nn, natOf_by, Option.some.injEq, exists_eq_left', Prod.mk.injEq, and_assoc, exists_and_left, true_and, Nat.zero_add, Nat.add_zero, Nat.mul_one, ble_t, mul_nn, quo_nn, rem_nn, add_nn, sub_nn, lss_nn, eql_nn, neq_nn, xor_by, k0, k1, k2, k3, k4, k5, k6, k7, k8, k12, k13, k14, k15, k16, k32, k60, k254, k256, g6]
    refine W.cond (b := true) (by simp only [eX_t, eX_c, put_s, put_n, getset, Nat.reduceEqDiff, if_false, if_true, Option.getD_some]; simp [hi]) (W.skip ?_)
    rw [thenQ_normal]
    refine W.seq (W.block (W.seq (W.region ?_)))
    simp only [w_mov, w_ibin, w_load1, w_loadN, w_nilCheck, w_indexArr, w_indexSl, w_indexVal, w_indexStr, w_lenStr, w_lenSl, w_store, w_alloc, w_box, w_build, w_sliceArr, w_bytesToStr, w_pick, WOps_nil, thenQ_normal, eX_t, eX_c, put_s, put_n, getset, Nat.reduceEqDiff, if_false, if_true, Option.getD_some, rd, natOf_nn, natOf_by, Option.some.injEq, exists_eq_left', Prod.mk.injEq, and_assoc, exists_and_left, true_and, Nat.zero_add, Nat.add_zero, Nat.mul_one, ble_t, mul_nn, quo_nn, rem_nn, add_nn, sub_nn, lss_nn, eql_nn, neq_nn, xor_by, k0, k1, k2, k3, k4, k5, k6, k7, k8, k12, k13, k14, k15, k16, k32, k60, k254, k256]
    refine rk_l2 (K := K) (i := i) (c := c) (e := e) (by simp only [eX_t, eX_c, put_s, put_n, getset, Nat.reduceEqDiff, if_false, if_true, Option.getD_some]; exact g0.trans h0) (by simp only [eX_t, eX_c, put_s, put_n, getset, Nat.reduceEqDiff, if_false, if_true, Option.getD_some]; exact g5.trans h5) (by simp only [eX_t, eX_c, put_s, put_n, getset, Nat.reduceEqDiff, if_false, if_true, Option.getD_some]; exact g6) (by simp only [eX_t, eX_c, put_s, put_n, getset, Nat.reduceEqDiff, if_false, if_true, Option.getD_some]) hi hK (by rw [hb, if_pos rfl]) ?_
    intro a' H' f0 f3 f4 f5 f6 fn fb
    simp only [getset, Nat.reduceEqDiff, if_false] at f0 f3 f4 f5 f6
    simp only [blockQ_normal, thenQ_normal]
    rw [g6] at f6
    refine W.region ?_
    simp (disch := omega) only [w_mov, w_ibin, w_load1, w_loadN, w_nilCheck, w_indexArr, w_indexSl, w_indexVal, w_indexStr, w_lenStr, w_lenSl, w_store, w_alloc, w_box, w_build, w_sliceArr, w_bytesToStr, w_pick, WOps_nil, thenQ_normal, eX_t, eX_c, put_s, put_n, getset, Nat.reduceEqDiff, if_false, if_true, Option.getD_some, rd, natOf_nn, natOf_by, Option.some.injEq, exists_eq_left', Prod.mk.injEq, and_assoc, exists_and_left, true_and, Nat.zero_add, Nat.add_zero, Nat.mul_one, ble_t, mul_nn, quo_nn, rem_nn, add_nn, sub_nn, lss_nn, eql_nn, neq_nn, xor_by, k0, k1, k2, k3, k4, k5, k6, k7, k8, k12, k13, k14, k15, k16, k32, k60, k254, k256, f6]
    refine ⟨by omega, ?_, f0.trans g0, f3.trans g3, f4.trans g4, f5.trans g5, trivial⟩
    intro j
    rw [fb]
    by_cases h : c = j
    · rw [if_pos h, if_pos h]
    · rw [if_neg h, if_neg h, hb, if_neg h]
  · intro a1 H1 ⟨hn, hb, g0, g3, g4, g5, g6⟩
    refine W.seq (W.seq (W.region ?_))
    simp only [w_mov, w_ibin, w_load1, w_loadN, w_nilCheck, w_indexArr, w_indexSl, w_indexVal, w_indexStr, w_lenStr, w_lenSl, w_store, w_alloc, w_box, w_build, w_sliceArr, w_bytesToStr, w_pick, WOps_nil, thenQ_normal, eX_t, eX_c, put_s, put_n, getset, Nat.reduceEqDiff, if_false, if_true, Option.getD_some, rd, natOf_nn, natOf_by, Option.some.injEq, exists_eq_left', Prod.mk.injEq, and_assoc, exists_and_left, true_and, Nat.zero_add, Nat.add_zero, Nat.mul_one, ble_t, mul_nn, quo_nn, rem_nn, add_nn, sub_nn, lss_nn, eql_nn, neq_nn, xor_by, k0, k1, k2, k3, k4, k5, k6, k7, k8, k12, k13, k14, k15, k16, k32, k60, k254, k256, g6]
    refine W.cond (b := false) (by simp only [eX_t, eX_c, put_s, put_n, getset, Nat.reduceEqDiff, if_false, if_true, Option.getD_some]; simp) (W.exit ?_)
    rw [thenQ_exit]
    refine ⟨nofun, ?_⟩
    simp only [blockQ_exit, Nat.beq_refl, cond_true]
    refine hQ _ _ ?_ ?_ ?_ ?_ hn hb <;> simp only [getset, Nat.reduceEqDiff, if_false] <;> assumption
  · refine ⟨Nat.le_refl _, ?_, rfl, rfl, rfl, rfl, h6⟩
    intro j
    by_cases h : c = j
    · subst h; rw [if_pos rfl]; exact hc
    · rw [if_neg h]
end Go.AE
end
-- Contracts of the reference of aes: keys.
section
set_option linter.unusedVariables false
set_option linter.unusedSimpArgs false
set_option maxRecDepth 100000
set_option maxHeartbeats 1000000
namespace Go.AE
variable {E : Env}

/-- a byte's box -/
def B (x : UInt8) : UInt8 := boxL.getD x.toNat 0

def rkDraw1 : ADraw := (ADraw.mk [(AOper.mk (some 41) (.indexArr 4 1 (.tmp 10) (.const (.int .i64 1))) none), (AOper.mk (some 42) (.load1 (.tmp 41)) none), (AOper.mk (some 43) (.indexArr 256 1 (.tmp 3) (.tmp 42)) none), (AOper.mk (some 44) (.load1 (.tmp 43)) none), (AOper.mk (some 45) (.mov (.tmp 8)) none), (AOper.mk (some 46) (.ibin .xor (.tmp 44) (.tmp 45)) none), (AOper.mk (some 47) (.indexArr 4 1 (.tmp 10) (.const (.int .i64 2))) none), (AOper.mk (some 48) (.load1 (.tmp 47)) none), (AOper.mk (some 49) (.indexArr 256 1 (.tmp 3) (.tmp 48)) none), (AOper.mk (some 50) (.load1 (.tmp 49)) none), (AOper.mk (some 51) (.indexArr 4 1 (.tmp 10) (.const (.int .i64 3))) none), (AOper.mk (some 52) (.load1 (.tmp 51)) none), (AOper.mk (some 53) (.indexArr 256 1 (.tmp 3) (.tmp 52)) none), (AOper.mk (some 54) (.load1 (.tmp 53)) none), (AOper.mk (some 55) (.indexArr 4 1 (.tmp 10) (.const (.int .i64 0))) none), (AOper.mk (some 56) (.load1 (.tmp 55)) none), (AOper.mk (some 57) (.indexArr 256 1 (.tmp 3) (.tmp 56)) none), (AOper.mk (some 58) (.load1 (.tmp 57)) none), (AOper.mk (some 59) (.build [(.int .u8 0), (.int .u8 0), (.int .u8 0), (.int .u8 0)] [(0, (1, (.tmp 46))), (1, (1, (.tmp 50))), (2, (1, (.tmp 54))), (3, (1, (.tmp 58)))]) none), (AOper.mk none (.store 4 (.tmp 10) (.tmp 59)) none)] [0, 1, 2, 3, 4, 5, 6, 7, 8, 9, 10, 11, 12, 13, 14, 15, 16, 17, 18, 19] [0, 1, 3, 7, 0, 31, 0, 64, 192, 448, 0, 1024, 3072, 7168, 0, 16384, 49152, 114688, 262143, 524287] [(0, 0), (0, 0), (0, 0), (0, 0), (0, 0), (0, 0), (0, 0), (0, 0), (0, 0), (0, 0), (0, 0), (0, 0), (0, 0), (0, 0), (0, 0), (0, 0), (0, 0), (0, 0), (0, 0), (0, 1)] false)
def rkDraw2 : ADraw := (ADraw.mk [(AOper.mk (some 65) (.indexArr 4 1 (.tmp 10) (.const (.int .i64 0))) none), (AOper.mk (some 66) (.load1 (.tmp 65)) none), (AOper.mk (some 67) (.indexArr 256 1 (.tmp 3) (.tmp 66)) none), (AOper.mk (some 68) (.load1 (.tmp 67)) none), (AOper.mk (some 69) (.indexArr 4 1 (.tmp 10) (.const (.int .i64 1))) none), (AOper.mk (some 70) (.load1 (.tmp 69)) none), (AOper.mk (some 71) (.indexArr 256 1 (.tmp 3) (.tmp 70)) none), (AOper.mk (some 72) (.load1 (.tmp 71)) none), (AOper.mk (some 73) (.indexArr 4 1 (.tmp 10) (.const (.int .i64 2))) none), (AOper.mk (some 74) (.load1 (.tmp 73)) none), (AOper.mk (some 75) (.indexArr 256 1 (.tmp 3) (.tmp 74)) none), (AOper.mk (some 76) (.load1 (.tmp 75)) none), (AOper.mk (some 77) (.indexArr 4 1 (.tmp 10) (.const (.int .i64 3))) none), (AOper.mk (some 78) (.load1 (.tmp 77)) none), (AOper.mk (some 79) (.indexArr 256 1 (.tmp 3) (.tmp 78)) none), (AOper.mk (some 80) (.load1 (.tmp 79)) none), (AOper.mk (some 81) (.build [(.int .u8 0), (.int .u8 0), (.int .u8 0), (.int .u8 0)] [(0, (1, (.tmp 68))), (1, (1, (.tmp 72))), (2, (1, (.tmp 76))), (3, (1, (.tmp 80)))]) none), (AOper.mk none (.store 4 (.tmp 10) (.tmp 81)) none)] [0, 1, 2, 3, 4, 5, 6, 7, 8, 9, 10, 11, 12, 13, 14, 15, 16, 17] [0, 1, 3, 7, 0, 16, 48, 112, 0, 256, 768, 1792, 0, 4096, 12288, 28672, 65535, 131071] [(0, 0), (0, 0), (0, 0), (0, 0), (0, 0), (0, 0), (0, 0), (0, 0), (0, 0), (0, 0), (0, 0), (0, 0), (0, 0), (0, 0), (0, 0), (0, 0), (0, 0), (0, 1)] false)
def rkDraw3 : ADraw := (ADraw.mk [(AOper.mk (some 86) (.mov (.tmp 9)) none), (AOper.mk (some 87) (.mov (.tmp 11)) none), (AOper.mk (some 88) (.mov (.tmp 9)) none), (AOper.mk (some 89) (.ibin .sub (.tmp 88) (.const (.int .i64 8))) none), (AOper.mk (some 90) (.mov (.tmp 11)) none), (AOper.mk (some 91) (.indexArr 60 4 (.tmp 5) (.tmp 89)) none), (AOper.mk (some 92) (.indexArr 4 1 (.tmp 91) (.tmp 90)) none), (AOper.mk (some 93) (.load1 (.tmp 92)) none), (AOper.mk (some 94) (.mov (.tmp 11)) none), (AOper.mk (some 95) (.indexArr 4 1 (.tmp 10) (.tmp 94)) none), (AOper.mk (some 96) (.load1 (.tmp 95)) none), (AOper.mk (some 97) (.ibin .xor (.tmp 93) (.tmp 96)) none), (AOper.mk (some 98) (.indexArr 60 4 (.tmp 5) (.tmp 86)) none), (AOper.mk (some 99) (.indexArr 4 1 (.tmp 98) (.tmp 87)) none), (AOper.mk none (.store 1 (.tmp 99) (.tmp 97)) none)] [0, 1, 2, 3, 4, 5, 6, 7, 8, 9, 10, 11, 12, 13, 14] [0, 0, 0, 4, 0, 12, 60, 124, 0, 256, 768, 2044, 1, 8191, 16383] [(0, 0), (0, 0), (0, 0), (0, 0), (0, 0), (0, 0), (0, 0), (0, 0), (0, 0), (0, 0), (0, 0), (0, 0), (0, 0), (0, 0), (0, 1)] false)
def rkLoop6 : ACode := (.block 6 (.loop (.seq (.seq (.region [(AOper.mk (some 82) (.mov (.tmp 11)) none), (AOper.mk (some 83) (.ibin .lss (.tmp 82) (.const (.int .i64 4))) none)]) (.cond (.tmp 83) .skip (.exit 6))) (.seq (.block 7 (.draw (ADraw.mk [(AOper.mk (some 86) (.mov (.tmp 9)) none), (AOper.mk (some 87) (.mov (.tmp 11)) none), (AOper.mk (some 88) (.mov (.tmp 9)) none), (AOper.mk (some 89) (.ibin .sub (.tmp 88) (.const (.int .i64 8))) none), (AOper.mk (some 90) (.mov (.tmp 11)) none), (AOper.mk (some 91) (.indexArr 60 4 (.tmp 5) (.tmp 89)) none), (AOper.mk (some 92) (.indexArr 4 1 (.tmp 91) (.tmp 90)) none), (AOper.mk (some 93) (.load1 (.tmp 92)) none), (AOper.mk (some 94) (.mov (.tmp 11)) none), (AOper.mk (some 95) (.indexArr 4 1 (.tmp 10) (.tmp 94)) none), (AOper.mk (some 96) (.load1 (.tmp 95)) none), (AOper.mk (some 97) (.ibin .xor (.tmp 93) (.tmp 96)) none), (AOper.mk (some 98) (.indexArr 60 4 (.tmp 5) (.tmp 86)) none), (AOper.mk (some 99) (.indexArr 4 1 (.tmp 98) (.tmp 87)) none), (AOper.mk none (.store 1 (.tmp 99) (.tmp 97)) none)] [0, 1, 2, 3, 4, 5, 6, 7, 8, 9, 10, 11, 12, 13, 14] [0, 0, 0, 4, 0, 12, 60, 124, 0, 256, 768, 2044, 1, 8191, 16383] [(0, 0), (0, 0), (0, 0), (0, 0), (0, 0), (0, 0), (0, 0), (0, 0), (0, 0), (0, 0), (0, 0), (0, 0), (0, 0), (0, 0), (0, 1)] false))) (.region [(AOper.mk (some 84) (.mov (.tmp 11)) none), (AOper.mk (some 85) (.ibin .add (.tmp 84) (.const (.int .i64 1))) none), (AOper.mk (some 11) (.mov (.tmp 85)) none)])))))
def rkMain : ACode := (.block 4 (.loop (.seq (.seq (.region [(AOper.mk (some 30) (.mov (.tmp 9)) none), (AOper.mk (some 31) (.ibin .lss (.tmp 30) (.const (.int .i64 60))) none)]) (.cond (.tmp 31) .skip (.exit 4))) (.seq (.block 5 (.seq (.region [(AOper.mk (some 34) (.mov (.tmp 9)) none), (AOper.mk (some 35) (.ibin .sub (.tmp 34) (.const (.int .i64 1))) none), (AOper.mk (some 36) (.indexArr 60 4 (.tmp 5) (.tmp 35)) none), (AOper.mk (some 37) (.loadN 4 (.tmp 36)) none), (AOper.mk (some 10) (.alloc 45 [(.int .u8 0), (.int .u8 0), (.int .u8 0), (.int .u8 0)]) none), (AOper.mk none (.store 4 (.tmp 10) (.tmp 37)) none)]) (.seq (.seq (.region [(AOper.mk (some 38) (.mov (.tmp 9)) none), (AOper.mk (some 39) (.ibin .rem (.tmp 38) (.const (.int .i64 8))) none), (AOper.mk (some 40) (.ibin .eql (.tmp 39) (.const (.int .i64 0))) none)]) (.cond (.tmp 40) (.seq (.draw (ADraw.mk [(AOper.mk (some 41) (.indexArr 4 1 (.tmp 10) (.const (.int .i64 1))) none), (AOper.mk (some 42) (.load1 (.tmp 41)) none), (AOper.mk (some 43) (.indexArr 256 1 (.tmp 3) (.tmp 42)) none), (AOper.mk (some 44) (.load1 (.tmp 43)) none), (AOper.mk (some 45) (.mov (.tmp 8)) none), (AOper.mk (some 46) (.ibin .xor (.tmp 44) (.tmp 45)) none), (AOper.mk (some 47) (.indexArr 4 1 (.tmp 10) (.const (.int .i64 2))) none), (AOper.mk (some 48) (.load1 (.tmp 47)) none), (AOper.mk (some 49) (.indexArr 256 1 (.tmp 3) (.tmp 48)) none), (AOper.mk (some 50) (.load1 (.tmp 49)) none), (AOper.mk (some 51) (.indexArr 4 1 (.tmp 10) (.const (.int .i64 3))) none), (AOper.mk (some 52) (.load1 (.tmp 51)) none), (AOper.mk (some 53) (.indexArr 256 1 (.tmp 3) (.tmp 52)) none), (AOper.mk (some 54) (.load1 (.tmp 53)) none), (AOper.mk (some 55) (.indexArr 4 1 (.tmp 10) (.const (.int .i64 0))) none), (AOper.mk (some 56) (.load1 (.tmp 55)) none), (AOper.mk (some 57) (.indexArr 256 1 (.tmp 3) (.tmp 56)) none), (AOper.mk (some 58) (.load1 (.tmp 57)) none), (AOper.mk (some 59) (.build [(.int .u8 0), (.int .u8 0), (.int .u8 0), (.int .u8 0)] [(0, (1, (.tmp 46))), (1, (1, (.tmp 50))), (2, (1, (.tmp 54))), (3, (1, (.tmp 58)))]) none), (AOper.mk none (.store 4 (.tmp 10) (.tmp 59)) none)] [0, 1, 2, 3, 4, 5, 6, 7, 8, 9, 10, 11, 12, 13, 14, 15, 16, 17, 18, 19] [0, 1, 3, 7, 0, 31, 0, 64, 192, 448, 0, 1024, 3072, 7168, 0, 16384, 49152, 114688, 262143, 524287] [(0, 0), (0, 0), (0, 0), (0, 0), (0, 0), (0, 0), (0, 0), (0, 0), (0, 0), (0, 0), (0, 0), (0, 0), (0, 0), (0, 0), (0, 0), (0, 0), (0, 0), (0, 0), (0, 0), (0, 1)] false)) (.region [(AOper.mk (some 60) (.mov (.tmp 8)) none), (AOper.mk (some 61) (.call (.const (.func (.func 28) [] [])) [(.tmp 60), (.const (.int .u8 2))]) none), (AOper.mk (some 8) (.mov (.tmp 61)) none)])) (.seq (.region [(AOper.mk (some 62) (.mov (.tmp 9)) none), (AOper.mk (some 63) (.ibin .rem (.tmp 62) (.const (.int .i64 8))) none), (AOper.mk (some 64) (.ibin .eql (.tmp 63) (.const (.int .i64 4))) none)]) (.cond (.tmp 64) (.draw (ADraw.mk [(AOper.mk (some 65) (.indexArr 4 1 (.tmp 10) (.const (.int .i64 0))) none), (AOper.mk (some 66) (.load1 (.tmp 65)) none), (AOper.mk (some 67) (.indexArr 256 1 (.tmp 3) (.tmp 66)) none), (AOper.mk (some 68) (.load1 (.tmp 67)) none), (AOper.mk (some 69) (.indexArr 4 1 (.tmp 10) (.const (.int .i64 1))) none), (AOper.mk (some 70) (.load1 (.tmp 69)) none), (AOper.mk (some 71) (.indexArr 256 1 (.tmp 3) (.tmp 70)) none), (AOper.mk (some 72) (.load1 (.tmp 71)) none), (AOper.mk (some 73) (.indexArr 4 1 (.tmp 10) (.const (.int .i64 2))) none), (AOper.mk (some 74) (.load1 (.tmp 73)) none), (AOper.mk (some 75) (.indexArr 256 1 (.tmp 3) (.tmp 74)) none), (AOper.mk (some 76) (.load1 (.tmp 75)) none), (AOper.mk (some 77) (.indexArr 4 1 (.tmp 10) (.const (.int .i64 3))) none), (AOper.mk (some 78) (.load1 (.tmp 77)) none), (AOper.mk (some 79) (.indexArr 256 1 (.tmp 3) (.tmp 78)) none), (AOper.mk (some 80) (.load1 (.tmp 79)) none), (AOper.mk (some 81) (.build [(.int .u8 0), (.int .u8 0), (.int .u8 0), (.int .u8 0)] [(0, (1, (.tmp 68))), (1, (1, (.tmp 72))), (2, (1, (.tmp 76))), (3, (1, (.tmp 80)))]) none), (AOper.mk none (.store 4 (.tmp 10) (.tmp 81)) none)] [0, 1, 2, 3, 4, 5, 6, 7, 8, 9, 10, 11, 12, 13, 14, 15, 16, 17] [0, 1, 3, 7, 0, 16, 48, 112, 0, 256, 768, 1792, 0, 4096, 12288, 28672, 65535, 131071] [(0, 0), (0, 0), (0, 0), (0, 0), (0, 0), (0, 0), (0, 0), (0, 0), (0, 0), (0, 0), (0, 0), (0, 0), (0, 0), (0, 0), (0, 0), (0, 0), (0, 0), (0, 1)] false)) .skip)))) (.seq (.region [(AOper.mk (some 11) (.mov (.const (.int .i64 0))) none)]) (.block 6 (.loop (.seq (.seq (.region [(AOper.mk (some 82) (.mov (.tmp 11)) none), (AOper.mk (some 83) (.ibin .lss (.tmp 82) (.const (.int .i64 4))) none)]) (.cond (.tmp 83) .skip (.exit 6))) (.seq (.block 7 (.draw (ADraw.mk [(AOper.mk (some 86) (.mov (.tmp 9)) none), (AOper.mk (some 87) (.mov (.tmp 11)) none), (AOper.mk (some 88) (.mov (.tmp 9)) none), (AOper.mk (some 89) (.ibin .sub (.tmp 88) (.const (.int .i64 8))) none), (AOper.mk (some 90) (.mov (.tmp 11)) none), (AOper.mk (some 91) (.indexArr 60 4 (.tmp 5) (.tmp 89)) none), (AOper.mk (some 92) (.indexArr 4 1 (.tmp 91) (.tmp 90)) none), (AOper.mk (some 93) (.load1 (.tmp 92)) none), (AOper.mk (some 94) (.mov (.tmp 11)) none), (AOper.mk (some 95) (.indexArr 4 1 (.tmp 10) (.tmp 94)) none), (AOper.mk (some 96) (.load1 (.tmp 95)) none), (AOper.mk (some 97) (.ibin .xor (.tmp 93) (.tmp 96)) none), (AOper.mk (some 98) (.indexArr 60 4 (.tmp 5) (.tmp 86)) none), (AOper.mk (some 99) (.indexArr 4 1 (.tmp 98) (.tmp 87)) none), (AOper.mk none (.store 1 (.tmp 99) (.tmp 97)) none)] [0, 1, 2, 3, 4, 5, 6, 7, 8, 9, 10, 11, 12, 13, 14] [0, 0, 0, 4, 0, 12, 60, 124, 0, 256, 768, 2044, 1, 8191, 16383] [(0, 0), (0, 0), (0, 0), (0, 0), (0, 0), (0, 0), (0, 0), (0, 0), (0, 0), (0, 0), (0, 0), (0, 0), (0, 0), (0, 0), (0, 1)] false))) (.region [(AOper.mk (some 84) (.mov (.tmp 11)) none), (AOper.mk (some 85) (.ibin .add (.tmp 84) (.const (.int .i64 1))) none), (AOper.mk (some 11) (.mov (.tmp 85)) none)]))))))))) (.region [(AOper.mk (some 32) (.mov (.tmp 9)) none), (AOper.mk (some 33) (.ibin .add (.tmp 32) (.const (.int .i64 1))) none), (AOper.mk (some 9) (.mov (.tmp 33)) none)])))))

theorem getB (x : UInt8) : (bs boxL)[x.toNat]? = some (by' (B x)) := getbs (by rw [length_boxL]; exact x.toNat_lt)

theorem rk_d1 {a : Frm} {H : Heap} {bx t : Nat} {x0 x1 x2 x3 p : UInt8} {e e' : TypeId} (h3 : a.get 3 = some (.ptr (some (bx, 0)))) (h8 : a.get 8 = some (by' p)) (h10 : a.get 10 = some (.ptr (some (t, 0))))
    (hb : H.t.get bx = some (.cells (bs boxL) e false false)) (ht : H.t.get t = some (.cells (bs [x0, x1, x2, x3]) e' false false)) {Q : AExit → Frm → Heap → Prop}
    (hQ : ∀ a', a'.get 3 = a.get 3 → a'.get 4 = a.get 4 → a'.get 5 = a.get 5 → a'.get 8 = a.get 8 → a'.get 9 = a.get 9 → a'.get 10 = a.get 10 → Q .normal a' ⟨H.t.set t (.cells (bs [B x1 ^^^ p, B x2, B x3, B x0]) e' false false), H.next + 20⟩) : W E (.draw rkDraw1) a H Q := by
  refine W_draw (l := _) rfl (N := 20) rfl ?_
  have e0 : (bs [x0, x1, x2, x3])[0]? = some (by' x0) := rfl
  have e1 : (bs [x0, x1, x2, x3])[1]? = some (by' x1) := rfl
  have e2 : (bs [x0, x1, x2, x3])[2]? = some (by' x2) := rfl
  have e3 : (bs [x0, x1, x2, x3])[3]? = some (by' x3) := rfl
  simp (disch := omega) only [rkDraw1, l_mov, l_ibin, l_load1, l_indexArr, eX_t, eX_c, put_s, put_n, getset, Nat.reduceEqDiff, if_false, if_true, Option.getD_some, rd, natOf_nn, natOf_by, Option.some.injEq, exists_eq_left', Prod.mk.injEq, and_assoc, exists_and_left, true_and, Nat.zero_add, Nat.add_zero, Nat.mul_one, ble_t, mul_nn, quo_nn, rem_nn, add_nn, sub_nn, lss_nn, eql_nn, neq_nn, xor_by, k0, k1, k2, k3, k4, k5, k6, k7, k8, k12, k13, k14, k15, k16, k32, k60, k254, k256, h3, h8, h10, load_blk' hb, load_blk' ht, e0, e1, e2, e3, ble_t (UInt8.toNat_lt x0), ble_t (UInt8.toNat_lt x1), ble_t (UInt8.toNat_lt x2), ble_t (UInt8.toNat_lt x3), getB]
  rw [l_build]
  refine ⟨_, build4 (p := B x1 ^^^ p) (q := B x2) (r := B x3) (s := B x0) (by simp only [eX_t, eX_c, put_s, put_n, getset, Nat.reduceEqDiff, if_false, if_true, Option.getD_some]) (by simp only [eX_t, eX_c, put_s, put_n, getset, Nat.reduceEqDiff, if_false, if_true, Option.getD_some]) (by simp only [eX_t, eX_c, put_s, put_n, getset, Nat.reduceEqDiff, if_false, if_true, Option.getD_some]) (by simp only [eX_t, eX_c, put_s, put_n, getset, Nat.reduceEqDiff, if_false, if_true, Option.getD_some]), ?_⟩
  simp only [l_store, wr0_store, eX_t, eX_c, put_s, put_n, getset, Nat.reduceEqDiff, if_false, if_true, Option.getD_some, h10, four_store ht rfl, Option.some.injEq, Prod.mk.injEq, exists_eq_left', and_assoc, exists_and_left, WL_nil]
  refine ⟨?_, _, _, rfl, ?_⟩
  · simp only [stable_cons, stable_nil, sm_mov, sm_ibin, sm_nilCheck, sm_indexArr, sm_indexSl, sm_indexVal, sm_indexStr, sm_lenStr, sm_lenSl, sm_build, sm_store, sm_call, Bool.true_and, Bool.and_true, Bool.and_eq_true, List.reverse_cons, List.reverse_nil, List.nil_append, List.cons_append, List.drop_zero, List.drop_succ_cons, Nat.sub_zero, Nat.succ_eq_add_one, Nat.zero_add, Nat.reduceAdd, Nat.reduceSub, List.take_succ_cons, List.take_zero, List.take_nil]
    refine ⟨sm_load1 rfl (b := t) (o := 1) (v := by' x1) ?_ ?_ ?_ (AVbeq_by _), sm_load1 rfl (b := bx) (o := x1.toNat) (v := by' (B x1)) ?_ ?_ ?_ (AVbeq_by _), sm_load1 rfl (b := t) (o := 2) (v := by' x2) ?_ ?_ ?_ (AVbeq_by _), sm_load1 rfl (b := bx) (o := x2.toNat) (v := by' (B x2)) ?_ ?_ ?_ (AVbeq_by _),
      sm_load1 rfl (b := t) (o := 3) (v := by' x3) ?_ ?_ ?_ (AVbeq_by _), sm_load1 rfl (b := bx) (o := x3.toNat) (v := by' (B x3)) ?_ ?_ ?_ (AVbeq_by _), sm_load1 rfl (b := t) (o := 0) (v := by' x0) ?_ ?_ ?_ (AVbeq_by _), sm_load1 rfl (b := bx) (o := x0.toNat) (v := by' (B x0)) ?_ ?_ ?_ (AVbeq_by _)⟩
    all_goals first
      | simp only [eX_t, eX_c, put_s, put_n, getset, Nat.reduceEqDiff, if_false, if_true, Option.getD_some]; done
      | (intro H' hH'; simp only [List.mem_singleton] at hH'; subst hH'; simp only [load_blk' hb, load_blk' ht, e0, e1, e2, e3, getB])
  · refine hQ _ ?_ ?_ ?_ ?_ ?_ ?_ <;> simp only [getset, Nat.reduceEqDiff, if_false]

theorem rk_d2 {a : Frm} {H : Heap} {bx t : Nat} {x0 x1 x2 x3 : UInt8} {e e' : TypeId} (h3 : a.get 3 = some (.ptr (some (bx, 0)))) (h10 : a.get 10 = some (.ptr (some (t, 0))))
    (hb : H.t.get bx = some (.cells (bs boxL) e false false)) (ht : H.t.get t = some (.cells (bs [x0, x1, x2, x3]) e' false false)) {Q : AExit → Frm → Heap → Prop}
    (hQ : ∀ a', a'.get 3 = a.get 3 → a'.get 4 = a.get 4 → a'.get 5 = a.get 5 → a'.get 8 = a.get 8 → a'.get 9 = a.get 9 → a'.get 10 = a.get 10 → Q .normal a' ⟨H.t.set t (.cells (bs [B x0, B x1, B x2, B x3]) e' false false), H.next + 18⟩) : W E (.draw rkDraw2) a H Q := by
  refine W_draw (l := _) rfl (N := 18) rfl ?_
  have e0 : (bs [x0, x1, x2, x3])[0]? = some (by' x0) := rfl
  have e1 : (bs [x0, x1, x2, x3])[1]? = some (by' x1) := rfl
  have e2 : (bs [x0, x1, x2, x3])[2]? = some (by' x2) := rfl
  have e3 : (bs [x0, x1, x2, x3])[3]? = some (by' x3) := rfl
  simp (disch := omega) only [rkDraw2, l_mov, l_ibin, l_load1, l_indexArr, eX_t, eX_c, put_s, put_n, getset, Nat.reduceEqDiff, if_false, if_true, Option.getD_some, rd, natOf_nn, natOf_by, Option.some.injEq, exists_eq_left', Prod.mk.injEq, and_assoc, exists_and_left, true_and, Nat.zero_add, Nat.add_zero, Nat.mul_one, ble_t, mul_nn, quo_nn, rem_nn, add_nn, sub_nn, lss_nn, eql_nn, neq_nn, xor_by, k0, k1, k2, k3, k4, k5, k6, k7, k8, k12, k13, k14, k15, k16, k32, k60, k254, k256, h3, h10, load_blk' hb, load_blk' ht, e0, e1, e2, e3, ble_t (UInt8.toNat_lt x0), ble_t (UInt8.toNat_lt x1), ble_t (UInt8.toNat_lt x2), ble_t (UInt8.toNat_lt x3), getB]
  rw [l_build]
  refine ⟨_, build4 (p := B x0) (q := B x1) (r := B x2) (s := B x3) (by simp only [eX_t, eX_c, put_s, put_n, getset, Nat.reduceEqDiff, if_false, if_true, Option.getD_some]) (by simp only [eX_t, eX_c, put_s, put_n, getset, Nat.reduceEqDiff, if_false, if_true, Option.getD_some]) (by simp only [eX_t, eX_c, put_s, put_n, getset, Nat.reduceEqDiff, if_false, if_true, Option.getD_some]) (by simp only [eX_t, eX_c, put_s, put_n, getset, Nat.reduceEqDiff, if_false, if_true, Option.getD_some]), ?_⟩
  simp only [l_store, wr0_store, eX_t, eX_c, put_s, put_n, getset, Nat.reduceEqDiff, if_false, if_true, Option.getD_some, h10, four_store ht rfl, Option.some.injEq, Prod.mk.injEq, exists_eq_left', and_assoc, exists_and_left, WL_nil]
  refine ⟨?_, _, _, rfl, ?_⟩
  · simp only [stable_cons, stable_nil, sm_mov, sm_ibin, sm_nilCheck, sm_indexArr, sm_indexSl, sm_indexVal, sm_indexStr, sm_lenStr, sm_lenSl, sm_build, sm_store, sm_call, Bool.true_and, Bool.and_true, Bool.and_eq_true, List.reverse_cons, List.reverse_nil, List.nil_append, List.cons_append, List.drop_zero, List.drop_succ_cons, Nat.sub_zero, Nat.succ_eq_add_one, Nat.zero_add, Nat.reduceAdd, Nat.reduceSub, List.take_succ_cons, List.take_zero, List.take_nil]
    refine ⟨sm_load1 rfl (b := t) (o := 0) (v := by' x0) ?_ ?_ ?_ (AVbeq_by _), sm_load1 rfl (b := bx) (o := x0.toNat) (v := by' (B x0)) ?_ ?_ ?_ (AVbeq_by _), sm_load1 rfl (b := t) (o := 1) (v := by' x1) ?_ ?_ ?_ (AVbeq_by _), sm_load1 rfl (b := bx) (o := x1.toNat) (v := by' (B x1)) ?_ ?_ ?_ (AVbeq_by _), sm_load1 rfl (b := t) (o := 2) (v := by' x2) ?_ ?_ ?_ (AVbeq_by _), sm_load1 rfl (b := bx) (o := x2.toNat) (v := by' (B x2)) ?_ ?_ ?_ (AVbeq_by _),
      sm_load1 rfl (b := t) (o := 3) (v := by' x3) ?_ ?_ ?_ (AVbeq_by _), sm_load1 rfl (b := bx) (o := x3.toNat) (v := by' (B x3)) ?_ ?_ ?_ (AVbeq_by _)⟩
    all_goals first
      | simp only [eX_t, eX_c, put_s, put_n, getset, Nat.reduceEqDiff, if_false, if_true, Option.getD_some]; done
      | (intro H' hH'; simp only [List.mem_singleton] at hH'; subst hH'; simp only [load_blk' hb, load_blk' ht, e0, e1, e2, e3, getB])
  · refine hQ _ ?_ ?_ ?_ ?_ ?_ ?_ <;> simp only [getset, Nat.reduceEqDiff, if_false]

theorem rk_d3 {a : Frm} {H : Heap} {c t i k : Nat} {C X : List UInt8} {e e' : TypeId} (h5 : a.get 5 = some (.ptr (some (c, 0)))) (h9 : a.get 9 = some (nn i)) (h10 : a.get 10 = some (.ptr (some (t, 0))))
    (h11 : a.get 11 = some (nn k)) (hk : k < 4) (hi : i < 60) (hi8 : 8 ≤ i) (hC : C.length = 240) (hX : X.length = 4)
    (hc : H.t.get c = some (.cells (bs C) e false false)) (ht : H.t.get t = some (.cells (bs X) e' false false)) {Q : AExit → Frm → Heap → Prop}
    (hQ : ∀ a', a'.get 3 = a.get 3 → a'.get 4 = a.get 4 → a'.get 5 = a.get 5 → a'.get 8 = a.get 8 → a'.get 9 = a.get 9 → a'.get 10 = a.get 10 → a'.get 11 = a.get 11 → 
      Q .normal a' ⟨H.t.set c (.cells (bs (C.set (i * 4 + k) (C.getD ((i - 8) * 4 + k) 0 ^^^ X.getD k 0))) e false false), H.next + 15⟩) : W E (.draw rkDraw3) a H Q := by
  refine W_draw (l := _) rfl (N := 15) rfl ?_
  have e0 := getbs (S := C) (i := (i - 8) * 4 + k) (by omega)
  have e1 := getbs (S := X) (i := k) (by omega)
  simp (disch := omega) only [rkDraw3, l_mov, l_ibin, l_load1, l_loadN, l_nilCheck, l_indexArr, l_indexSl, l_indexVal, l_indexStr, l_lenStr, l_lenSl, l_store, l_build, WL_nil, eX_t, eX_c, put_s, put_n, getset, Nat.reduceEqDiff, if_false, if_true, Option.getD_some, rd, natOf_nn, natOf_by, Option.some.injEq, exists_eq_left', Prod.mk.injEq, and_assoc, exists_and_left, true_and, Nat.zero_add, Nat.add_zero, Nat.mul_one, ble_t, mul_nn, quo_nn, rem_nn, add_nn, sub_nn, lss_nn, eql_nn, neq_nn, xor_by, k0, k1, k2, k3, k4, k5, k6, k7, k8, k12, k13, k14, k15, k16, k32, k60, k254, k256, h5, h9, h10, h11, load_blk' hc, load_blk' ht, e0, e1]
  simp (disch := omega) only [wr0_store, l_mov, l_ibin, l_load1, l_loadN, l_nilCheck, l_indexArr, l_indexSl, l_indexVal, l_indexStr, l_lenStr, l_lenSl, l_store, l_build, WL_nil, eX_t, eX_c, put_s, put_n, getset, Nat.reduceEqDiff, if_false, if_true, Option.getD_some, rd, natOf_nn, natOf_by, Option.some.injEq, exists_eq_left', Prod.mk.injEq, and_assoc, exists_and_left, true_and, Nat.zero_add, Nat.add_zero, Nat.mul_one, ble_t, mul_nn, quo_nn, rem_nn, add_nn, sub_nn, lss_nn, eql_nn, neq_nn, xor_by, wst_by hc]
  refine ⟨?_, _, _, rfl, ?_⟩
  · simp only [stable_cons, stable_nil, sm_mov, sm_ibin, sm_nilCheck, sm_indexArr, sm_indexSl, sm_indexVal, sm_indexStr, sm_lenStr, sm_lenSl, sm_build, sm_store, sm_call, Bool.true_and, Bool.and_true, Bool.and_eq_true, List.reverse_cons, List.reverse_nil, List.nil_append, List.cons_append, List.drop_zero, List.drop_succ_cons, Nat.sub_zero, Nat.succ_eq_add_one, Nat.zero_add, Nat.reduceAdd, Nat.reduceSub, List.take_succ_cons, List.take_zero, List.take_nil]
    refine ⟨sm_load1 rfl (b := c) (o := (i - 8) * 4 + k) (v := by' (C.getD ((i - 8) * 4 + k) 0)) ?_ ?_ ?_ (AVbeq_by _), sm_load1 rfl (b := t) (o := k) (v := by' (X.getD k 0)) ?_ ?_ ?_ (AVbeq_by _)⟩
    all_goals first
      | simp only [eX_t, eX_c, put_s, put_n, getset, Nat.reduceEqDiff, if_false, if_true, Option.getD_some]; done
      | (intro H' hH'; simp only [List.mem_singleton] at hH'; subst hH'; simp only [load_blk' hc, load_blk' ht, e0, e1])
  · refine hQ _ ?_ ?_ ?_ ?_ ?_ ?_ ?_ <;> simp only [getset, Nat.reduceEqDiff, if_false]

theorem rk_l6 {a : Frm} {H : Heap} {c t i : Nat} {C X : List UInt8} {e e' : TypeId} (h5 : a.get 5 = some (.ptr (some (c, 0)))) (h9 : a.get 9 = some (nn i)) (h10 : a.get 10 = some (.ptr (some (t, 0))))
    (h11 : a.get 11 = some (nn 0)) (hi : i < 60) (hi8 : 8 ≤ i) (hC : C.length = 240) (hX : X.length = 4) (hct : c ≠ t)
    (hc : H.t.get c = some (.cells (bs C) e false false)) (ht : H.t.get t = some (.cells (bs X) e' false false)) {Q : AExit → Frm → Heap → Prop}
    (hQ : ∀ a' H', a'.get 3 = a.get 3 → a'.get 4 = a.get 4 → a'.get 5 = a.get 5 → a'.get 8 = a.get 8 → a'.get 9 = a.get 9 → 
      H.next ≤ H'.next → (∀ j, H'.t.get j = if c = j then some (.cells (bs (lastK C X i 4)) e false false) else H.t.get j) → Q .normal a' H') : W E rkLoop6 a H Q := by
  refine W.block ?_
  refine W.count 4 (fun k a' H' => H.next ≤ H'.next ∧ (∀ j, H'.t.get j = if c = j then some (.cells (bs (lastK C X i k)) e false false) else H.t.get j) ∧ a'.get 3 = a.get 3 ∧ a'.get 4 = a.get 4 ∧ a'.get 5 = a.get 5 ∧ a'.get 8 = a.get 8 ∧ a'.get 9 = a.get 9 ∧ a'.get 10 = a.get 10 ∧ a'.get 11 = some (nn k)) ?_ ?_ 0 _ H (by omega) ?_
  · intro k a1 H1 hk ⟨hn, hb, g3, g4, g5, g8, g9, g10, g11⟩
    refine W.seq (W.seq (W.region ?_))
    simp only [w_mov, w_ibin, w_load1, w_loadN, w_nilCheck, w_indexArr, w_indexSl, w_indexVal, w_indexStr, w_lenStr, w_lenSl, w_store, w_alloc, w_box, w_build, w_sliceArr, w_bytesToStr, w_pick, WOps_nil, thenQ_normal, eX_t, eX_c, put_s, put_n, getset, Nat.reduceEqDiff, if_false, if_true, Option.getD_some, rd, natOf_nn, natOf_by, Option.some.injEq, exists_eq_left', Prod.mk.injEq, and_assoc, exists_and_left, true_and, Nat.zero_add, Nat.add_zero, Nat.mul_one, ble_t, mul_nn, quo_nn, rem_nn, add_nn, sub_nn, lss_nn, eql_nn, neq_nn, xor_by, k0, k1, k2, k3, k4, k5, k6, k7, k8, k12, k13, k14, k15, k16, k32, k60, k254, k256, g11]
    refine W.cond (b := true) (by simp only [eX_t, eX_c, put_s, put_n, getset, Nat.reduceEqDiff, if_false, if_true, Option.getD_some]; simp [hk]) (W.skip ?_)
    rw [thenQ_normal]
    refine W.seq (W.block ?_)
    refine rk_d3 (C := lastK C X i k) (X := X) (i := i) (k := k) (c := c) (t := t) (e := e) (e' := e') (by simp only [eX_t, eX_c, put_s, put_n, getset, Nat.reduceEqDiff, if_false, if_true, Option.getD_some]; exact g5.trans h5) (by simp only [eX_t, eX_c, put_s, put_n, getset, Nat.reduceEqDiff, if_false, if_true, Option.getD_some]; exact g9.trans h9) (by simp only [eX_t, eX_c, put_s, put_n, getset, Nat.reduceEqDiff, if_false, if_true, Option.getD_some]; exact g10.trans h10) (by simp only [eX_t, eX_c, put_s, put_n, getset, Nat.reduceEqDiff, if_false, if_true, Option.getD_some]; exact g11) hk hi hi8 (by rw [length_lastK]; exact hC) hX (by rw [hb, if_pos rfl]) (by rw [hb, if_neg hct]; exact ht) ?_
    intro a' f3 f4 f5 f8 f9 f10 f11
    simp only [getset, Nat.reduceEqDiff, if_false] at f3 f4 f5 f8 f9 f10 f11
    simp only [blockQ_normal, thenQ_normal]
    refine W.region ?_
    rw [g11] at f11
    simp (disch := omega) only [w_mov, w_ibin, w_load1, w_loadN, w_nilCheck, w_indexArr, w_indexSl, w_indexVal, w_indexStr, w_lenStr, w_lenSl, w_store, w_alloc, w_box, w_build, w_sliceArr, w_bytesToStr, w_pick, WOps_nil, thenQ_normal, eX_t, eX_c, put_s, put_n, getset, Nat.reduceEqDiff, if_false, if_true, Option.getD_some, rd, natOf_nn, natOf_by, Option.some.injEq, exists_eq_left', Prod.mk.injEq, and_assoc, exists_and_left, true_and, Nat.zero_add, Nat.add_zero, Nat.mul_one, ble_t, mul_nn, quo_nn, rem_nn, add_nn, sub_nn, lss_nn, eql_nn, neq_nn, xor_by, k0, k1, k2, k3, k4, k5, k6, k7, k8, k12, k13, k14, k15, k16, k32, k60, k254, k256, f11]
    refine ⟨by omega, ?_, f3.trans g3, f4.trans g4, f5.trans g5, f8.trans g8, f9.trans g9, f10.trans g10, trivial⟩
    intro j
    by_cases h : c = j
    · rw [if_pos h, if_pos h, lastK]
    · rw [if_neg h, if_neg h, hb j, if_neg h]
  · intro a1 H1 ⟨hn, hb, g3, g4, g5, g8, g9, g10, g11⟩
    refine W.seq (W.seq (W.region ?_))
    simp only [w_mov, w_ibin, w_load1, w_loadN, w_nilCheck, w_indexArr, w_indexSl, w_indexVal, w_indexStr, w_lenStr, w_lenSl, w_store, w_alloc, w_box, w_build, w_sliceArr, w_bytesToStr, w_pick, WOps_nil, thenQ_normal, eX_t, eX_c, put_s, put_n, getset, Nat.reduceEqDiff, if_false, if_true, Option.getD_some, rd, natOf_nn, natOf_by, Option.some.injEq, exists_eq_left', Prod.mk.injEq, and_assoc, exists_and_left, true_and, Nat.zero_add, Nat.add_zero, Nat.mul_one, ble_t, mul_nn, quo_nn, rem_nn, add_nn, sub_nn, lss_nn, eql_nn, neq_nn, xor_by, k0, k1, k2, k3, k4, k5, k6, k7, k8, k12, k13, k14, k15, k16, k32, k60, k254, k256, g11]
    refine W.cond (b := false) (by simp only [eX_t, eX_c, put_s, put_n, getset, Nat.reduceEqDiff, if_false, if_true, Option.getD_some]; simp) (W.exit ?_)
    rw [thenQ_exit]
    refine ⟨nofun, ?_⟩
    simp only [blockQ_exit, Nat.beq_refl, cond_true]
    refine hQ _ _ ?_ ?_ ?_ ?_ ?_ hn hb <;> simp only [getset, Nat.reduceEqDiff, if_false] <;> assumption
  · refine ⟨Nat.le_refl _, ?_, rfl, rfl, rfl, rfl, rfl, rfl, h11⟩
    intro j
    by_cases h : c = j
    · subst h; rw [if_pos rfl]; exact hc
    · rw [if_neg h]

theorem prod2_all : (List.range 256).all (fun a => Nat.beq (prodN a 2) (twN a)) = true := by kernel_rfl
theorem prod3_all : (List.range 256).all (fun a => Nat.beq (prodN a 3) (Nat.xor (twN a) a)) = true := by kernel_rfl
theorem prod2 (b : UInt8) : prod b 2 = tw b := by
  apply UInt8.toNat_inj.1
  rw [prod_nat, tw_nat]
  exact Nat.eq_of_beq_eq_true (List.all_eq_true.1 prod2_all b.toNat (List.mem_range.2 b.toNat_lt))
theorem prod3 (b : UInt8) : prod b 3 = tw b ^^^ b := by
  apply UInt8.toNat_inj.1
  rw [prod_nat, UInt8.toNat_xor, tw_nat]
  exact Nat.eq_of_beq_eq_true (List.all_eq_true.1 prod3_all b.toNat (List.mem_range.2 b.toNat_lt))

theorem boxK4 (x0 x1 x2 x3 : UInt8) : boxK [x0, x1, x2, x3] 4 = [B x0, B x1, B x2, B x3] := rfl
end Go.AE
end
-- Contracts of the reference of aes: keys, all.
section
set_option linter.unusedVariables false
set_option linter.unusedSimpArgs false
set_option maxRecDepth 100000
set_option maxHeartbeats 1000000
namespace Go.AE
variable {E : Env}

theorem words0 {K : List UInt8} {m : Nat} {x0 x1 x2 x3 : UInt8} (hX : ((wordsP K m).1.drop ((m + 8 - 1) * 4)).take 4 = [x0, x1, x2, x3]) (h0 : (m + 8) % 8 = 0) :
    wordsP K (m + 1) = (lastK (wordsP K m).1 [B x1 ^^^ (wordsP K m).2, B x2, B x3, B x0] (m + 8) 4, tw (wordsP K m).2) := by
  rw [wordsP]
  simp only [hX]
  rw [if_pos h0, wordP, if_pos h0]
  rfl
theorem words4 {K : List UInt8} {m : Nat} {x0 x1 x2 x3 : UInt8} (hX : ((wordsP K m).1.drop ((m + 8 - 1) * 4)).take 4 = [x0, x1, x2, x3]) (h0 : ¬ (m + 8) % 8 = 0) (h4 : (m + 8) % 8 = 4) :
    wordsP K (m + 1) = (lastK (wordsP K m).1 [B x0, B x1, B x2, B x3] (m + 8) 4, (wordsP K m).2) := by
  rw [wordsP]
  simp only [hX]
  rw [if_neg h0, wordP, if_neg h0, if_pos h4, boxK4]
theorem wordsN {K : List UInt8} {m : Nat} {x0 x1 x2 x3 : UInt8} (hX : ((wordsP K m).1.drop ((m + 8 - 1) * 4)).take 4 = [x0, x1, x2, x3]) (h0 : ¬ (m + 8) % 8 = 0) (h4 : ¬ (m + 8) % 8 = 4) :
    wordsP K (m + 1) = (lastK (wordsP K m).1 [x0, x1, x2, x3] (m + 8) 4, (wordsP K m).2) := by
  rw [wordsP]
  simp only [hX]
  rw [if_neg h0, wordP, if_neg h0, if_neg h4]

attribute [local irreducible] setK boxK lastK wordsP prod B

theorem rk_main (hE : ∀ f, E.funcs f = Aes.funcsT.get f) (hx : ∀ f args H, special f = false → E.sums f args H = none) {a : Frm} {H : Heap} {c bx : Nat} {K : List UInt8} (h3 : a.get 3 = some (.ptr (some (bx, 0)))) (h5 : a.get 5 = some (.ptr (some (c, 0)))) (h8 : a.get 8 = some (by' 1)) (h9 : a.get 9 = some (nn 8))
    (hcn : c < H.next) (hbn : bx < H.next) (hbc : bx ≠ c) (hc : H.t.get c = some (.cells (bs (setK K 32)) 46 false false)) (hbx : H.t.get bx = some (.cells (bs boxL) 42 false false)) {Q : AExit → Frm → Heap → Prop}
    (hQ : ∀ a' H', a'.get 4 = a.get 4 → a'.get 5 = a.get 5 → H.next ≤ H'.next → (∀ j, j < H.next → H'.t.get j = if c = j then some (.cells (bs (wordsP K 52).1) 46 false false) else H.t.get j) → Q .normal a' H') : W E rkMain a H Q := by
  refine W.block ?_
  refine W.count 52 (fun m a' H' => H.next ≤ H'.next ∧ (∀ j, j < H.next → H'.t.get j = if c = j then some (.cells (bs (wordsP K m).1) 46 false false) else H.t.get j) ∧ a'.get 3 = a.get 3 ∧ a'.get 4 = a.get 4 ∧ a'.get 5 = a.get 5 ∧ a'.get 8 = some (by' (wordsP K m).2) ∧ a'.get 9 = some (nn (m + 8))) ?_ ?_ 0 _ H (by omega) ?_
  · intro m a1 H1 hm ⟨hn, hb, g3, g4, g5, g8, g9⟩
    rw [h3] at g3
    rw [h5] at g5
    refine W.seq (W.seq (W.region ?_))
    simp only [w_mov, w_ibin, w_load1, w_loadN, w_nilCheck, w_indexArr, w_indexSl, w_indexVal, w_indexStr, w_lenStr, w_lenSl, w_store, w_alloc, w_box, w_build, w_sliceArr, w_bytesToStr, w_pick, WOps_nil, thenQ_normal, eX_t, eX_c, put_s, put_n, getset, Nat.reduceEqDiff, if_false, if_true, Option.getD_some, rd, natOf_nn, natOf_by, Option.some.injEq, exists_eq_left', Prod.mk.injEq, and_assoc, exists_and_left, true_and, Nat.zero_add, Nat.add_zero, Nat.mul_one, ble_t, mul_nn, quo_nn, rem_nn, add_nn, sub_nn, lss_nn, eql_nn, neq_nn, xor_by, k0, k1, k2, k3, k4, k5, k6, k7, k8, k12, k13, k14, k15, k16, k32, k60, k254, k256, g9]
    refine W.cond (b := true) (by simp only [eX_t, eX_c, put_s, put_n, getset, Nat.reduceEqDiff, if_false, if_true, Option.getD_some]; simp; omega) (W.skip ?_)
    rw [thenQ_normal]
    refine W.seq (W.block (W.seq (W.region ?_)))
    obtain ⟨T1, n1⟩ := H1
    simp only at hn hb
    have hc1 : T1.get c = some (.cells (bs (wordsP K m).1) 46 false false) := by rw [hb c hcn, if_pos rfl]
    have hb1 : T1.get bx = some (.cells (bs boxL) 42 false false) := by rw [hb bx hbn, if_neg (Ne.symm hbc)]; exact hbx
    simp (disch := omega) only [w_mov, w_ibin, w_indexArr, w_loadN, eX_t, eX_c, put_s, put_n, getset, Nat.reduceEqDiff, if_false, if_true, Option.getD_some, rd, natOf_nn, natOf_by, Option.some.injEq, exists_eq_left', Prod.mk.injEq, and_assoc, exists_and_left, true_and, Nat.zero_add, Nat.add_zero, Nat.mul_one, ble_t, mul_nn, quo_nn, rem_nn, add_nn, sub_nn, lss_nn, eql_nn, neq_nn, xor_by, k0, k1, k2, k3, k4, k5, k6, k7, k8, k12, k13, k14, k15, k16, k32, k60, k254, k256, g5, g9]
    rw [loadN_part hc1 (by rw [length_wordsP]; omega)]
    simp only [rd, natOf_nn, natOf_by, Option.some.injEq, exists_eq_left', Prod.mk.injEq, and_assoc, exists_and_left, true_and, Nat.zero_add, Nat.add_zero, Nat.mul_one, ble_t]
    rw [w_alloc, zero4]
    have hp := get_push ⟨T1, n1⟩ (.cells (bs (List.replicate 4 0)) 45 false false)
    have hpn := next_push ⟨T1, n1⟩ (.cells (bs (List.replicate 4 0)) 45 false false)
    generalize Heap.push ⟨T1, n1⟩ (.cells (bs (List.replicate 4 0)) 45 false false) = H2 at hp hpn ⊢
    obtain ⟨T2, n2⟩ := H2
    simp only at hp hpn
    have ht2 : T2.get n1 = some (.cells (bs (List.replicate 4 0)) 45 false false) := by rw [hp, if_pos rfl]
    have hX4 : (((wordsP K m).1.drop ((m + 8 - 1) * 4)).take 4).length = 4 := by rw [List.length_take, List.length_drop, length_wordsP]; omega
    simp only [w_store, eX_t, eX_c, put_s, put_n, getset, Nat.reduceEqDiff, if_false, if_true, Option.getD_some, wst_agg ht2 List.length_replicate hX4, Option.some.injEq, Prod.mk.injEq, exists_eq_left', and_assoc, exists_and_left, WOps_nil, thenQ_normal]
    obtain ⟨x0, x1, x2, x3, hXX⟩ : ∃ x0 x1 x2 x3, ((wordsP K m).1.drop ((m + 8 - 1) * 4)).take 4 = [x0, x1, x2, x3] := by
      generalize ((wordsP K m).1.drop ((m + 8 - 1) * 4)).take 4 = X at hX4
      match X, hX4 with
      | [x0, x1, x2, x3], _ => exact ⟨x0, x1, x2, x3, rfl⟩
    rw [hXX]
    have ht3 : (T2.set n1 (.cells (bs [x0, x1, x2, x3]) 45 false false)).get n1 = some (.cells (bs [x0, x1, x2, x3]) 45 false false) := by rw [getset, if_pos rfl]
    have hfr : ∀ j, j ≠ n1 → (T2.set n1 (.cells (bs [x0, x1, x2, x3]) 45 false false)).get j = T1.get j := fun j hj => by rw [getset, if_neg (Ne.symm hj), hp, if_neg (Ne.symm hj)]
    generalize T2.set n1 (.cells (bs [x0, x1, x2, x3]) 45 false false) = T3 at ht3 hfr ⊢
    have rest : ∀ (a4 : Frm) (H4 : Heap) (Y : List UInt8) (p : UInt8), a4.get 3 = some (.ptr (some (bx, 0))) → a4.get 4 = a.get 4 → a4.get 5 = some (.ptr (some (c, 0))) → a4.get 8 = some (by' p) → a4.get 9 = some (nn (m + 8)) → a4.get 10 = some (.ptr (some (n1, 0))) → n2 ≤ H4.next → Y.length = 4 →
        (∀ j, H4.t.get j = if n1 = j then some (.cells (bs Y) 45 false false) else T3.get j) → wordsP K (m + 1) = (lastK (wordsP K m).1 Y (m + 8) 4, p) →
        thenQ E (.seq (.region [(AOper.mk (some 11) (.mov (.const (.int .i64 0))) none)]) rkLoop6) (blockQ 5 (thenQ E (.region [(AOper.mk (some 32) (.mov (.tmp 9)) none), (AOper.mk (some 33) (.ibin .add (.tmp 32) (.const (.int .i64 1))) none), (AOper.mk (some 9) (.mov (.tmp 33)) none)])
          (fun e a' H' => e = .normal ∧ H.next ≤ H'.next ∧ (∀ j, j < H.next → H'.t.get j = if c = j then some (.cells (bs (wordsP K (m + 1)).1) 46 false false) else H.t.get j) ∧ a'.get 3 = a.get 3 ∧ a'.get 4 = a.get 4 ∧ a'.get 5 = a.get 5 ∧ a'.get 8 = some (by' (wordsP K (m + 1)).2) ∧ a'.get 9 = some (nn (m + 1 + 8))))) .normal a4 H4 := by
      intro a4 H4 Y p q3 q4 q5 q8 q9 q10 hn4 hY4 hb4 hw
      rw [thenQ_normal]
      refine W.seq (W.region ?_)
      simp only [w_mov, w_ibin, w_load1, w_loadN, w_nilCheck, w_indexArr, w_indexSl, w_indexVal, w_indexStr, w_lenStr, w_lenSl, w_store, w_alloc, w_box, w_build, w_sliceArr, w_bytesToStr, w_pick, WOps_nil, thenQ_normal, eX_t, eX_c, put_s, put_n, getset, Nat.reduceEqDiff, if_false, if_true, Option.getD_some, rd, natOf_nn, natOf_by, Option.some.injEq, exists_eq_left', Prod.mk.injEq, and_assoc, exists_and_left, true_and, Nat.zero_add, Nat.add_zero, Nat.mul_one, ble_t, mul_nn, quo_nn, rem_nn, add_nn, sub_nn, lss_nn, eql_nn, neq_nn, xor_by, k0, k1, k2, k3, k4, k5, k6, k7, k8, k12, k13, k14, k15, k16, k32, k60, k254, k256]
      refine rk_l6 (C := (wordsP K m).1) (X := Y) (i := m + 8) (c := c) (t := n1) (e := 46) (e' := 45) (by simp only [eX_t, eX_c, put_s, put_n, getset, Nat.reduceEqDiff, if_false, if_true, Option.getD_some]; exact q5) (by simp only [eX_t, eX_c, put_s, put_n, getset, Nat.reduceEqDiff, if_false, if_true, Option.getD_some]; exact q9) (by simp only [eX_t, eX_c, put_s, put_n, getset, Nat.reduceEqDiff, if_false, if_true, Option.getD_some]; exact q10) (by simp only [eX_t, eX_c, put_s, put_n, getset, Nat.reduceEqDiff, if_false, if_true, Option.getD_some]) (by omega) (by omega) (length_wordsP K m) hY4 (by omega) (by rw [hb4, if_neg (by omega), hfr _ (by omega)]; exact hc1) (by rw [hb4, if_pos rfl]) ?_
      intro a5 H5 r3 r4 r5 r8 r9 hn5 hb5
      simp only [getset, Nat.reduceEqDiff, if_false] at r3 r4 r5 r8 r9
      rw [q3] at r3
      rw [q5] at r5
      rw [q8] at r8
      rw [q9] at r9
      rw [blockQ_normal, thenQ_normal]
      refine W.region ?_
      simp (disch := omega) only [w_mov, w_ibin, w_load1, w_loadN, w_nilCheck, w_indexArr, w_indexSl, w_indexVal, w_indexStr, w_lenStr, w_lenSl, w_store, w_alloc, w_box, w_build, w_sliceArr, w_bytesToStr, w_pick, WOps_nil, thenQ_normal, eX_t, eX_c, put_s, put_n, getset, Nat.reduceEqDiff, if_false, if_true, Option.getD_some, rd, natOf_nn, natOf_by, Option.some.injEq, exists_eq_left', Prod.mk.injEq, and_assoc, exists_and_left, true_and, Nat.zero_add, Nat.add_zero, Nat.mul_one, ble_t, mul_nn, quo_nn, rem_nn, add_nn, sub_nn, lss_nn, eql_nn, neq_nn, xor_by, k0, k1, k2, k3, k4, k5, k6, k7, k8, k12, k13, k14, k15, k16, k32, k60, k254, k256, r9]
      refine ⟨by omega, ?_, by rw [r3, h3], r4.trans q4, by rw [r5, h5], by rw [r8, hw], ?_⟩
      rotate_left
      · first | trivial | (rw [Nat.add_right_comm])
      intro j hj
      rw [hb5]
      by_cases h : c = j
      · rw [if_pos h, if_pos h, hw]
      · rw [if_neg h, if_neg h, hb4, if_neg (by omega), hfr _ (by omega), hb j hj, if_neg h]
    refine W.seq (W.seq (W.region ?_))
    simp (disch := omega) only [w_mov, w_ibin, w_load1, w_loadN, w_nilCheck, w_indexArr, w_indexSl, w_indexVal, w_indexStr, w_lenStr, w_lenSl, w_store, w_alloc, w_box, w_build, w_sliceArr, w_bytesToStr, w_pick, WOps_nil, thenQ_normal, eX_t, eX_c, put_s, put_n, getset, Nat.reduceEqDiff, if_false, if_true, Option.getD_some, rd, natOf_nn, natOf_by, Option.some.injEq, exists_eq_left', Prod.mk.injEq, and_assoc, exists_and_left, true_and, Nat.zero_add, Nat.add_zero, Nat.mul_one, ble_t, mul_nn, quo_nn, rem_nn, add_nn, sub_nn, lss_nn, eql_nn, neq_nn, xor_by, k0, k1, k2, k3, k4, k5, k6, k7, k8, k12, k13, k14, k15, k16, k32, k60, k254, k256, g9]
    refine W.cond (b := decide ((m + 8) % 8 = 0)) (by simp only [eX_t, eX_c, put_s, put_n, getset, Nat.reduceEqDiff, if_false, if_true, Option.getD_some]) ?_
    by_cases h0 : (m + 8) % 8 = 0
    · simp only [h0, decide_true, cond_true]
      refine W.seq (rk_d1 (x0 := x0) (x1 := x1) (x2 := x2) (x3 := x3) (p := (wordsP K m).2) (bx := bx) (t := n1) (e := 42) (e' := 45) (by simp only [eX_t, eX_c, put_s, put_n, getset, Nat.reduceEqDiff, if_false, if_true, Option.getD_some]; exact g3) (by simp only [eX_t, eX_c, put_s, put_n, getset, Nat.reduceEqDiff, if_false, if_true, Option.getD_some]; exact g8) (by simp only [eX_t, eX_c, put_s, put_n, getset, Nat.reduceEqDiff, if_false, if_true, Option.getD_some]) (by rw [hfr _ (by omega)]; exact hb1) ht3 ?_)
      intro a' f3 f4 f5 f8 f9 f10
      simp only [getset, Nat.reduceEqDiff, if_false, if_true] at f3 f4 f5 f8 f9 f10
      rw [thenQ_normal]
      rw [g8] at f8
      refine W.region ?_
      simp only [w_mov, eX_t, eX_c, put_s, put_n, getset, Nat.reduceEqDiff, if_false, if_true, Option.getD_some, f8, b2]
      refine WOps.call (g := 28) (first := []) (captured := []) (by simp only [eX_t, eX_c, put_s, put_n, getset, Nat.reduceEqDiff, if_false, if_true, Option.getD_some]) ?_
      simp only [List.map_cons, List.map_nil, List.nil_append, List.append_nil, eX_t, eX_c, put_s, put_n, getset, Nat.reduceEqDiff, if_false, if_true, Option.getD_some]
      refine product_ok hE hx ?_
      simp only [w_mov, eX_t, eX_c, put_s, put_n, getset, Nat.reduceEqDiff, if_false, if_true, Option.getD_some, WOps_nil, prod2]
      refine rest _ _ [B x1 ^^^ (wordsP K m).2, B x2, B x3, B x0] (tw (wordsP K m).2) (by simp only [eX_t, eX_c, put_s, put_n, getset, Nat.reduceEqDiff, if_false, if_true, Option.getD_some]; exact f3.trans g3) (by simp only [eX_t, eX_c, put_s, put_n, getset, Nat.reduceEqDiff, if_false, if_true, Option.getD_some]; exact f4.trans g4) (by simp only [eX_t, eX_c, put_s, put_n, getset, Nat.reduceEqDiff, if_false, if_true, Option.getD_some]; exact f5.trans g5) (by simp only [eX_t, eX_c, put_s, put_n, getset, Nat.reduceEqDiff, if_false, if_true, Option.getD_some]) (by simp only [eX_t, eX_c, put_s, put_n, getset, Nat.reduceEqDiff, if_false, if_true, Option.getD_some]; exact f9.trans g9) (by simp only [eX_t, eX_c, put_s, put_n, getset, Nat.reduceEqDiff, if_false, if_true, Option.getD_some]; exact f10) (by show n2 ≤ n2 + 20; omega) rfl (fun j => by simp only [getset]) (words0 hXX h0)
    · simp only [h0, decide_false, cond_false]
      refine W.seq (W.region ?_)
      simp (disch := omega) only [w_mov, w_ibin, w_load1, w_loadN, w_nilCheck, w_indexArr, w_indexSl, w_indexVal, w_indexStr, w_lenStr, w_lenSl, w_store, w_alloc, w_box, w_build, w_sliceArr, w_bytesToStr, w_pick, WOps_nil, thenQ_normal, eX_t, eX_c, put_s, put_n, getset, Nat.reduceEqDiff, if_false, if_true, Option.getD_some, rd, natOf_nn, natOf_by, Option.some.injEq, exists_eq_left', Prod.mk.injEq, and_assoc, exists_and_left, true_and, Nat.zero_add, Nat.add_zero, Nat.mul_one, ble_t, mul_nn, quo_nn, rem_nn, add_nn, sub_nn, lss_nn, eql_nn, neq_nn, xor_by, k0, k1, k2, k3, k4, k5, k6, k7, k8, k12, k13, k14, k15, k16, k32, k60, k254, k256, g9]
      refine W.cond (b := decide ((m + 8) % 8 = 4)) (by simp only [eX_t, eX_c, put_s, put_n, getset, Nat.reduceEqDiff, if_false, if_true, Option.getD_some]) ?_
      by_cases h4 : (m + 8) % 8 = 4
      · simp only [h4, decide_true, cond_true]
        refine rk_d2 (x0 := x0) (x1 := x1) (x2 := x2) (x3 := x3) (bx := bx) (t := n1) (e := 42) (e' := 45) (by simp only [eX_t, eX_c, put_s, put_n, getset, Nat.reduceEqDiff, if_false, if_true, Option.getD_some]; exact g3) (by simp only [eX_t, eX_c, put_s, put_n, getset, Nat.reduceEqDiff, if_false, if_true, Option.getD_some]) (by rw [hfr _ (by omega)]; exact hb1) ht3 ?_
        intro a' f3 f4 f5 f8 f9 f10
        simp only [getset, Nat.reduceEqDiff, if_false, if_true] at f3 f4 f5 f8 f9 f10
        exact rest _ _ [B x0, B x1, B x2, B x3] (wordsP K m).2 (f3.trans g3) (f4.trans g4) (f5.trans g5) (f8.trans g8) (f9.trans g9) f10 (by show n2 ≤ n2 + 18; omega) rfl (fun j => by simp only [getset]) (words4 hXX h0 h4)
      · simp only [h4, decide_false, cond_false]
        refine W.skip ?_
        refine rest _ _ [x0, x1, x2, x3] (wordsP K m).2 (by simp only [eX_t, eX_c, put_s, put_n, getset, Nat.reduceEqDiff, if_false, if_true, Option.getD_some]; exact g3) (by simp only [eX_t, eX_c, put_s, put_n, getset, Nat.reduceEqDiff, if_false, if_true, Option.getD_some]; exact g4) (by simp only [eX_t, eX_c, put_s, put_n, getset, Nat.reduceEqDiff, if_false, if_true, Option.getD_some]; exact g5) (by simp only [eX_t, eX_c, put_s, put_n, getset, Nat.reduceEqDiff, if_false, if_true, Option.getD_some]; exact g8) (by simp only [eX_t, eX_c, put_s, put_n, getset, Nat.reduceEqDiff, if_false, if_true, Option.getD_some]; exact g9) (by simp only [eX_t, eX_c, put_s, put_n, getset, Nat.reduceEqDiff, if_false, if_true, Option.getD_some]) (Nat.le_refl _) rfl (fun j => ?_) (wordsN hXX h0 h4)
        by_cases h : n1 = j
        · subst h; rw [if_pos rfl]; exact ht3
        · rw [if_neg h]
  · intro a1 H1 ⟨hn, hb, g3, g4, g5, g8, g9⟩
    refine W.seq (W.seq (W.region ?_))
    simp only [w_mov, w_ibin, w_load1, w_loadN, w_nilCheck, w_indexArr, w_indexSl, w_indexVal, w_indexStr, w_lenStr, w_lenSl, w_store, w_alloc, w_box, w_build, w_sliceArr, w_bytesToStr, w_pick, WOps_nil, thenQ_normal, eX_t, eX_c, put_s, put_n, getset, Nat.reduceEqDiff, if_false, if_true, Option.getD_some, rd, natOf_nn, natOf_by, Option.some.injEq, exists_eq_left', Prod.mk.injEq, and_assoc, exists_and_left, true_and, Nat.zero_add, Nat.add_zero, Nat.mul_one, ble_t, mul_nn, quo_nn, rem_nn, add_nn, sub_nn, lss_nn, eql_nn, neq_nn, xor_by, k0, k1, k2, k3, k4, k5, k6, k7, k8, k12, k13, k14, k15, k16, k32, k60, k254, k256, g9]
    refine W.cond (b := false) (by simp only [eX_t, eX_c, put_s, put_n, getset, Nat.reduceEqDiff, if_false, if_true, Option.getD_some]; simp) (W.exit ?_)
    rw [thenQ_exit]
    refine ⟨nofun, ?_⟩
    simp only [blockQ_exit, Nat.beq_refl, cond_true]
    refine hQ _ _ ?_ ?_ hn hb <;> simp only [getset, Nat.reduceEqDiff, if_false] <;> assumption
  · rw [wordsP0]
    dsimp only
    refine ⟨Nat.le_refl _, ?_, rfl, rfl, rfl, h8, h9⟩
    intro j hj
    by_cases h : c = j
    · subst h; rw [if_pos rfl]; exact hc
    · rw [if_neg h]
end Go.AE
end
-- Contracts of the reference of aes: keys; the loops of encipher.
section
set_option linter.unusedVariables false
set_option linter.unusedSimpArgs false
set_option maxRecDepth 100000
set_option maxHeartbeats 1000000
namespace Go.AE
variable {E : Env}
attribute [local irreducible] boxK lastK wordsP prod B keysP

theorem setK0 (K : List UInt8) : setK K 0 = List.replicate 240 0 := by rw [setK]

theorem rkeys_ok (hE : ∀ f, E.funcs f = Aes.funcsT.get f) (hx : ∀ f args H, special f = false → E.sums f args H = none) {H : Heap} {K : List UInt8} (hK : K.length = 32) {Q : AV → Heap → Prop}
    (hQ : ∀ H', H.next ≤ H'.next → (∀ j, j < H.next → H'.t.get j = H.t.get j) → Q (.agg (bs (keysP K))) H') : WCall E 21 [.str K, .agg (bs boxL)] H Q := by
  refine WCall.func (hx 21 _ _ (by decide)) ((hE 21).trans rfl) ?_
  have f0 : (frameOf [.str K, .agg (bs boxL)] 0 .nil).get 0 = some (.str K) := rfl
  have f1 : (frameOf [.str K, .agg (bs boxL)] 0 .nil).get 1 = some (.agg (bs boxL)) := rfl
  generalize frameOf [.str K, .agg (bs boxL)] 0 .nil = a at f0 f1
  have e : ∀ (H : Heap) l, bs (List.replicate 240 0) = l → H.push (.cells l 46 false false) = H.push (.cells (bs (List.replicate 240 0)) 46 false false) := fun H l h => by rw [h]
  refine W.seq (W.region ?_)
  rw [w_box, w_alloc, put_s, put_s, WOps_nil, thenQ_normal, e _ _ (by kernel_rfl)]
  simp only [eX_t, eX_c, put_s, put_n, getset, Nat.reduceEqDiff, if_false, if_true, Option.getD_some, f1, cells_agg]
  have hp := get_push H (.cells (bs boxL) 42 false false)
  have hpn := next_push H (.cells (bs boxL) 42 false false)
  generalize H.push (.cells (bs boxL) 42 false false) = H1 at hp hpn ⊢
  have hp2 := get_push H1 (.cells (bs (List.replicate 240 0)) 46 false false)
  have hpn2 := next_push H1 (.cells (bs (List.replicate 240 0)) 46 false false)
  generalize H1.push (.cells (bs (List.replicate 240 0)) 46 false false) = H2 at hp2 hpn2 ⊢
  refine W.seq (W.region ?_)
  rw [w_alloc, put_s, WOps_nil, thenQ_normal, e _ _ (by kernel_rfl)]
  have hp3 := get_push H2 (.cells (bs (List.replicate 240 0)) 46 false false)
  have hpn3 := next_push H2 (.cells (bs (List.replicate 240 0)) 46 false false)
  generalize H2.push (.cells (bs (List.replicate 240 0)) 46 false false) = H3 at hp3 hpn3 ⊢
  refine W.seq (W.seq (W.region ?_))
  simp only [w_mov, w_ibin, w_load1, w_loadN, w_nilCheck, w_indexArr, w_indexSl, w_indexVal, w_indexStr, w_lenStr, w_lenSl, w_store, w_alloc, w_box, w_build, w_sliceArr, w_bytesToStr, w_pick, WOps_nil, thenQ_normal, eX_t, eX_c, put_s, put_n, getset, Nat.reduceEqDiff, if_false, if_true, Option.getD_some, rd, natOf_nn, natOf_by, Option.some.injEq, exists_eq_left', Prod.mk.injEq, and_assoc, exists_and_left, true_and, Nat.zero_add, Nat.add_zero, Nat.mul_one, ble_t, mul_nn, quo_nn, rem_nn, add_nn, sub_nn, lss_nn, eql_nn, neq_nn, xor_by, k0, k1, k2, k3, k4, k5, k6, k7, k8, k12, k13, k14, k15, k16, k32, k60, k254, k256]
  refine rk_l0 (K := K) (c := H2.next) (e := 46) (by simp only [eX_t, eX_c, put_s, put_n, getset, Nat.reduceEqDiff, if_false, if_true, Option.getD_some]; exact f0) (by simp only [eX_t, eX_c, put_s, put_n, getset, Nat.reduceEqDiff, if_false, if_true, Option.getD_some]) (by simp only [eX_t, eX_c, put_s, put_n, getset, Nat.reduceEqDiff, if_false, if_true, Option.getD_some]) hK (by rw [hp3, if_pos rfl, setK0]) ?_
  intro a4 H4 g0 g3 g4 g5 hn4 hb4
  simp only [getset, Nat.reduceEqDiff, if_false, if_true] at g0 g3 g4 g5
  rw [thenQ_normal]
  refine W.seq (W.region ?_)
  simp only [w_mov, w_ibin, w_load1, w_loadN, w_nilCheck, w_indexArr, w_indexSl, w_indexVal, w_indexStr, w_lenStr, w_lenSl, w_store, w_alloc, w_box, w_build, w_sliceArr, w_bytesToStr, w_pick, WOps_nil, thenQ_normal, eX_t, eX_c, put_s, put_n, getset, Nat.reduceEqDiff, if_false, if_true, Option.getD_some, rd, natOf_nn, natOf_by, Option.some.injEq, exists_eq_left', Prod.mk.injEq, and_assoc, exists_and_left, true_and, Nat.zero_add, Nat.add_zero, Nat.mul_one, ble_t, mul_nn, quo_nn, rem_nn, add_nn, sub_nn, lss_nn, eql_nn, neq_nn, xor_by, k0, k1, k2, k3, k4, k5, k6, k7, k8, k12, k13, k14, k15, k16, k32, k60, k254, k256, b1]
  refine W.seq (W.seq (W.region ?_))
  simp only [w_mov, w_ibin, w_load1, w_loadN, w_nilCheck, w_indexArr, w_indexSl, w_indexVal, w_indexStr, w_lenStr, w_lenSl, w_store, w_alloc, w_box, w_build, w_sliceArr, w_bytesToStr, w_pick, WOps_nil, thenQ_normal, eX_t, eX_c, put_s, put_n, getset, Nat.reduceEqDiff, if_false, if_true, Option.getD_some, rd, natOf_nn, natOf_by, Option.some.injEq, exists_eq_left', Prod.mk.injEq, and_assoc, exists_and_left, true_and, Nat.zero_add, Nat.add_zero, Nat.mul_one, ble_t, mul_nn, quo_nn, rem_nn, add_nn, sub_nn, lss_nn, eql_nn, neq_nn, xor_by, k0, k1, k2, k3, k4, k5, k6, k7, k8, k12, k13, k14, k15, k16, k32, k60, k254, k256]
  refine rk_main hE hx (K := K) (c := H2.next) (bx := H.next) (by simp only [eX_t, eX_c, put_s, put_n, getset, Nat.reduceEqDiff, if_false, if_true, Option.getD_some]; exact g3) (by simp only [eX_t, eX_c, put_s, put_n, getset, Nat.reduceEqDiff, if_false, if_true, Option.getD_some]; exact g5) (by simp only [eX_t, eX_c, put_s, put_n, getset, Nat.reduceEqDiff, if_false, if_true, Option.getD_some]) (by simp only [eX_t, eX_c, put_s, put_n, getset, Nat.reduceEqDiff, if_false, if_true, Option.getD_some]) (by omega) (by omega) (by omega) (by rw [hb4, if_pos rfl]) (by rw [hb4, if_neg (by omega), hp3, if_neg (by omega), hp2, if_neg (by omega), hp, if_pos rfl]) ?_
  intro a5 H5 q4 q5 hn5 hb5
  simp only [getset, Nat.reduceEqDiff, if_false, if_true] at q4 q5
  rw [g4] at q4
  rw [g5] at q5
  rw [thenQ_normal]
  obtain ⟨T5, n5⟩ := H5
  simp only at hn5 hb5
  have hk : keysP K = (wordsP K 52).1 := by rw [keysP]
  have h5 : T5.get H2.next = some (.cells (bs (keysP K)) 46 false false) := by rw [hb5 _ (by omega), if_pos rfl, hk]
  have h4 : T5.get H1.next = some (.cells (bs (List.replicate 240 0)) 46 false false) := by rw [hb5 _ (by omega), if_neg (by omega), hb4, if_neg (by omega), hp3, if_neg (by omega), hp2, if_pos rfl]
  refine W.seq (W.region ?_)
  simp only [w_loadN, rd, eX_t, eX_c, put_s, put_n, getset, Nat.reduceEqDiff, if_false, if_true, Option.getD_some, q4, q5, loadN_bs h5 (length_keysP K), Option.some.injEq, exists_eq_left', w_store, wst_agg h4 List.length_replicate (length_keysP K), Prod.mk.injEq, and_assoc, exists_and_left, WOps_nil, thenQ_normal]
  have hr : (T5.set H1.next (.cells (bs (keysP K)) 46 false false)).get H1.next = some (.cells (bs (keysP K)) 46 false false) := by rw [getset, if_pos rfl]
  refine W.ret ⟨.inr rfl, ?_⟩
  simp only [resultsOf, resOf, eX_t, eX_c, put_s, put_n, getset, Nat.reduceEqDiff, if_false, if_true, Option.getD_some, q4, loadN_bs hr (length_keysP K), Option.some.injEq, exists_eq_left', oneOf]
  refine hQ _ (by show H.next ≤ n5; omega) fun j hj => ?_
  rw [getset, if_neg (by omega), hb5 _ (by omega), if_neg (by omega), hb4, if_neg (by omega), hp3, if_neg (by omega), hp2, if_neg (by omega), hp, if_neg (by omega)]

def reDraw0 : ADraw := (ADraw.mk [(AOper.mk (some 20) (.mov (.tmp 7)) none), (AOper.mk (some 21) (.mov (.tmp 7)) none), (AOper.mk (some 22) (.indexArr 16 1 (.tmp 5) (.tmp 21)) none), (AOper.mk (some 23) (.load1 (.tmp 22)) none), (AOper.mk (some 24) (.mov (.tmp 7)) none), (AOper.mk (some 25) (.ibin .quo (.tmp 24) (.const (.int .i64 4))) none), (AOper.mk (some 26) (.mov (.tmp 7)) none), (AOper.mk (some 27) (.ibin .rem (.tmp 26) (.const (.int .i64 4))) none), (AOper.mk (some 28) (.indexArr 60 4 (.tmp 3) (.tmp 25)) none), (AOper.mk (some 29) (.indexArr 4 1 (.tmp 28) (.tmp 27)) none), (AOper.mk (some 30) (.load1 (.tmp 29)) none), (AOper.mk (some 31) (.ibin .xor (.tmp 23) (.tmp 30)) none), (AOper.mk (some 32) (.indexArr 16 1 (.tmp 5) (.tmp 20)) none), (AOper.mk none (.store 1 (.tmp 32) (.tmp 31)) none)] [0, 1, 2, 3, 4, 5, 6, 7, 8, 9, 10, 11, 12, 13] [0, 0, 2, 6, 0, 16, 0, 64, 48, 496, 1008, 2046, 4095, 8191] [(0, 0), (0, 0), (0, 0), (0, 0), (0, 0), (0, 0), (0, 0), (0, 0), (0, 0), (0, 0), (0, 0), (0, 0), (0, 0), (0, 1)] false)
def reDraw1 : ADraw := (ADraw.mk [(AOper.mk (some 67) (.mov (.tmp 12)) none), (AOper.mk (some 68) (.ibin .mul (.const (.int .i64 4)) (.tmp 67)) none), (AOper.mk (some 69) (.indexArr 16 1 (.tmp 9) (.tmp 68)) none), (AOper.mk (some 70) (.load1 (.tmp 69)) none), (AOper.mk (some 71) (.mov (.tmp 12)) none), (AOper.mk (some 72) (.ibin .mul (.const (.int .i64 4)) (.tmp 71)) none), (AOper.mk (some 73) (.ibin .add (.tmp 72) (.const (.int .i64 1))) none), (AOper.mk (some 74) (.indexArr 16 1 (.tmp 9) (.tmp 73)) none), (AOper.mk (some 75) (.load1 (.tmp 74)) none), (AOper.mk (some 76) (.mov (.tmp 12)) none), (AOper.mk (some 77) (.ibin .mul (.const (.int .i64 4)) (.tmp 76)) none), (AOper.mk (some 78) (.ibin .add (.tmp 77) (.const (.int .i64 2))) none), (AOper.mk (some 79) (.indexArr 16 1 (.tmp 9) (.tmp 78)) none), (AOper.mk (some 80) (.load1 (.tmp 79)) none), (AOper.mk (some 81) (.mov (.tmp 12)) none), (AOper.mk (some 82) (.ibin .mul (.const (.int .i64 4)) (.tmp 81)) none), (AOper.mk (some 83) (.ibin .add (.tmp 82) (.const (.int .i64 3))) none), (AOper.mk (some 84) (.indexArr 16 1 (.tmp 9) (.tmp 83)) none), (AOper.mk (some 85) (.load1 (.tmp 84)) none), (AOper.mk (some 86) (.build [(.int .u8 0), (.int .u8 0), (.int .u8 0), (.int .u8 0)] [(0, (1, (.tmp 70))), (1, (1, (.tmp 75))), (2, (1, (.tmp 80))), (3, (1, (.tmp 85)))]) none), (AOper.mk (some 13) (.alloc 45 [(.int .u8 0), (.int .u8 0), (.int .u8 0), (.int .u8 0)]) none), (AOper.mk none (.store 4 (.tmp 13) (.tmp 86)) none)] [0, 1, 2, 3, 4, 5, 6, 7, 8, 9, 10, 11, 12, 13, 14, 15, 16, 17, 18, 19, 20, 21] [0, 1, 3, 7, 0, 16, 48, 112, 240, 0, 512, 1536, 3584, 7680, 0, 16384, 49152, 114688, 245760, 524287, 0, 2097151] [(0, 0), (0, 0), (0, 0), (0, 0), (0, 0), (0, 0), (0, 0), (0, 0), (0, 0), (0, 0), (0, 0), (0, 0), (0, 0), (0, 0), (0, 0), (0, 0), (0, 0), (0, 0), (0, 0), (0, 0), (0, 0), (0, 1)] false)
def reDraw2 : ADraw := (ADraw.mk [(AOper.mk (some 91) (.mov (.tmp 12)) none), (AOper.mk (some 92) (.ibin .mul (.const (.int .i64 4)) (.tmp 91)) none), (AOper.mk (some 93) (.mov (.tmp 14)) none), (AOper.mk (some 94) (.ibin .add (.tmp 92) (.tmp 93)) none), (AOper.mk (some 95) (.mov (.tmp 14)) none), (AOper.mk (some 96) (.indexArr 4 1 (.tmp 13) (.tmp 95)) none), (AOper.mk (some 97) (.load1 (.tmp 96)) none), (AOper.mk (some 98) (.call (.const (.func (.func 28) [] [])) [(.tmp 97), (.const (.int .u8 2))]) none), (AOper.mk (some 99) (.mov (.tmp 14)) none), (AOper.mk (some 100) (.ibin .add (.tmp 99) (.const (.int .i64 1))) none), (AOper.mk (some 101) (.ibin .rem (.tmp 100) (.const (.int .i64 4))) none), (AOper.mk (some 102) (.indexArr 4 1 (.tmp 13) (.tmp 101)) none), (AOper.mk (some 103) (.load1 (.tmp 102)) none), (AOper.mk (some 104) (.call (.const (.func (.func 28) [] [])) [(.tmp 103), (.const (.int .u8 3))]) none), (AOper.mk (some 105) (.ibin .xor (.tmp 98) (.tmp 104)) none), (AOper.mk (some 106) (.mov (.tmp 14)) none), (AOper.mk (some 107) (.ibin .add (.tmp 106) (.const (.int .i64 2))) none), (AOper.mk (some 108) (.ibin .rem (.tmp 107) (.const (.int .i64 4))) none), (AOper.mk (some 109) (.indexArr 4 1 (.tmp 13) (.tmp 108)) none), (AOper.mk (some 110) (.load1 (.tmp 109)) none), (AOper.mk (some 111) (.ibin .xor (.tmp 105) (.tmp 110)) none), (AOper.mk (some 112) (.mov (.tmp 14)) none), (AOper.mk (some 113) (.ibin .add (.tmp 112) (.const (.int .i64 3))) none), (AOper.mk (some 114) (.ibin .rem (.tmp 113) (.const (.int .i64 4))) none), (AOper.mk (some 115) (.indexArr 4 1 (.tmp 13) (.tmp 114)) none), (AOper.mk (some 116) (.load1 (.tmp 115)) none), (AOper.mk (some 117) (.ibin .xor (.tmp 111) (.tmp 116)) none), (AOper.mk (some 118) (.indexArr 16 1 (.tmp 9) (.tmp 94)) none), (AOper.mk none (.store 1 (.tmp 118) (.tmp 117)) none)] [0, 1, 2, 3, 4, 5, 6, 8, 9, 10, 11, 12, 15, 16, 17, 18, 19, 21, 22, 23, 24, 25, 7, 13, 14, 20, 26, 27, 28] [0, 1, 0, 7, 0, 16, 48, 112, 0, 256, 768, 1792, 3840, 8176, 16368, 0, 32768, 98304, 229376, 491520, 1048560, 0, 2097152, 6291456, 14680064, 31457280, 67108848, 134217727, 268435455] [(0, 2), (0, 2), (0, 2), (0, 2), (0, 0), (0, 0), (0, 0), (0, 1), (0, 1), (0, 1), (0, 1), (0, 1), (0, 1), (1, 2), (2, 2), (0, 2), (0, 2), (0, 2), (0, 2), (0, 2), (2, 2), (0, 2), (0, 2), (0, 2), (0, 2), (0, 2), (2, 2), (2, 2), (2, 3)] false)
def reDraw3 : ADraw := (ADraw.mk [(AOper.mk (some 123) (.mov (.tmp 15)) none), (AOper.mk (some 124) (.mov (.tmp 15)) none), (AOper.mk (some 125) (.indexArr 16 1 (.tmp 9) (.tmp 124)) none), (AOper.mk (some 126) (.load1 (.tmp 125)) none), (AOper.mk (some 127) (.mov (.tmp 8)) none), (AOper.mk (some 128) (.ibin .mul (.const (.int .i64 4)) (.tmp 127)) none), (AOper.mk (some 129) (.mov (.tmp 15)) none), (AOper.mk (some 130) (.ibin .quo (.tmp 129) (.const (.int .i64 4))) none), (AOper.mk (some 131) (.ibin .add (.tmp 128) (.tmp 130)) none), (AOper.mk (some 132) (.mov (.tmp 15)) none), (AOper.mk (some 133) (.ibin .rem (.tmp 132) (.const (.int .i64 4))) none), (AOper.mk (some 134) (.indexArr 60 4 (.tmp 3) (.tmp 131)) none), (AOper.mk (some 135) (.indexArr 4 1 (.tmp 134) (.tmp 133)) none), (AOper.mk (some 136) (.load1 (.tmp 135)) none), (AOper.mk (some 137) (.ibin .xor (.tmp 126) (.tmp 136)) none), (AOper.mk (some 138) (.indexArr 16 1 (.tmp 5) (.tmp 123)) none), (AOper.mk none (.store 1 (.tmp 138) (.tmp 137)) none)] [0, 1, 2, 3, 4, 5, 6, 7, 8, 9, 10, 11, 12, 13, 14, 15, 16] [0, 0, 2, 6, 0, 16, 0, 64, 240, 0, 512, 496, 4080, 8176, 16382, 32767, 65535] [(0, 0), (0, 0), (0, 0), (0, 0), (0, 0), (0, 0), (0, 0), (0, 0), (0, 0), (0, 0), (0, 0), (0, 0), (0, 0), (0, 0), (0, 0), (0, 0), (0, 1)] false)

/-- the first round's key -/
theorem re_d0 {a : Frm} {H : Heap} {s c i : Nat} {S C : List UInt8} {e e' : TypeId} (h3 : a.get 3 = some (.ptr (some (c, 0)))) (h5 : a.get 5 = some (.ptr (some (s, 0)))) (h7 : a.get 7 = some (nn i)) (hi : i < 16) (hS : S.length = 16) (hC : C.length = 240)
    (hs : H.t.get s = some (.cells (bs S) e false false)) (hc : H.t.get c = some (.cells (bs C) e' false false)) {Q : AExit → Frm → Heap → Prop}
    (hQ : ∀ a', a'.get 3 = a.get 3 → a'.get 4 = a.get 4 → a'.get 5 = a.get 5 → a'.get 6 = a.get 6 → a'.get 7 = a.get 7 → Q .normal a' ⟨H.t.set s (.cells (bs (S.set i (S.getD i 0 ^^^ C.getD (16 * 0 + i) 0))) e false false), H.next + 14⟩) : W E (.draw reDraw0) a H Q := by
  refine W_draw (l := _) rfl (N := 14) rfl ?_
  have e1 := getbs (S := S) (i := i) (by omega)
  have e2 : (bs C)[i / 4 * 4 + i % 4]? = some (by' (C.getD (16 * 0 + i) 0)) := by
    have : i / 4 * 4 + i % 4 = 16 * 0 + i := by omega
    rw [this]
    exact getbs (by omega)
  simp (disch := omega) only [reDraw0, l_mov, l_ibin, l_load1, l_loadN, l_nilCheck, l_indexArr, l_indexSl, l_indexVal, l_indexStr, l_lenStr, l_lenSl, l_store, l_build, WL_nil, eX_t, eX_c, put_s, put_n, getset, Nat.reduceEqDiff, if_false, if_true, Option.getD_some, rd, natOf_nn, natOf_by, Option.some.injEq, exists_eq_left', Prod.mk.injEq, and_assoc, exists_and_left, true_and, Nat.zero_add, Nat.add_zero, Nat.mul_one, ble_t, mul_nn, quo_nn, rem_nn, add_nn, sub_nn, lss_nn, eql_nn, neq_nn, xor_by, k0, k1, k2, k3, k4, k5, k6, k7, k8, k12, k13, k14, k15, k16, k32, k60, k254, k256, h3, h5, h7, load_blk' hs, load_blk' hc, e1, e2]
  simp (disch := omega) only [wr0_store, l_mov, l_ibin, l_load1, l_loadN, l_nilCheck, l_indexArr, l_indexSl, l_indexVal, l_indexStr, l_lenStr, l_lenSl, l_store, l_build, WL_nil, eX_t, eX_c, put_s, put_n, getset, Nat.reduceEqDiff, if_false, if_true, Option.getD_some, rd, natOf_nn, natOf_by, Option.some.injEq, exists_eq_left', Prod.mk.injEq, and_assoc, exists_and_left, true_and, Nat.zero_add, Nat.add_zero, Nat.mul_one, ble_t, mul_nn, quo_nn, rem_nn, add_nn, sub_nn, lss_nn, eql_nn, neq_nn, xor_by, wst_by hs]
  refine ⟨?_, _, _, rfl, ?_⟩
  · simp only [stable_cons, stable_nil, sm_mov, sm_ibin, sm_nilCheck, sm_indexArr, sm_indexSl, sm_indexVal, sm_indexStr, sm_lenStr, sm_lenSl, sm_build, sm_store, sm_call, Bool.true_and, Bool.and_true, Bool.and_eq_true, List.reverse_cons, List.reverse_nil, List.nil_append, List.cons_append, List.drop_zero, List.drop_succ_cons, Nat.sub_zero, Nat.succ_eq_add_one, Nat.zero_add, Nat.reduceAdd, Nat.reduceSub, List.take_succ_cons, List.take_zero, List.take_nil]
    refine ⟨sm_load1 rfl (b := s) (o := i) (v := by' (S.getD i 0)) ?_ ?_ ?_ (AVbeq_by _), sm_load1 rfl (b := c) (o := i / 4 * 4 + i % 4) (v := by' (C.getD (16 * 0 + i) 0)) ?_ ?_ ?_ (AVbeq_by _)⟩
    all_goals first
      | simp only [eX_t, eX_c, put_s, put_n, getset, Nat.reduceEqDiff, if_false, if_true, Option.getD_some]; done
      | (intro H' hH'; simp only [List.mem_singleton] at hH'; subst hH'; simp only [load_blk' hs, load_blk' hc, e1, e2])
  · refine hQ _ ?_ ?_ ?_ ?_ ?_ <;> simp only [getset, Nat.reduceEqDiff, if_false]
end Go.AE
end
