/- Contracts of aes: twice, box, mix. -/
import Derived.Test.YtdpnbpocjdooeaaText
import Derived.Test.YtdpnbpocjdooeaaMachineD
set_option linter.unusedVariables false
set_option linter.unusedSimpArgs false
section
set_option linter.unusedVariables false
set_option linter.unusedSimpArgs false
namespace Go.AE
/-- a byte -/
def by' (b : UInt8) : AV := .int .u8 (.ofNat b.toNat)
/-- a number -/
def nn (n : Nat) : AV := .int .i64 (.ofNat n)

theorem fits_by (b : UInt8) : fits .u8 (.ofNat b.toNat) = true := by
  have := b.toNat_lt
  simp only [fits, lo, hi, Bool.and_eq_true]
  constructor
  · show Nat.ble 0 b.toNat = true
    rw [Nat.ble_eq]; omega
  · show Nat.ble b.toNat 255 = true
    rw [Nat.ble_eq]; omega

theorem xor_by (a b : UInt8) : ibin .xor (by' a) (by' b) = some (by' (a ^^^ b)) := by
  simp only [by', ibin, kindEq, ibits, fits_by, Bool.and_self, cond_true, natBits, UInt8.toNat_xor]
  rfl

theorem fits_nn {n : Nat} (h : n < 9223372036854775808) : fits .i64 (.ofNat n) = true := by
  simp only [fits, lo, hi, Bool.and_eq_true]
  constructor
  · show fits.Int.ble' (.negSucc _) (.ofNat n) = true
    rfl
  · show Nat.ble n 9223372036854775807 = true
    rw [Nat.ble_eq]; omega

theorem add_nn {a b : Nat} (h : a + b < 9223372036854775808) : ibin .add (nn a) (nn b) = some (nn (a + b)) := by
  have e : (Int.ofNat a + Int.ofNat b) = Int.ofNat (a + b) := rfl
  simp only [nn, ibin, kindEq, cond_true, wrapK, e, fits_nn h]
theorem mul_nn {a b : Nat} (h : a * b < 9223372036854775808) : ibin .mul (nn a) (nn b) = some (nn (a * b)) := by
  have e : (Int.ofNat a * Int.ofNat b) = Int.ofNat (a * b) := rfl
  simp only [nn, ibin, kindEq, cond_true, wrapK, e, fits_nn h]
theorem quo_nn {a b : Nat} (h : a < 9223372036854775808) (hb : b ≠ 0) : ibin .quo (nn a) (nn b) = some (nn (a / b)) := by
  have e : (Int.ofNat a).tdiv (Int.ofNat b) = Int.ofNat (a / b) := rfl
  have h2 : a / b < 9223372036854775808 := Nat.lt_of_le_of_lt (Nat.div_le_self _ _) h
  have z : ieq (Int.ofNat b) 0 = false := by cases b with | zero => exact absurd rfl hb | succ b => rfl
  simp only [nn, ibin, kindEq, cond_true, cond_false, wrapK, e, fits_nn h2, z]
theorem rem_nn {a b : Nat} (hb : b ≠ 0) : ibin .rem (nn a) (nn b) = some (nn (a % b)) := by
  have e : (Int.ofNat a).tmod (Int.ofNat b) = Int.ofNat (a % b) := rfl
  have z : ieq (Int.ofNat b) 0 = false := by cases b with | zero => exact absurd rfl hb | succ b => rfl
  simp only [nn, ibin, kindEq, cond_true, cond_false, wrapK, e, z]
theorem lss_nn (a b : Nat) : ibin .lss (nn a) (nn b) = some (.bool (decide (a < b))) := by
  simp only [nn, ibin, kindEq, cond_true, fits.Int.ble']
  congr 2
  cases h : Nat.ble b a with
  | true => rw [Nat.ble_eq] at h; simp; omega
  | false => have : ¬ b ≤ a := fun h' => by rw [← Nat.ble_eq, h] at h'; exact nomatch h'
             simp; omega
theorem natOf_nn (n : Nat) : natOf (nn n) = some n := rfl
variable {E : Env}
theorem c64 (n : Nat) : AV.int .i64 (@OfNat.ofNat Int n (@instOfNat n)) = nn (@OfNat.ofNat Nat n (instOfNatNat n)) := rfl
theorem k0 : AV.int .i64 0 = nn 0 := rfl
theorem k1 : AV.int .i64 1 = nn 1 := rfl
theorem k2 : AV.int .i64 2 = nn 2 := rfl
theorem k3 : AV.int .i64 3 = nn 3 := rfl
theorem k4 : AV.int .i64 4 = nn 4 := rfl
theorem k5 : AV.int .i64 5 = nn 5 := rfl
theorem k6 : AV.int .i64 6 = nn 6 := rfl
theorem k7 : AV.int .i64 7 = nn 7 := rfl
theorem k8 : AV.int .i64 8 = nn 8 := rfl
theorem k12 : AV.int .i64 12 = nn 12 := rfl
theorem k14 : AV.int .i64 14 = nn 14 := rfl
theorem k15 : AV.int .i64 15 = nn 15 := rfl
theorem k16 : AV.int .i64 16 = nn 16 := rfl
theorem k60 : AV.int .i64 60 = nn 60 := rfl
theorem k254 : AV.int .i64 254 = nn 254 := rfl
theorem k256 : AV.int .i64 256 = nn 256 := rfl
theorem getset {α : Type} (t : T α) (i j : Nat) (v : α) : (t.set i v).get j = if i = j then some v else t.get j := T.get_set t i j v
theorem eX_t (a : Frm) (t : Nat) : evalX a (.tmp t) = (a.get t).getD aundef := rfl
theorem eX_c (a : Frm) (v : AV) : evalX a (.const v) = v := rfl
theorem put_s (a : Frm) (d : Nat) (v : AV) : put a (some d) v = a.set d v := rfl
theorem put_n (a : Frm) (v : AV) : put a none v = a := rfl
theorem AVbeq_by (b : UInt8) : AV.beq (by' b) (by' b) = true := by simp [by', AV.beq, kindEq, ieq]

theorem w_mov {all os : List AOper} {dst : Option Nat} {x : AX} {a : Frm} {H : Heap} {Q : Frm → Heap → Prop} :
    WOps E all (⟨dst, .mov x, none⟩ :: os) a H Q ↔ WOps E all os (put a dst (evalX a x)) H Q := by
  rw [WOps_rd rfl]; simp only [rd, Option.some.injEq, exists_eq_left']
theorem w_ibin {all os : List AOper} {dst : Option Nat} {o : BinOp} {x y : AX} {a : Frm} {H : Heap} {Q : Frm → Heap → Prop} :
    WOps E all (⟨dst, .ibin o x y, none⟩ :: os) a H Q ↔ ∃ v, ibin o (evalX a x) (evalX a y) = some v ∧ WOps E all os (put a dst v) H Q := WOps_rd rfl
theorem w_load1 {all os : List AOper} {dst : Option Nat} {x : AX} {a : Frm} {H : Heap} {Q : Frm → Heap → Prop} :
    WOps E all (⟨dst, .load1 x, none⟩ :: os) a H Q ↔ ∃ v, rd (.load1 x) a H = some v ∧ WOps E all os (put a dst v) H Q := WOps_rd rfl

variable {ops : List AOper} {base i : Nat} {is : List (Nat × AOper)} {dst : Option Nat} {a : Frm} {H : Heap} {hs : List Heap} {Q : Frm → List Heap → Prop} {x y : AX}
theorem l_mov : WL E ops base ((i, ⟨dst, .mov x, none⟩) :: is) a H hs Q ↔ WL E ops base is (put a dst (evalX a x)) H hs Q := by
  rw [WL_rd rfl]; simp only [rd, Option.some.injEq, exists_eq_left']
theorem l_ibin {o : BinOp} : WL E ops base ((i, ⟨dst, .ibin o x y, none⟩) :: is) a H hs Q ↔ ∃ v, ibin o (evalX a x) (evalX a y) = some v ∧ WL E ops base is (put a dst v) H hs Q := WL_rd rfl
theorem l_load1 : WL E ops base ((i, ⟨dst, .load1 x, none⟩) :: is) a H hs Q ↔ ∃ v, rd (.load1 x) a H = some v ∧ WL E ops base is (put a dst v) H hs Q := WL_rd rfl
theorem l_nilCheck : WL E ops base ((i, ⟨dst, .nilCheck x, none⟩) :: is) a H hs Q ↔ ∃ v, rd (.nilCheck x) a H = some v ∧ WL E ops base is (put a dst v) H hs Q := WL_rd rfl
theorem l_indexArr {n s : Nat} : WL E ops base ((i, ⟨dst, .indexArr n s x y, none⟩) :: is) a H hs Q ↔ ∃ v, rd (.indexArr n s x y) a H = some v ∧ WL E ops base is (put a dst v) H hs Q := WL_rd rfl
theorem l_store {n : Nat} : WL E ops base ((i, ⟨dst, .store n x y, none⟩) :: is) a H hs Q ↔ ∃ v H', wr0 (.store n x y) a H = some (v, H') ∧ WL E ops base is (put a dst v) H' (H :: hs) Q := WL_wr rfl rfl

/-- the cells of bytes -/
def bs (l : List UInt8) : List AV := l.map by'

theorem cells_by (b : UInt8) : (by' b).cells = [by' b] := rfl
theorem atom_by (b : UInt8) : (by' b).atom = true := rfl
theorem length_bs (l : List UInt8) : (bs l).length = l.length := by simp [bs]
theorem get_bs (l : List UInt8) (i : Nat) : (bs l)[i]? = l[i]?.map by' := by simp [bs]

theorem lay_one (v : AV) : ∀ (cs : List AV) (o : Nat), o < cs.length → lay cs o [v] = some (cs.set o v)
  | [], o, h => by simp at h
  | c :: cs, 0, h => by cases cs <;> simp [lay]
  | c :: cs, o + 1, h => by simp [lay, lay_one v cs o (by simpa using h)]

theorem load_blk {H : Heap} {b o : Nat} {cs : List AV} {e : TypeId} {op ro : Bool} (h : H.t.get b = some (.cells cs e op ro)) : H.load b o = cs[o]? := by
  simp only [Heap.load, Heap.cellsAt, h]

/-- a store, its place and its value known -/
def wst (n : Nat) (p v : AV) (H : Heap) : Option (AV × Heap) := match p with
    | .ptr (some (b, o)) =>
      bif Nat.beq v.cells.length n then
        match H.store b o v.cells with
        | some H' => some (aundef, H')
        | none => none
      else none
    | _ => none
theorem wr0_store (n : Nat) (x y : AX) (a : Frm) (H : Heap) : wr0 (.store n x y) a H = wst n (evalX a x) (evalX a y) H := rfl
theorem set_bs (l : List UInt8) (i : Nat) (v : UInt8) : (bs l).set i (by' v) = bs (l.set i v) := by simp [bs, List.map_set]
theorem wst_by {T0 : T ABlk} {nx b o : Nat} {S : List UInt8} {e : TypeId} {op : Bool} (h : T0.get b = some (.cells (bs S) e op false)) (ho : o < S.length) (v : UInt8) :
    wst 1 (.ptr (some (b, o))) (by' v) ⟨T0, nx⟩ = some (aundef, ⟨T0.set b (.cells (bs (S.set o v)) e op false), nx⟩) := by
  simp only [wst, cells_by, Heap.store, h]
  rw [lay_one _ _ _ (by rw [length_bs]; exact ho)]
  simp only [set_bs]
  rfl

theorem stable_cons (d : ADraw) (a0 afin : Frm) (base : Nat) (hs : List Heap) (o : AOper) (os : List AOper) (l h : Nat) (ls : List (Nat × Nat)) (i : Nat) :
    stable d a0 afin base hs (o :: os) ((l, h) :: ls) i = (sameAt d a0 afin base i o ((hs.drop l).take (Nat.succ h - l)) && stable d a0 afin base hs os ls (Nat.succ i)) := rfl
theorem stable_nil (d : ADraw) (a0 afin : Frm) (base : Nat) (hs : List Heap) (ls : List (Nat × Nat)) (i : Nat) : stable d a0 afin base hs [] ls i = true := rfl
theorem same_rd {d : ADraw} {a0 afin : Frm} {base i : Nat} {o : AOper} {hs : List Heap} (hk : kindOf o.op = .rd) (hl : looks o.op = false) : sameAt d a0 afin base i o hs = true := by
  simp only [sameAt, hk, hl, cond_false]
theorem same_wr {d : ADraw} {a0 afin : Frm} {base i : Nat} {o : AOper} {hs : List Heap} (hk : kindOf o.op = .wr) : sameAt d a0 afin base i o hs = true := by
  simp only [sameAt, hk]
theorem sm_mov {d : ADraw} {a0 afin : Frm} {base i : Nat} {dst : Option Nat} {g : Option (Nat × Bool)} {hs : List Heap} {x : AX} : sameAt d a0 afin base i ⟨dst, .mov x, g⟩ hs = true := same_rd rfl rfl
theorem sm_ibin {d : ADraw} {a0 afin : Frm} {base i : Nat} {dst : Option Nat} {g : Option (Nat × Bool)} {hs : List Heap} {o : BinOp} {x y : AX} : sameAt d a0 afin base i ⟨dst, .ibin o x y, g⟩ hs = true := same_rd rfl rfl
theorem sm_nilCheck {d : ADraw} {a0 afin : Frm} {base i : Nat} {dst : Option Nat} {g : Option (Nat × Bool)} {hs : List Heap} {x : AX} : sameAt d a0 afin base i ⟨dst, .nilCheck x, g⟩ hs = true := same_rd rfl rfl
theorem sm_indexArr {d : ADraw} {a0 afin : Frm} {base i : Nat} {dst : Option Nat} {g : Option (Nat × Bool)} {hs : List Heap} {n s : Nat} {x y : AX} : sameAt d a0 afin base i ⟨dst, .indexArr n s x y, g⟩ hs = true := same_rd rfl rfl
theorem sm_store {d : ADraw} {a0 afin : Frm} {base i : Nat} {dst : Option Nat} {g : Option (Nat × Bool)} {hs : List Heap} {n : Nat} {x y : AX} : sameAt d a0 afin base i ⟨dst, .store n x y, g⟩ hs = true := same_wr rfl
theorem sm_call {d : ADraw} {a0 afin : Frm} {base i : Nat} {dst : Option Nat} {g : Option (Nat × Bool)} {hs : List Heap} {f : AX} {xs : List AX} : sameAt d a0 afin base i ⟨dst, .call f xs, g⟩ hs = true := same_wr rfl
/-- a load of one cell: the same at each of the heaps -/
theorem sm_load1 {d : ADraw} {a0 afin : Frm} {base i e : Nat} {hs : List Heap} {x : AX} (hw : d.war = false) {b o : Nat} (hx : evalX afin x = .ptr (some (b, o))) {v : AV} (hv : afin.get e = some v)
    (hl : ∀ H ∈ hs, H.load b o = some v) (hb : AV.beq v v = true) : sameAt d a0 afin base i ⟨some e, .load1 x, none⟩ hs = true := by
  simp only [sameAt, kindOf, looks, cond_true, frameFor, hw, cond_false, wantedA, List.all_eq_true]
  intro H hH
  simp only [rd, hx, hl H hH, hv, hb]
theorem nil_ptr {a : Frm} {H : Heap} {x : AX} {p : Nat × Nat} (h : evalX a x = .ptr (some p)) : rd (.nilCheck x) a H = some (.ptr (some p)) := by simp only [rd, h]
theorem idx_arr {a : Frm} {H : Heap} {n s : Nat} {x y : AX} {b o i : Nat} (h : evalX a x = .ptr (some (b, o))) (hy : evalX a y = nn i) (hi : i < n) : rd (.indexArr n s x y) a H = some (.ptr (some (b, o + i * s))) := by
  have : Nat.ble (Nat.succ i) n = true := by rw [Nat.ble_eq]; omega
  simp only [rd, h, hy, natOf_nn, this, cond_true]
theorem ld1 {a : Frm} {H : Heap} {x : AX} {b o : Nat} (h : evalX a x = .ptr (some (b, o))) : rd (.load1 x) a H = H.load b o := by simp only [rd, h]

theorem w_loadN {all os : List AOper} {dst : Option Nat} {n : Nat} {x : AX} {a : Frm} {H : Heap} {Q : Frm → Heap → Prop} :
    WOps E all (⟨dst, .loadN n x, none⟩ :: os) a H Q ↔ ∃ v, rd (.loadN n x) a H = some v ∧ WOps E all os (put a dst v) H Q := WOps_rd rfl
theorem w_nilCheck {all os : List AOper} {dst : Option Nat} {x : AX} {a : Frm} {H : Heap} {Q : Frm → Heap → Prop} :
    WOps E all (⟨dst, .nilCheck x, none⟩ :: os) a H Q ↔ ∃ v, rd (.nilCheck x) a H = some v ∧ WOps E all os (put a dst v) H Q := WOps_rd rfl
theorem w_indexArr {all os : List AOper} {dst : Option Nat} {n s : Nat} {x y : AX} {a : Frm} {H : Heap} {Q : Frm → Heap → Prop} :
    WOps E all (⟨dst, .indexArr n s x y, none⟩ :: os) a H Q ↔ ∃ v, rd (.indexArr n s x y) a H = some v ∧ WOps E all os (put a dst v) H Q := WOps_rd rfl
theorem w_indexSl {all os : List AOper} {dst : Option Nat} {s : Nat} {x y : AX} {a : Frm} {H : Heap} {Q : Frm → Heap → Prop} :
    WOps E all (⟨dst, .indexSl s x y, none⟩ :: os) a H Q ↔ ∃ v, rd (.indexSl s x y) a H = some v ∧ WOps E all os (put a dst v) H Q := WOps_rd rfl
theorem w_indexVal {all os : List AOper} {dst : Option Nat} {n s : Nat} {x y : AX} {a : Frm} {H : Heap} {Q : Frm → Heap → Prop} :
    WOps E all (⟨dst, .indexVal n s x y, none⟩ :: os) a H Q ↔ ∃ v, rd (.indexVal n s x y) a H = some v ∧ WOps E all os (put a dst v) H Q := WOps_rd rfl
theorem w_indexStr {all os : List AOper} {dst : Option Nat} {x y : AX} {a : Frm} {H : Heap} {Q : Frm → Heap → Prop} :
    WOps E all (⟨dst, .indexStr x y, none⟩ :: os) a H Q ↔ ∃ v, rd (.indexStr x y) a H = some v ∧ WOps E all os (put a dst v) H Q := WOps_rd rfl
theorem w_lenStr {all os : List AOper} {dst : Option Nat} {x : AX} {a : Frm} {H : Heap} {Q : Frm → Heap → Prop} :
    WOps E all (⟨dst, .lenStr x, none⟩ :: os) a H Q ↔ ∃ v, rd (.lenStr x) a H = some v ∧ WOps E all os (put a dst v) H Q := WOps_rd rfl
theorem w_lenSl {all os : List AOper} {dst : Option Nat} {x : AX} {a : Frm} {H : Heap} {Q : Frm → Heap → Prop} :
    WOps E all (⟨dst, .lenSl x, none⟩ :: os) a H Q ↔ ∃ v, rd (.lenSl x) a H = some v ∧ WOps E all os (put a dst v) H Q := WOps_rd rfl
theorem w_build {all os : List AOper} {dst : Option Nat} {z : List AV} {ps : List (Nat × Nat × AX)} {a : Frm} {H : Heap} {Q : Frm → Heap → Prop} :
    WOps E all (⟨dst, .build z ps, none⟩ :: os) a H Q ↔ ∃ v, rd (.build z ps) a H = some v ∧ WOps E all os (put a dst v) H Q := WOps_rd rfl
theorem w_sliceArr {all os : List AOper} {dst : Option Nat} {n s : Nat} {x : AX} {l h m : Option AX} {a : Frm} {H : Heap} {Q : Frm → Heap → Prop} :
    WOps E all (⟨dst, .sliceArr n s x l h m, none⟩ :: os) a H Q ↔ ∃ v, rd (.sliceArr n s x l h m) a H = some v ∧ WOps E all os (put a dst v) H Q := WOps_rd rfl
theorem w_bytesToStr {all os : List AOper} {dst : Option Nat} {x : AX} {a : Frm} {H : Heap} {Q : Frm → Heap → Prop} :
    WOps E all (⟨dst, .bytesToStr x, none⟩ :: os) a H Q ↔ ∃ v, rd (.bytesToStr x) a H = some v ∧ WOps E all os (put a dst v) H Q := WOps_rd rfl
theorem w_pick {all os : List AOper} {dst : Option Nat} {c x y : AX} {a : Frm} {H : Heap} {Q : Frm → Heap → Prop} :
    WOps E all (⟨dst, .pick c x y, none⟩ :: os) a H Q ↔ ∃ v, rd (.pick c x y) a H = some v ∧ WOps E all os (put a dst v) H Q := WOps_rd rfl
theorem w_store {all os : List AOper} {dst : Option Nat} {n : Nat} {x y : AX} {a : Frm} {H : Heap} {Q : Frm → Heap → Prop} :
    WOps E all (⟨dst, .store n x y, none⟩ :: os) a H Q ↔ ∃ v H', wst n (evalX a x) (evalX a y) H = some (v, H') ∧ WOps E all os (put a dst v) H' Q := WOps_wr rfl rfl
theorem w_alloc {all os : List AOper} {dst : Option Nat} {e : TypeId} {z : List AV} {a : Frm} {H : Heap} {Q : Frm → Heap → Prop} :
    WOps E all (⟨dst, .alloc e z, none⟩ :: os) a H Q ↔ WOps E all os (put a dst (.ptr (some (H.next, 0)))) (H.push (.cells z e false false)) Q := by
  rw [WOps_al rfl]
  constructor
  · intro ⟨x, f, h, q⟩
    simp only [al, Option.some.injEq, Prod.mk.injEq] at h
    obtain ⟨rfl, rfl⟩ := h
    exact q
  · intro q
    exact ⟨_, _, rfl, q⟩
theorem w_box {all os : List AOper} {dst : Option Nat} {e : TypeId} {x : AX} {a : Frm} {H : Heap} {Q : Frm → Heap → Prop} :
    WOps E all (⟨dst, .box e x, none⟩ :: os) a H Q ↔ WOps E all os (put a dst (.ptr (some (H.next, 0)))) (H.push (.cells (evalX a x).cells e false false)) Q := by
  rw [WOps_al rfl]
  constructor
  · intro ⟨x, f, h, q⟩
    simp only [al, Option.some.injEq, Prod.mk.injEq] at h
    obtain ⟨rfl, rfl⟩ := h
    exact q
  · intro q
    exact ⟨_, _, rfl, q⟩
theorem natOf_by (b : UInt8) : natOf (by' b) = some b.toNat := rfl
theorem sub_nn {a b : Nat} (h : b ≤ a) (h2 : a < 9223372036854775808) : ibin .sub (nn a) (nn b) = some (nn (a - b)) := by
  have e : (Int.ofNat a - Int.ofNat b) = Int.ofNat (a - b) := (Int.ofNat_sub h).symm
  simp only [nn, ibin, kindEq, cond_true, wrapK, e, fits_nn (show a - b < 9223372036854775808 by omega)]
theorem ieq_nat (a b : Nat) : ieq (.ofNat a) (.ofNat b) = decide (a = b) := by
  show Nat.beq a b = decide (a = b)
  cases h : Nat.beq a b with
  | true => have := Nat.eq_of_beq_eq_true h; simp [this]
  | false => have := Nat.ne_of_beq_eq_false h; simp [this]
theorem eql_nn (a b : Nat) : ibin .eql (nn a) (nn b) = some (.bool (decide (a = b))) := by
  simp only [nn, ibin, kindEq, cond_true, ieq_nat]
theorem neq_nn (a b : Nat) : ibin .neq (nn a) (nn b) = some (.bool (decide (a ≠ b))) := by
  simp only [nn, ibin, kindEq, cond_true, ieq_nat, decide_not]
theorem k13 : AV.int .i64 13 = nn 13 := rfl
theorem k32 : AV.int .i64 32 = nn 32 := rfl
/-- cells laid over cells -/
theorem lay_bs : ∀ (x y : List UInt8), x.length = y.length → lay (bs x) 0 (bs y) = some (bs y)
  | [], [], _ => rfl
  | a :: x, b :: y, h => by
    have := lay_bs x y (by simpa using h)
    simp only [bs] at this
    simp only [bs, List.map_cons, lay, this]
theorem all_atom_bs (l : List UInt8) : (bs l).all AV.atom = true := by simp [bs, atom_by]
theorem cells_agg (l : List AV) : (AV.agg l).cells = l := rfl
theorem wst_agg {T0 : T ABlk} {nx b n : Nat} {S S' : List UInt8} {e : TypeId} {op : Bool} (h : T0.get b = some (.cells (bs S) e op false)) (hl : S.length = n) (hl' : S'.length = n) :
    wst n (.ptr (some (b, 0))) (.agg (bs S')) ⟨T0, nx⟩ = some (aundef, ⟨T0.set b (.cells (bs S') e op false), nx⟩) := by
  have e1 : Nat.beq S'.length n = true := by rw [hl']; exact Nat.beq_refl n
  simp only [wst, cells_agg, length_bs, e1, cond_true, Heap.store, h, all_atom_bs, Bool.not_true, Bool.or_false, cond_false, lay_bs _ _ (hl.trans hl'.symm)]
theorem grab_bs {S : List UInt8} {n : Nat} (h : S.length = n) : grab n 0 (bs S) = some (bs S) := by
  have : (bs S).length = n := by rw [length_bs, h]
  simp only [grab, List.drop_zero, ← this, List.take_length, Nat.beq_refl, cond_true]
theorem loadN_bs {T0 : T ABlk} {nx b n : Nat} {S : List UInt8} {e : TypeId} {op ro : Bool} (h : T0.get b = some (.cells (bs S) e op ro)) (hl : S.length = n) : Heap.loadN ⟨T0, nx⟩ b 0 n = some (bs S) := by
  simp only [Heap.loadN, Heap.cellsAt, h, grab_bs hl]
theorem l_loadN {ops : List AOper} {base i : Nat} {is : List (Nat × AOper)} {dst : Option Nat} {a : Frm} {H : Heap} {hs : List Heap} {Q : Frm → List Heap → Prop} {n : Nat} {x : AX} :
    WL E ops base ((i, ⟨dst, .loadN n x, none⟩) :: is) a H hs Q ↔ ∃ v, rd (.loadN n x) a H = some v ∧ WL E ops base is (put a dst v) H hs Q := WL_rd rfl
theorem l_indexSl {ops : List AOper} {base i : Nat} {is : List (Nat × AOper)} {dst : Option Nat} {a : Frm} {H : Heap} {hs : List Heap} {Q : Frm → List Heap → Prop} {s : Nat} {x y : AX} :
    WL E ops base ((i, ⟨dst, .indexSl s x y, none⟩) :: is) a H hs Q ↔ ∃ v, rd (.indexSl s x y) a H = some v ∧ WL E ops base is (put a dst v) H hs Q := WL_rd rfl
theorem l_indexVal {ops : List AOper} {base i : Nat} {is : List (Nat × AOper)} {dst : Option Nat} {a : Frm} {H : Heap} {hs : List Heap} {Q : Frm → List Heap → Prop} {n s : Nat} {x y : AX} :
    WL E ops base ((i, ⟨dst, .indexVal n s x y, none⟩) :: is) a H hs Q ↔ ∃ v, rd (.indexVal n s x y) a H = some v ∧ WL E ops base is (put a dst v) H hs Q := WL_rd rfl
theorem l_indexStr {ops : List AOper} {base i : Nat} {is : List (Nat × AOper)} {dst : Option Nat} {a : Frm} {H : Heap} {hs : List Heap} {Q : Frm → List Heap → Prop} {x y : AX} :
    WL E ops base ((i, ⟨dst, .indexStr x y, none⟩) :: is) a H hs Q ↔ ∃ v, rd (.indexStr x y) a H = some v ∧ WL E ops base is (put a dst v) H hs Q := WL_rd rfl
theorem l_lenStr {ops : List AOper} {base i : Nat} {is : List (Nat × AOper)} {dst : Option Nat} {a : Frm} {H : Heap} {hs : List Heap} {Q : Frm → List Heap → Prop} {x : AX} :
    WL E ops base ((i, ⟨dst, .lenStr x, none⟩) :: is) a H hs Q ↔ ∃ v, rd (.lenStr x) a H = some v ∧ WL E ops base is (put a dst v) H hs Q := WL_rd rfl
theorem l_lenSl {ops : List AOper} {base i : Nat} {is : List (Nat × AOper)} {dst : Option Nat} {a : Frm} {H : Heap} {hs : List Heap} {Q : Frm → List Heap → Prop} {x : AX} :
    WL E ops base ((i, ⟨dst, .lenSl x, none⟩) :: is) a H hs Q ↔ ∃ v, rd (.lenSl x) a H = some v ∧ WL E ops base is (put a dst v) H hs Q := WL_rd rfl
theorem l_build {ops : List AOper} {base i : Nat} {is : List (Nat × AOper)} {dst : Option Nat} {a : Frm} {H : Heap} {hs : List Heap} {Q : Frm → List Heap → Prop} {z : List AV} {ps : List (Nat × Nat × AX)} :
    WL E ops base ((i, ⟨dst, .build z ps, none⟩) :: is) a H hs Q ↔ ∃ v, rd (.build z ps) a H = some v ∧ WL E ops base is (put a dst v) H hs Q := WL_rd rfl
theorem l_sliceArr {ops : List AOper} {base i : Nat} {is : List (Nat × AOper)} {dst : Option Nat} {a : Frm} {H : Heap} {hs : List Heap} {Q : Frm → List Heap → Prop} {n s : Nat} {x : AX} {l h m : Option AX} :
    WL E ops base ((i, ⟨dst, .sliceArr n s x l h m, none⟩) :: is) a H hs Q ↔ ∃ v, rd (.sliceArr n s x l h m) a H = some v ∧ WL E ops base is (put a dst v) H hs Q := WL_rd rfl
theorem l_bytesToStr {ops : List AOper} {base i : Nat} {is : List (Nat × AOper)} {dst : Option Nat} {a : Frm} {H : Heap} {hs : List Heap} {Q : Frm → List Heap → Prop} {x : AX} :
    WL E ops base ((i, ⟨dst, .bytesToStr x, none⟩) :: is) a H hs Q ↔ ∃ v, rd (.bytesToStr x) a H = some v ∧ WL E ops base is (put a dst v) H hs Q := WL_rd rfl
theorem l_pick {ops : List AOper} {base i : Nat} {is : List (Nat × AOper)} {dst : Option Nat} {a : Frm} {H : Heap} {hs : List Heap} {Q : Frm → List Heap → Prop} {c x y : AX} :
    WL E ops base ((i, ⟨dst, .pick c x y, none⟩) :: is) a H hs Q ↔ ∃ v, rd (.pick c x y) a H = some v ∧ WL E ops base is (put a dst v) H hs Q := WL_rd rfl
theorem sm_indexSl {d : ADraw} {a0 afin : Frm} {base i : Nat} {dst : Option Nat} {g : Option (Nat × Bool)} {hs : List Heap} {s : Nat} {x y : AX} : sameAt d a0 afin base i ⟨dst, .indexSl s x y, g⟩ hs = true := same_rd rfl rfl
theorem sm_indexVal {d : ADraw} {a0 afin : Frm} {base i : Nat} {dst : Option Nat} {g : Option (Nat × Bool)} {hs : List Heap} {n s : Nat} {x y : AX} : sameAt d a0 afin base i ⟨dst, .indexVal n s x y, g⟩ hs = true := same_rd rfl rfl
theorem sm_indexStr {d : ADraw} {a0 afin : Frm} {base i : Nat} {dst : Option Nat} {g : Option (Nat × Bool)} {hs : List Heap} {x y : AX} : sameAt d a0 afin base i ⟨dst, .indexStr x y, g⟩ hs = true := same_rd rfl rfl
theorem sm_lenStr {d : ADraw} {a0 afin : Frm} {base i : Nat} {dst : Option Nat} {g : Option (Nat × Bool)} {hs : List Heap} {x : AX} : sameAt d a0 afin base i ⟨dst, .lenStr x, g⟩ hs = true := same_rd rfl rfl
theorem sm_lenSl {d : ADraw} {a0 afin : Frm} {base i : Nat} {dst : Option Nat} {g : Option (Nat × Bool)} {hs : List Heap} {x : AX} : sameAt d a0 afin base i ⟨dst, .lenSl x, g⟩ hs = true := same_rd rfl rfl
theorem sm_build {d : ADraw} {a0 afin : Frm} {base i : Nat} {dst : Option Nat} {g : Option (Nat × Bool)} {hs : List Heap} {z : List AV} {ps : List (Nat × Nat × AX)} : sameAt d a0 afin base i ⟨dst, .build z ps, g⟩ hs = true := same_rd rfl rfl
theorem sm_sliceArr {d : ADraw} {a0 afin : Frm} {base i : Nat} {dst : Option Nat} {g : Option (Nat × Bool)} {hs : List Heap} {n s : Nat} {x : AX} {l h m : Option AX} : sameAt d a0 afin base i ⟨dst, .sliceArr n s x l h m, g⟩ hs = true := same_rd rfl rfl
theorem sm_pick {d : ADraw} {a0 afin : Frm} {base i : Nat} {dst : Option Nat} {g : Option (Nat × Bool)} {hs : List Heap} {c x y : AX} : sameAt d a0 afin base i ⟨dst, .pick c x y, g⟩ hs = true := same_rd rfl rfl
end Go.AE
end
section
set_option linter.unusedVariables false
set_option linter.unusedSimpArgs false
namespace Go.AE
variable {E : Env}
def addDraw : ADraw := (Go.AE.ADraw.mk [(Go.AE.AOper.mk (some 10) (.mov (.tmp 1)) none), (Go.AE.AOper.mk (some 11) (.mov (.tmp 6)) none), (Go.AE.AOper.mk (some 12) (.nilCheck (.tmp 10)) none), (Go.AE.AOper.mk (some 13) (.indexArr 16 1 (.tmp 12) (.tmp 11)) none), (Go.AE.AOper.mk (some 14) (.load1 (.tmp 13)) none), (Go.AE.AOper.mk (some 15) (.mov (.tmp 0)) none), (Go.AE.AOper.mk (some 16) (.mov (.tmp 2)) none), (Go.AE.AOper.mk (some 17) (.ibin .mul (.const (.int .i64 4)) (.tmp 16)) none), (Go.AE.AOper.mk (some 18) (.mov (.tmp 6)) none), (Go.AE.AOper.mk (some 19) (.ibin .quo (.tmp 18) (.const (.int .i64 4))) none), (Go.AE.AOper.mk (some 20) (.ibin .add (.tmp 17) (.tmp 19)) none), (Go.AE.AOper.mk (some 21) (.mov (.tmp 6)) none), (Go.AE.AOper.mk (some 22) (.ibin .rem (.tmp 21) (.const (.int .i64 4))) none), (Go.AE.AOper.mk (some 23) (.nilCheck (.tmp 15)) none), (Go.AE.AOper.mk (some 24) (.indexArr 60 4 (.tmp 23) (.tmp 20)) none), (Go.AE.AOper.mk (some 25) (.indexArr 4 1 (.tmp 24) (.tmp 22)) none), (Go.AE.AOper.mk (some 26) (.load1 (.tmp 25)) none), (Go.AE.AOper.mk (some 27) (.ibin .xor (.tmp 14) (.tmp 26)) none), (Go.AE.AOper.mk (some 28) (.nilCheck (.tmp 10)) none), (Go.AE.AOper.mk (some 29) (.indexArr 16 1 (.tmp 28) (.tmp 11)) none), (Go.AE.AOper.mk none (.store 1 (.tmp 29) (.tmp 27)) none)] [0, 1, 2, 3, 4, 5, 6, 7, 8, 9, 10, 11, 12, 13, 14, 15, 16, 17, 18, 19, 20] [0, 0, 1, 7, 15, 0, 0, 64, 0, 256, 960, 0, 2048, 32, 10208, 32736, 65504, 131071, 1, 524287, 1048575] [(0, 0), (0, 0), (0, 0), (0, 0), (0, 0), (0, 0), (0, 0), (0, 0), (0, 0), (0, 0), (0, 0), (0, 0), (0, 0), (0, 0), (0, 0), (0, 0), (0, 0), (0, 0), (0, 0), (0, 0), (0, 1)] false)

theorem ble_t {α : Type} {i n : Nat} (h : i < n) (x y : α) : (bif Nat.ble (Nat.succ i) n then x else y) = x := by
  have : Nat.ble (Nat.succ i) n = true := by rw [Nat.ble_eq]; omega
  rw [this, cond_true]
theorem load_blk' {T0 : T ABlk} {nx b o : Nat} {cs : List AV} {e : TypeId} {op ro : Bool} (h : T0.get b = some (.cells cs e op ro)) : Heap.load ⟨T0, nx⟩ b o = cs[o]? := load_blk h
theorem add_step {a : Frm} {H : Heap} {s c i round : Nat} {S C : List UInt8} {e e' : TypeId} {op op' ro' : Bool} (h0 : a.get 0 = some (.ptr (some (c, 0)))) (h1 : a.get 1 = some (.ptr (some (s, 0)))) (h2 : a.get 2 = some (nn round))
    (h6 : a.get 6 = some (nn i)) (hi : i < 16) (hr : round < 15) (hS : S.length = 16) (hC : C.length = 240)
    (hs : H.t.get s = some (.cells (bs S) e op false)) (hc : H.t.get c = some (.cells (bs C) e' op' ro')) (Q : AExit → Frm → Heap → Prop)
    (hQ : ∀ a', a'.get 0 = a.get 0 → a'.get 1 = a.get 1 → a'.get 2 = a.get 2 → a'.get 7 = a.get 7 → Q .normal a' ⟨H.t.set s (.cells (bs (S.set i (S.getD i 0 ^^^ C.getD (16 * round + i) 0))) e op false), H.next + 21⟩) : W E (.draw addDraw) a H Q := by
  refine W_draw (l := _) rfl (N := 21) rfl ?_
  have e1 : (bs S)[i]? = some (by' (S.getD i 0)) := by rw [get_bs, List.getElem?_eq_getElem (by omega)]; simp [List.getD, List.getElem?_eq_getElem (show i < S.length by omega)]
  have e2 : (bs C)[(4 * round + i / 4) * 4 + i % 4]? = some (by' (C.getD (16 * round + i) 0)) := by
    have : (4 * round + i / 4) * 4 + i % 4 = 16 * round + i := by omega
    rw [this, get_bs, List.getElem?_eq_getElem (by omega)]; simp [List.getD, List.getElem?_eq_getElem (show 16 * round + i < C.length by omega)]
  simp (disch := omega) only [addDraw, l_mov, l_ibin, l_nilCheck, l_indexArr, l_load1, l_store, eX_t, eX_c, put_s, put_n, T.get_set, Nat.reduceEqDiff, if_false, if_true, h0, h1, h2, h6, Option.getD_some, k0, k1, k3, k4, k16, ble_t, rd, Option.some.injEq, exists_eq_left', natOf_nn,
    mul_nn, quo_nn, rem_nn, add_nn, load_blk' hs, load_blk' hc, e1, e2, xor_by, Nat.zero_add, Nat.mul_one]
  simp (disch := omega) only [wr0_store, eX_t, put_n, T.get_set, Nat.reduceEqDiff, if_false, if_true, Option.getD_some, wst_by hs, Option.some.injEq, Prod.mk.injEq, exists_eq_left', and_assoc, exists_and_left, WL_nil, true_and]
  refine ⟨?_, _, _, rfl, ?_⟩
  · simp only [stable_cons, stable_nil, sm_mov, sm_ibin, sm_nilCheck, sm_indexArr, sm_store, Bool.true_and, Bool.and_true, Bool.and_eq_true, List.reverse_cons, List.reverse_nil, List.nil_append, List.cons_append, List.drop_zero, Nat.sub_zero, Nat.succ_eq_add_one, Nat.zero_add, List.take_succ_cons, List.take_zero]
    refine ⟨sm_load1 rfl (b := s) (o := i) (v := by' (S.getD i 0)) ?_ ?_ ?_ (AVbeq_by _), sm_load1 rfl (b := c) (o := (4 * round + i / 4) * 4 + i % 4) (v := by' (C.getD (16 * round + i) 0)) ?_ ?_ ?_ (AVbeq_by _)⟩
    all_goals first
      | simp only [eX_t, T.get_set, Nat.reduceEqDiff, if_false, if_true, Option.getD_some]; done
      | (intro H' hH'; simp only [List.mem_singleton] at hH'; subst hH'; simp only [load_blk' hs, load_blk' hc, e1, e2])
  · refine hQ _ ?_ ?_ ?_ ?_ <;> simp only [T.get_set, Nat.reduceEqDiff, if_false]

/-- a round's key, laid over a block -/
def addK (S C : List UInt8) (r : Nat) : Nat → List UInt8
  | 0 => S
  | i + 1 => (addK S C r i).set i ((addK S C r i).getD i 0 ^^^ C.getD (16 * r + i) 0)

theorem length_addK (S C : List UInt8) (r : Nat) : ∀ i, (addK S C r i).length = S.length
  | 0 => rfl
  | i + 1 => by rw [addK, List.length_set, length_addK S C r i]

theorem add_ok (hE : E.funcs 26 = some Aes.af26) {s c round : Nat} {S C : List UInt8} {H : Heap} (hx : E.sums 26 [.ptr (some (c, 0)), .ptr (some (s, 0)), nn round] H = none) {e e' : TypeId} {op op' ro' : Bool} (hsc : s ≠ c)
    (hr : round < 15) (hS : S.length = 16) (hC : C.length = 240)
    (hs : H.t.get s = some (.cells (bs S) e op false)) (hc : H.t.get c = some (.cells (bs C) e' op' ro')) (Q : AV → Heap → Prop)
    (hQ : ∀ H', H'.next = H.next + 336 → (∀ j, H'.t.get j = if s = j then some (.cells (bs (addK S C round 16)) e op false) else H.t.get j) → Q (.tuple []) H') :
    WCall E 26 [.ptr (some (c, 0)), .ptr (some (s, 0)), nn round] H Q := by
  refine WCall.func hx hE ?_
  refine W.seq (W.region ?_)
  simp only [w_mov, WOps_nil, thenQ_normal, put_s, eX_c, k0]
  refine W.block ?_
  refine W.count 16 (fun i a H' => H'.next = H.next + 21 * i ∧ (∀ j, H'.t.get j = if s = j then some (.cells (bs (addK S C round i)) e op false) else H.t.get j) ∧ a.get 0 = some (.ptr (some (c, 0))) ∧ a.get 1 = some (.ptr (some (s, 0))) ∧ a.get 2 = some (nn round) ∧ a.get 7 = some (nn i)) ?_ ?_ 0 _ H (by omega) ?_
  · intro i a H1 hi ⟨hn, hb, h0, h1, h2, h7⟩
    refine W.seq (W.region ?_)
    simp only [w_ibin, WOps_nil, thenQ_normal, put_s, eX_c, eX_t, k16, h7, Option.getD_some, lss_nn, Option.some.injEq, exists_eq_left']
    refine W.seq (W.cond (b := true) (by simp only [eX_t, T.get_set, Nat.reduceEqDiff, if_true, Option.getD_some]; simp [hi]) (W.skip ?_))
    rw [thenQ_normal]
    refine W.seq (W.block (W.seq (W.region ?_)))
    simp only [w_mov, WOps_nil, thenQ_normal, put_s, eX_c, eX_t, T.get_set, Nat.reduceEqDiff, if_false, if_true, h7, Option.getD_some]
    refine add_step (S := addK S C round i) (e := e) (op := op) (i := i) (round := round) (s := s) (c := c) (C := C) (e' := e') (op' := op') (ro' := ro') (by simp only [T.get_set, Nat.reduceEqDiff, if_false]; exact h0) (by simp only [T.get_set, Nat.reduceEqDiff, if_false]; exact h1) (by simp only [T.get_set, Nat.reduceEqDiff, if_false]; exact h2) (by simp only [T.get_set, Nat.reduceEqDiff, if_true]) hi hr (by rw [length_addK]; exact hS) hC (by rw [hb, if_pos rfl]) (by rw [hb, if_neg hsc]; exact hc) _ ?_
    intro a' g0 g1 g2 g7
    simp only [T.get_set, Nat.reduceEqDiff, if_false] at g0 g1 g2 g7
    rw [h0] at g0
    rw [h1] at g1
    rw [h2] at g2
    rw [h7] at g7
    simp only [blockQ_normal, thenQ_normal]
    refine W.region ?_
    simp (disch := omega) only [w_ibin, w_mov, WOps_nil, put_s, eX_c, eX_t, k1, g7, Option.getD_some, add_nn, Option.some.injEq, exists_eq_left', T.get_set, Nat.reduceEqDiff, if_true, if_false, true_and]
    refine ⟨by omega, ?_, g0, g1, g2, trivial⟩
    intro j
    by_cases hj : s = j
    · subst hj; simp only [T.get_set, if_true]; rfl
    · simp only [T.get_set, if_neg hj, hb]
  · intro a H1 ⟨hn, hb, h0, h1, h2, h7⟩
    refine W.seq (W.region ?_)
    simp only [w_ibin, WOps_nil, thenQ_normal, put_s, eX_c, eX_t, k16, h7, Option.getD_some, lss_nn, Option.some.injEq, exists_eq_left']
    refine W.seq (W.cond (b := false) (by simp only [eX_t, T.get_set, Nat.reduceEqDiff, if_true, Option.getD_some]; simp) (W.exit ?_))
    refine ⟨nofun, ?_⟩
    simp only [blockQ_exit, Nat.beq_refl, cond_true]
    refine ⟨.inl rfl, [], rfl, hQ H1 (by omega) hb⟩
  · refine ⟨by omega, ?_, rfl, rfl, rfl, ?_⟩
    · intro j
      by_cases hj : s = j
      · subst hj; rw [if_pos rfl]; exact hs
      · rw [if_neg hj]
    · rw [T.get_set, if_pos rfl]
end Go.AE
end
section
set_option linter.unusedVariables false
set_option linter.unusedSimpArgs false
set_option maxRecDepth 100000
namespace Go.AE
variable {E : Env}

theorem wrap_u8 (n : Nat) : wrapK .u8 (.ofNat n) = .ofNat (n % 256) := by
  unfold wrapK
  cases h : fits .u8 (.ofNat n) with
  | true =>
    simp only [fits, lo, hi, Bool.and_eq_true] at h
    have h2 : Nat.ble n 255 = true := h.2
    rw [Nat.ble_eq] at h2
    rw [cond_true, Nat.mod_eq_of_lt (by omega)]
  | false =>
    rw [cond_false]
    rfl

theorem shl1_by (b : UInt8) : ibin .shl (by' b) (.int .u64 1) = some (by' (b <<< 1)) := by
  have e : (Int.ofNat b.toNat * ((2 ^ 1 : Nat) : Int)) = Int.ofNat (b.toNat * 2) := rfl
  have e2 : (b <<< 1).toNat = b.toNat * 2 % 256 := by rw [UInt8.toNat_shiftLeft]; show b.toNat <<< 1 % 256 = _; rw [Nat.shiftLeft_eq]
  show some (AV.int .u8 (wrapK .u8 (Int.ofNat b.toNat * ((2 ^ 1 : Nat) : Int)))) = _
  rw [e, wrap_u8, by', e2]

theorem shr7_by (b : UInt8) : ibin .shr (by' b) (.int .u64 7) = some (by' (b >>> 7)) := by
  have e2 : (b >>> 7).toNat = b.toNat / 128 := by rw [UInt8.toNat_shiftRight]; exact Nat.shiftRight_eq_div_pow _ _
  show _ = some (AV.int .u8 (.ofNat (b >>> 7).toNat))
  rw [e2]; rfl

theorem eql_by (a b : UInt8) : ibin .eql (by' a) (by' b) = some (.bool (decide (a = b))) := by
  simp only [by', ibin, kindEq, cond_true, ieq_nat, UInt8.toNat_inj]

theorem b0 : AV.int .u8 0 = by' 0 := rfl
theorem b1 : AV.int .u8 1 = by' 1 := rfl
theorem b27 : AV.int .u8 27 = by' 27 := rfl

/-- twice a byte -/
def tw (b : UInt8) : UInt8 := bif decide (b >>> 7 = 1) then (b <<< 1) ^^^ 27 else b <<< 1

theorem twice_ok (hE : E.funcs 25 = some Aes.af25) {b : UInt8} {H : Heap} (hx : E.sums 25 [by' b] H = none) {Q : AV → Heap → Prop} (hQ : Q (by' (tw b)) H) : WCall E 25 [by' b] H Q := by
  refine WCall.func hx hE ?_
  have f0 : (frameOf [by' b] 0 .nil).get 0 = some (by' b) := rfl
  generalize frameOf [by' b] 0 .nil = a at f0
  refine W.seq (W.region ?_)
  simp only [w_mov, w_ibin, w_load1, w_loadN, w_nilCheck, w_indexArr, w_indexSl, w_indexVal, w_indexStr, w_lenStr, w_lenSl, w_store, w_alloc, w_box, w_build, w_sliceArr, w_bytesToStr, w_pick, WOps_nil, thenQ_normal, eX_t, eX_c, put_s, put_n, getset, Nat.reduceEqDiff, if_false, if_true, Option.getD_some, f0, b0]
  refine W.seq (W.region ?_)
  simp only [w_mov, w_ibin, w_load1, w_loadN, w_nilCheck, w_indexArr, w_indexSl, w_indexVal, w_indexStr, w_lenStr, w_lenSl, w_store, w_alloc, w_box, w_build, w_sliceArr, w_bytesToStr, w_pick, WOps_nil, thenQ_normal, eX_t, eX_c, put_s, put_n, getset, Nat.reduceEqDiff, if_false, if_true, Option.getD_some, rd, natOf_nn, natOf_by, Option.some.injEq, exists_eq_left', Prod.mk.injEq, and_assoc, exists_and_left, true_and, Nat.zero_add, Nat.add_zero, Nat.mul_one, ble_t, f0, shl1_by, b0]
  refine W.seq (W.seq (W.region ?_))
  simp only [w_mov, w_ibin, w_load1, w_loadN, w_nilCheck, w_indexArr, w_indexSl, w_indexVal, w_indexStr, w_lenStr, w_lenSl, w_store, w_alloc, w_box, w_build, w_sliceArr, w_bytesToStr, w_pick, WOps_nil, thenQ_normal, eX_t, eX_c, put_s, put_n, getset, Nat.reduceEqDiff, if_false, if_true, Option.getD_some, rd, natOf_nn, natOf_by, Option.some.injEq, exists_eq_left', Prod.mk.injEq, and_assoc, exists_and_left, true_and, Nat.zero_add, Nat.add_zero, Nat.mul_one, ble_t, f0, shr7_by, b1, eql_by]
  refine W.cond (b := decide (b >>> 7 = 1)) (by simp only [eX_t, eX_c, put_s, put_n, getset, Nat.reduceEqDiff, if_false, if_true, Option.getD_some]) ?_
  unfold tw at hQ
  generalize decide (b >>> 7 = 1) = d at hQ ⊢
  cases d with
  | true =>
    refine W.region ?_
    simp only [w_mov, w_ibin, w_load1, w_loadN, w_nilCheck, w_indexArr, w_indexSl, w_indexVal, w_indexStr, w_lenStr, w_lenSl, w_store, w_alloc, w_box, w_build, w_sliceArr, w_bytesToStr, w_pick, WOps_nil, thenQ_normal, eX_t, eX_c, put_s, put_n, getset, Nat.reduceEqDiff, if_false, if_true, Option.getD_some, rd, natOf_nn, natOf_by, Option.some.injEq, exists_eq_left', Prod.mk.injEq, and_assoc, exists_and_left, true_and, Nat.zero_add, Nat.add_zero, Nat.mul_one, ble_t, mul_nn, quo_nn, rem_nn, add_nn, sub_nn, lss_nn, eql_nn, neq_nn, xor_by, f0, b27]
    refine W.seq (W.region ?_)
    simp only [w_mov, w_ibin, w_load1, w_loadN, w_nilCheck, w_indexArr, w_indexSl, w_indexVal, w_indexStr, w_lenStr, w_lenSl, w_store, w_alloc, w_box, w_build, w_sliceArr, w_bytesToStr, w_pick, WOps_nil, thenQ_normal, eX_t, eX_c, put_s, put_n, getset, Nat.reduceEqDiff, if_false, if_true, Option.getD_some, rd, natOf_nn, natOf_by, Option.some.injEq, exists_eq_left', Prod.mk.injEq, and_assoc, exists_and_left, true_and, Nat.zero_add, Nat.add_zero, Nat.mul_one, ble_t, mul_nn, quo_nn, rem_nn, add_nn, sub_nn, lss_nn, eql_nn, neq_nn, xor_by, f0]
    refine W.ret ⟨.inr rfl, ?_⟩
    simp only [resultsOf, resOf, eX_t, eX_c, put_s, put_n, getset, Nat.reduceEqDiff, if_false, if_true, Option.getD_some, Option.some.injEq, exists_eq_left', oneOf]
    exact hQ
  | false =>
    refine W.skip ?_
    rw [thenQ_normal]
    refine W.seq (W.region ?_)
    simp only [w_mov, w_ibin, w_load1, w_loadN, w_nilCheck, w_indexArr, w_indexSl, w_indexVal, w_indexStr, w_lenStr, w_lenSl, w_store, w_alloc, w_box, w_build, w_sliceArr, w_bytesToStr, w_pick, WOps_nil, thenQ_normal, eX_t, eX_c, put_s, put_n, getset, Nat.reduceEqDiff, if_false, if_true, Option.getD_some, rd, natOf_nn, natOf_by, Option.some.injEq, exists_eq_left', Prod.mk.injEq, and_assoc, exists_and_left, true_and, Nat.zero_add, Nat.add_zero, Nat.mul_one, ble_t, mul_nn, quo_nn, rem_nn, add_nn, sub_nn, lss_nn, eql_nn, neq_nn, xor_by, f0]
    refine W.ret ⟨.inr rfl, ?_⟩
    simp only [resultsOf, resOf, eX_t, eX_c, put_s, put_n, getset, Nat.reduceEqDiff, if_false, if_true, Option.getD_some, Option.some.injEq, exists_eq_left', oneOf]
    exact hQ

/-- the box, as the program has it -/
def boxL : List UInt8 := [99, 124, 119, 123, 242, 107, 111, 197, 48, 1, 103, 43, 254, 215, 171, 118, 202, 130, 201, 125, 250, 89, 71, 240, 173, 212, 162, 175, 156, 164, 114, 192, 183, 253, 147, 38, 54, 63, 247, 204, 52, 165, 229, 241, 113, 216, 49, 21, 4, 199, 35, 195, 24, 150, 5, 154, 7, 18, 128, 226, 235, 39, 178, 117, 9, 131, 44, 26, 27, 110, 90, 160, 82, 59, 214, 179, 41, 227, 47, 132, 83, 209, 0, 237, 32, 252, 177, 91, 106, 203, 190, 57, 74, 76, 88, 207, 208, 239, 170, 251, 67, 77, 51, 133, 69, 249, 2, 127, 80, 60, 159, 168, 81, 163, 64, 143, 146, 157, 56, 245, 188, 182, 218, 33, 16, 255, 243, 210, 205, 12, 19, 236, 95, 151, 68, 23, 196, 167, 126, 61, 100, 93, 25, 115, 96, 129, 79, 220, 34, 42, 144, 136, 70, 238, 184, 20, 222, 94, 11, 219, 224, 50, 58, 10, 73, 6, 36, 92, 194, 211, 172, 98, 145, 149, 228, 121, 231, 200, 55, 109, 141, 213, 78, 169, 108, 86, 244, 234, 101, 122, 174, 8, 186, 120, 37, 46, 28, 166, 180, 198, 232, 221, 116, 31, 75, 189, 139, 138, 112, 62, 181, 102, 72, 3, 246, 14, 97, 53, 87, 185, 134, 193, 29, 158, 225, 248, 152, 17, 105, 217, 142, 148, 155, 30, 135, 233, 206, 85, 40, 223, 140, 161, 137, 13, 191, 230, 66, 104, 65, 153, 45, 15, 176, 84, 187, 22]

theorem length_boxL : boxL.length = 256 := rfl

theorem box_ok (hE : E.funcs 24 = some Aes.af24) {H : Heap} (hx : E.sums 24 [] H = none) {Q : AV → Heap → Prop}
    (hQ : ∀ H', H'.next = H.next + 1 → (∀ j, j ≠ H.next → H'.t.get j = H.t.get j) → Q (.agg (bs boxL)) H') : WCall E 24 [] H Q := by
  refine WCall.func hx hE ?_
  refine W.seq (W.region ?_)
  rw [w_alloc, put_s, WOps_nil, thenQ_normal]
  have hn : (H.push (.cells (bs (List.replicate 256 0)) 42 false false)).next = H.next + 1 := rfl
  have hj : ∀ j, (H.push (.cells (bs (List.replicate 256 0)) 42 false false)).t.get j = if H.next = j then some (.cells (bs (List.replicate 256 0)) 42 false false) else H.t.get j := fun j => by simp only [Heap.push, T.get_set]
  have e : ∀ l, bs (List.replicate 256 0) = l → H.push (.cells l 42 false false) = H.push (.cells (bs (List.replicate 256 0)) 42 false false) := fun l h => by rw [h]
  rw [e _ (by kernel_rfl)]
  generalize H.push (.cells (bs (List.replicate 256 0)) 42 false false) = H1 at hn hj
  obtain ⟨T1, n1⟩ := H1
  refine W.seq (W.region ?_)
  rw [w_build]
  refine ⟨.agg (bs boxL), by kernel_rfl, ?_⟩
  rw [w_store]
  refine ⟨_, _, wst_agg (b := H.next) (S := List.replicate 256 0) (S' := boxL) (e := 42) (op := false) (by rw [hj, if_pos rfl]) rfl rfl, ?_⟩
  simp only [put_n, WOps_nil, thenQ_normal]
  refine W.ret ⟨.inr rfl, [.agg (bs boxL)], ?_, ?_⟩
  · simp only [resultsOf, resOf, eX_t, eX_c, put_s, put_n, getset, Nat.reduceEqDiff, if_false, if_true, Option.getD_some, loadN_bs (show (T1.set H.next (.cells (bs boxL) 42 false false)).get H.next = some (.cells (bs boxL) 42 false false) by rw [T.get_set, if_pos rfl]) length_boxL]
  · refine hQ _ hn fun j hj2 => ?_
    simp only [T.get_set, if_neg (Ne.symm hj2)]
    rw [hj, if_neg (Ne.symm hj2)]
end Go.AE
end
-- Contracts of aes: mix.
section
set_option linter.unusedVariables false
set_option linter.unusedSimpArgs false
set_option maxRecDepth 100000
namespace Go.AE
variable {E : Env}

/-- functions that are told, not run -/
def special (f : Nat) : Bool := Nat.beq f 29 || Nat.beq f 14 || Nat.beq f 15 || Nat.beq f 23

/-- the first rounds of mix: each byte but the last -/
def mixK (T : List UInt8) (o : Nat) (all : UInt8) : Nat → List UInt8
  | 0 => T
  | r + 1 => (mixK T o all r).set (o + r) ((mixK T o all r).getD (o + r) 0 ^^^ (all ^^^ tw ((mixK T o all r).getD (o + r) 0 ^^^ (mixK T o all r).getD (o + r + 1) 0)))

theorem length_mixK (T : List UInt8) (o : Nat) (all : UInt8) : ∀ r, (mixK T o all r).length = T.length
  | 0 => rfl
  | r + 1 => by rw [mixK, List.length_set, length_mixK T o all r]

theorem getbs {S : List UInt8} {i : Nat} (h : i < S.length) : (bs S)[i]? = some (by' (S.getD i 0)) := by
  rw [get_bs, List.getElem?_eq_getElem h]; simp [List.getD, List.getElem?_eq_getElem h]

def mixDraw0 : ADraw := (ADraw.mk [(AOper.mk (some 5) (.mov (.tmp 0)) none), (AOper.mk (some 6) (.indexSl 1 (.tmp 5) (.const (.int .i64 0))) none), (AOper.mk (some 7) (.load1 (.tmp 6)) none), (AOper.mk (some 8) (.mov (.tmp 0)) none), (AOper.mk (some 9) (.indexSl 1 (.tmp 8) (.const (.int .i64 1))) none), (AOper.mk (some 10) (.load1 (.tmp 9)) none), (AOper.mk (some 11) (.ibin .xor (.tmp 7) (.tmp 10)) none), (AOper.mk (some 12) (.mov (.tmp 0)) none), (AOper.mk (some 13) (.indexSl 1 (.tmp 12) (.const (.int .i64 2))) none), (AOper.mk (some 14) (.load1 (.tmp 13)) none), (AOper.mk (some 15) (.ibin .xor (.tmp 11) (.tmp 14)) none), (AOper.mk (some 16) (.mov (.tmp 0)) none), (AOper.mk (some 17) (.indexSl 1 (.tmp 16) (.const (.int .i64 3))) none), (AOper.mk (some 18) (.load1 (.tmp 17)) none), (AOper.mk (some 19) (.ibin .xor (.tmp 15) (.tmp 18)) none), (AOper.mk (some 2) (.mov (.tmp 19)) none)] [0, 1, 2, 3, 4, 5, 6, 7, 8, 9, 10, 11, 12, 13, 14, 15] [0, 1, 3, 0, 8, 24, 63, 0, 128, 384, 1023, 0, 2048, 6144, 16383, 32767] [(0, 0), (0, 0), (0, 0), (0, 0), (0, 0), (0, 0), (0, 0), (0, 0), (0, 0), (0, 0), (0, 0), (0, 0), (0, 0), (0, 0), (0, 0), (0, 0)] false)
def mixDraw1 : ADraw := (ADraw.mk [(AOper.mk (some 26) (.mov (.tmp 0)) none), (AOper.mk (some 27) (.mov (.tmp 4)) none), (AOper.mk (some 28) (.indexSl 1 (.tmp 26) (.tmp 27)) none), (AOper.mk (some 29) (.load1 (.tmp 28)) none), (AOper.mk (some 30) (.mov (.tmp 2)) none), (AOper.mk (some 31) (.mov (.tmp 0)) none), (AOper.mk (some 32) (.mov (.tmp 4)) none), (AOper.mk (some 33) (.indexSl 1 (.tmp 31) (.tmp 32)) none), (AOper.mk (some 34) (.load1 (.tmp 33)) none), (AOper.mk (some 35) (.mov (.tmp 0)) none), (AOper.mk (some 36) (.mov (.tmp 4)) none), (AOper.mk (some 37) (.ibin .add (.tmp 36) (.const (.int .i64 1))) none), (AOper.mk (some 38) (.indexSl 1 (.tmp 35) (.tmp 37)) none), (AOper.mk (some 39) (.load1 (.tmp 38)) none), (AOper.mk (some 40) (.ibin .xor (.tmp 34) (.tmp 39)) none), (AOper.mk (some 41) (.call (.const (.func (.func 25) [] [])) [(.tmp 40)]) none), (AOper.mk (some 42) (.ibin .xor (.tmp 30) (.tmp 41)) none), (AOper.mk (some 43) (.ibin .xor (.tmp 29) (.tmp 42)) none), (AOper.mk (some 44) (.indexSl 1 (.tmp 26) (.tmp 27)) none), (AOper.mk none (.store 1 (.tmp 44) (.tmp 43)) none)] [0, 1, 2, 3, 4, 5, 6, 7, 8, 9, 10, 11, 12, 13, 14, 15, 16, 17, 18, 19] [0, 0, 3, 7, 0, 0, 0, 96, 224, 0, 0, 1024, 3584, 7680, 16352, 32736, 65520, 131071, 262143, 524287] [(0, 1), (0, 1), (0, 1), (0, 1), (0, 1), (0, 0), (0, 0), (0, 0), (0, 0), (0, 0), (0, 0), (0, 0), (0, 0), (0, 0), (0, 0), (0, 1), (1, 1), (1, 1), (1, 1), (1, 2)] false)
def mixDraw2 : ADraw := (ADraw.mk [(AOper.mk (some 46) (.mov (.tmp 0)) none), (AOper.mk (some 47) (.indexSl 1 (.tmp 46) (.const (.int .i64 3))) none), (AOper.mk (some 48) (.load1 (.tmp 47)) none), (AOper.mk (some 49) (.mov (.tmp 2)) none), (AOper.mk (some 50) (.mov (.tmp 0)) none), (AOper.mk (some 51) (.indexSl 1 (.tmp 50) (.const (.int .i64 3))) none), (AOper.mk (some 52) (.load1 (.tmp 51)) none), (AOper.mk (some 53) (.mov (.tmp 3)) none), (AOper.mk (some 54) (.ibin .xor (.tmp 52) (.tmp 53)) none), (AOper.mk (some 55) (.call (.const (.func (.func 25) [] [])) [(.tmp 54)]) none), (AOper.mk (some 56) (.ibin .xor (.tmp 49) (.tmp 55)) none), (AOper.mk (some 57) (.ibin .xor (.tmp 48) (.tmp 56)) none), (AOper.mk (some 58) (.indexSl 1 (.tmp 46) (.const (.int .i64 3))) none), (AOper.mk none (.store 1 (.tmp 58) (.tmp 57)) none)] [0, 1, 2, 3, 4, 5, 6, 7, 8, 9, 10, 11, 12, 13] [0, 1, 3, 0, 0, 16, 48, 0, 240, 496, 1016, 2047, 4095, 8191] [(0, 1), (0, 1), (0, 1), (0, 1), (0, 0), (0, 0), (0, 0), (0, 0), (0, 0), (0, 1), (1, 1), (1, 1), (1, 1), (1, 2)] false)

theorem mix_d0 {a : Frm} {H : Heap} {t o : Nat} {cap : ACap} {T : List UInt8} {e : TypeId} {op : Bool} (h0 : a.get 0 = some (.slice (some (t, o)) 4 cap)) (ho : o + 4 ≤ T.length)
    (ht : H.t.get t = some (.cells (bs T) e op false)) {Q : AExit → Frm → Heap → Prop}
    (hQ : ∀ a', a'.get 0 = a.get 0 → a'.get 2 = some (by' (T.getD o 0 ^^^ T.getD (o + 1) 0 ^^^ T.getD (o + 2) 0 ^^^ T.getD (o + 3) 0)) → Q .normal a' ⟨H.t, H.next + 16⟩) : W E (.draw mixDraw0) a H Q := by
  refine W_draw (l := _) rfl (N := 16) rfl ?_
  have e0 := getbs (S := T) (i := o) (by omega)
  have e1 := getbs (S := T) (i := o + 1) (by omega)
  have e2 := getbs (S := T) (i := o + 2) (by omega)
  have e3 := getbs (S := T) (i := o + 3) (by omega)
  simp (disch := omega) only [mixDraw0, l_mov, l_ibin, l_load1, l_loadN, l_nilCheck, l_indexArr, l_indexSl, l_indexVal, l_indexStr, l_lenStr, l_lenSl, l_store, l_build, WL_nil, eX_t, eX_c, put_s, put_n, getset, Nat.reduceEqDiff, if_false, if_true, Option.getD_some, rd, natOf_nn, natOf_by, Option.some.injEq, exists_eq_left', Prod.mk.injEq, and_assoc, exists_and_left, true_and, Nat.zero_add, Nat.add_zero, Nat.mul_one, ble_t, mul_nn, quo_nn, rem_nn, add_nn, sub_nn, lss_nn, eql_nn, neq_nn, xor_by, k0, k1, k2, k3, k4, k5, k6, k7, k8, k12, k13, k14, k15, k16, k32, k60, k254, k256, h0, load_blk' ht, e0, e1, e2, e3, Nat.add_zero]
  refine ⟨?_, _, _, rfl, ?_⟩
  · simp only [stable_cons, stable_nil, sm_mov, sm_ibin, sm_nilCheck, sm_indexArr, sm_indexSl, sm_indexVal, sm_indexStr, sm_lenStr, sm_lenSl, sm_build, sm_store, sm_call, Bool.true_and, Bool.and_true, Bool.and_eq_true, List.reverse_cons, List.reverse_nil, List.nil_append, List.cons_append, List.drop_zero, List.drop_succ_cons, Nat.sub_zero, Nat.succ_eq_add_one, Nat.zero_add, Nat.reduceAdd, Nat.reduceSub, List.take_succ_cons, List.take_zero, List.take_nil]
    refine ⟨sm_load1 rfl (b := t) (o := o) (v := by' (T.getD o 0)) ?_ ?_ ?_ (AVbeq_by _), sm_load1 rfl (b := t) (o := o + 1) (v := by' (T.getD (o + 1) 0)) ?_ ?_ ?_ (AVbeq_by _), sm_load1 rfl (b := t) (o := o + 2) (v := by' (T.getD (o + 2) 0)) ?_ ?_ ?_ (AVbeq_by _), sm_load1 rfl (b := t) (o := o + 3) (v := by' (T.getD (o + 3) 0)) ?_ ?_ ?_ (AVbeq_by _)⟩
    all_goals first
      | simp only [eX_t, eX_c, put_s, put_n, getset, Nat.reduceEqDiff, if_false, if_true, Option.getD_some]; done
      | (intro H' hH'; simp only [List.mem_singleton] at hH'; subst hH'; simp only [load_blk' ht, e0, e1, e2, e3])
  · refine hQ _ ?_ ?_ <;> simp only [getset, Nat.reduceEqDiff, if_false, if_true]

theorem mix_d1 (hE : E.funcs 25 = some Aes.af25) (hx : ∀ args H, E.sums 25 args H = none) {a : Frm} {H : Heap} {t o r : Nat} {cap : ACap} {T : List UInt8} {all : UInt8} {e : TypeId} {op : Bool} (h0 : a.get 0 = some (.slice (some (t, o)) 4 cap))
    (h2 : a.get 2 = some (by' all)) (h4 : a.get 4 = some (nn r)) (hr : r < 3) (ho : o + 4 ≤ T.length)
    (ht : H.t.get t = some (.cells (bs T) e op false)) {Q : AExit → Frm → Heap → Prop}
    (hQ : ∀ a', a'.get 0 = a.get 0 → a'.get 2 = a.get 2 → a'.get 3 = a.get 3 → a'.get 23 = a.get 23 →
      Q .normal a' ⟨H.t.set t (.cells (bs (T.set (o + r) (T.getD (o + r) 0 ^^^ (all ^^^ tw (T.getD (o + r) 0 ^^^ T.getD (o + r + 1) 0))))) e op false), H.next + 20⟩) : W E (.draw mixDraw1) a H Q := by
  refine W_draw (l := _) rfl (N := 20) rfl ?_
  have e0 := getbs (S := T) (i := o + r) (by omega)
  have e1 := getbs (S := T) (i := o + (r + 1)) (by omega)
  simp (disch := omega) only [mixDraw1, l_mov, l_ibin, l_load1, l_loadN, l_nilCheck, l_indexArr, l_indexSl, l_indexVal, l_indexStr, l_lenStr, l_lenSl, l_store, l_build, WL_nil, eX_t, eX_c, put_s, put_n, getset, Nat.reduceEqDiff, if_false, if_true, Option.getD_some, rd, natOf_nn, natOf_by, Option.some.injEq, exists_eq_left', Prod.mk.injEq, and_assoc, exists_and_left, true_and, Nat.zero_add, Nat.add_zero, Nat.mul_one, ble_t, mul_nn, quo_nn, rem_nn, add_nn, sub_nn, lss_nn, eql_nn, neq_nn, xor_by, k0, k1, k2, k3, k4, k5, k6, k7, k8, k12, k13, k14, k15, k16, k32, k60, k254, k256, h0, h2, h4, load_blk' ht, e0, e1]
  refine WL_call rfl ?_
  simp only [List.map_cons, List.map_nil, List.nil_append, List.append_nil, eX_t, eX_c, put_s, put_n, getset, Nat.reduceEqDiff, if_false, if_true, Option.getD_some]
  refine twice_ok hE (hx _ _) ?_
  simp (disch := omega) only [l_mov, l_ibin, l_load1, l_loadN, l_nilCheck, l_indexArr, l_indexSl, l_indexVal, l_indexStr, l_lenStr, l_lenSl, l_store, l_build, WL_nil, eX_t, eX_c, put_s, put_n, getset, Nat.reduceEqDiff, if_false, if_true, Option.getD_some, rd, natOf_nn, natOf_by, Option.some.injEq, exists_eq_left', Prod.mk.injEq, and_assoc, exists_and_left, true_and, Nat.zero_add, Nat.add_zero, Nat.mul_one, ble_t, mul_nn, quo_nn, rem_nn, add_nn, sub_nn, lss_nn, eql_nn, neq_nn, xor_by, k0, k1, k2, k3, k4, k5, k6, k7, k8, k12, k13, k14, k15, k16, k32, k60, k254, k256]
  simp (disch := omega) only [wr0_store, l_mov, l_ibin, l_load1, l_loadN, l_nilCheck, l_indexArr, l_indexSl, l_indexVal, l_indexStr, l_lenStr, l_lenSl, l_store, l_build, WL_nil, eX_t, eX_c, put_s, put_n, getset, Nat.reduceEqDiff, if_false, if_true, Option.getD_some, rd, natOf_nn, natOf_by, Option.some.injEq, exists_eq_left', Prod.mk.injEq, and_assoc, exists_and_left, true_and, Nat.zero_add, Nat.add_zero, Nat.mul_one, ble_t, mul_nn, quo_nn, rem_nn, add_nn, sub_nn, lss_nn, eql_nn, neq_nn, xor_by, wst_by ht]
  refine ⟨?_, _, _, rfl, ?_⟩
  · simp only [stable_cons, stable_nil, sm_mov, sm_ibin, sm_nilCheck, sm_indexArr, sm_indexSl, sm_indexVal, sm_indexStr, sm_lenStr, sm_lenSl, sm_build, sm_store, sm_call, Bool.true_and, Bool.and_true, Bool.and_eq_true, List.reverse_cons, List.reverse_nil, List.nil_append, List.cons_append, List.drop_zero, List.drop_succ_cons, Nat.sub_zero, Nat.succ_eq_add_one, Nat.zero_add, Nat.reduceAdd, Nat.reduceSub, List.take_succ_cons, List.take_zero, List.take_nil]
    refine ⟨sm_load1 rfl (b := t) (o := o + r) (v := by' (T.getD (o + r) 0)) ?_ ?_ ?_ (AVbeq_by _), sm_load1 rfl (b := t) (o := o + r) (v := by' (T.getD (o + r) 0)) ?_ ?_ ?_ (AVbeq_by _), sm_load1 rfl (b := t) (o := o + (r + 1)) (v := by' (T.getD (o + (r + 1)) 0)) ?_ ?_ ?_ (AVbeq_by _)⟩
    all_goals first
      | simp only [eX_t, eX_c, put_s, put_n, getset, Nat.reduceEqDiff, if_false, if_true, Option.getD_some]; done
      | (intro H' hH'; simp only [List.mem_cons, List.not_mem_nil, or_false, or_self] at hH'; subst hH'; simp only [load_blk' ht, e0, e1])
  · refine hQ _ ?_ ?_ ?_ ?_ <;> simp only [getset, Nat.reduceEqDiff, if_false]

theorem mix_d2 (hE : E.funcs 25 = some Aes.af25) (hx : ∀ args H, E.sums 25 args H = none) {a : Frm} {H : Heap} {t o : Nat} {cap : ACap} {T : List UInt8} {all first : UInt8} {e : TypeId} {op : Bool} (h0 : a.get 0 = some (.slice (some (t, o)) 4 cap))
    (h2 : a.get 2 = some (by' all)) (h3 : a.get 3 = some (by' first)) (ho : o + 4 ≤ T.length)
    (ht : H.t.get t = some (.cells (bs T) e op false)) {Q : AExit → Frm → Heap → Prop}
    (hQ : ∀ a', Q .normal a' ⟨H.t.set t (.cells (bs (T.set (o + 3) (T.getD (o + 3) 0 ^^^ (all ^^^ tw (T.getD (o + 3) 0 ^^^ first))))) e op false), H.next + 14⟩) : W E (.draw mixDraw2) a H Q := by
  refine W_draw (l := _) rfl (N := 14) rfl ?_
  have e0 := getbs (S := T) (i := o + 3) (by omega)
  simp (disch := omega) only [mixDraw2, l_mov, l_ibin, l_load1, l_loadN, l_nilCheck, l_indexArr, l_indexSl, l_indexVal, l_indexStr, l_lenStr, l_lenSl, l_store, l_build, WL_nil, eX_t, eX_c, put_s, put_n, getset, Nat.reduceEqDiff, if_false, if_true, Option.getD_some, rd, natOf_nn, natOf_by, Option.some.injEq, exists_eq_left', Prod.mk.injEq, and_assoc, exists_and_left, true_and, Nat.zero_add, Nat.add_zero, Nat.mul_one, ble_t, mul_nn, quo_nn, rem_nn, add_nn, sub_nn, lss_nn, eql_nn, neq_nn, xor_by, k0, k1, k2, k3, k4, k5, k6, k7, k8, k12, k13, k14, k15, k16, k32, k60, k254, k256, h0, h2, h3, load_blk' ht, e0]
  refine WL_call rfl ?_
  simp only [List.map_cons, List.map_nil, List.nil_append, List.append_nil, eX_t, eX_c, put_s, put_n, getset, Nat.reduceEqDiff, if_false, if_true, Option.getD_some]
  refine twice_ok hE (hx _ _) ?_
  simp (disch := omega) only [l_mov, l_ibin, l_load1, l_loadN, l_nilCheck, l_indexArr, l_indexSl, l_indexVal, l_indexStr, l_lenStr, l_lenSl, l_store, l_build, WL_nil, eX_t, eX_c, put_s, put_n, getset, Nat.reduceEqDiff, if_false, if_true, Option.getD_some, rd, natOf_nn, natOf_by, Option.some.injEq, exists_eq_left', Prod.mk.injEq, and_assoc, exists_and_left, true_and, Nat.zero_add, Nat.add_zero, Nat.mul_one, ble_t, mul_nn, quo_nn, rem_nn, add_nn, sub_nn, lss_nn, eql_nn, neq_nn, xor_by, k0, k1, k2, k3, k4, k5, k6, k7, k8, k12, k13, k14, k15, k16, k32, k60, k254, k256]
  simp (disch := omega) only [wr0_store, l_mov, l_ibin, l_load1, l_loadN, l_nilCheck, l_indexArr, l_indexSl, l_indexVal, l_indexStr, l_lenStr, l_lenSl, l_store, l_build, WL_nil, eX_t, eX_c, put_s, put_n, getset, Nat.reduceEqDiff, if_false, if_true, Option.getD_some, rd, natOf_nn, natOf_by, Option.some.injEq, exists_eq_left', Prod.mk.injEq, and_assoc, exists_and_left, true_and, Nat.zero_add, Nat.add_zero, Nat.mul_one, ble_t, mul_nn, quo_nn, rem_nn, add_nn, sub_nn, lss_nn, eql_nn, neq_nn, xor_by, wst_by ht]
  refine ⟨?_, _, _, rfl, ?_⟩
  · simp only [stable_cons, stable_nil, sm_mov, sm_ibin, sm_nilCheck, sm_indexArr, sm_indexSl, sm_indexVal, sm_indexStr, sm_lenStr, sm_lenSl, sm_build, sm_store, sm_call, Bool.true_and, Bool.and_true, Bool.and_eq_true, List.reverse_cons, List.reverse_nil, List.nil_append, List.cons_append, List.drop_zero, List.drop_succ_cons, Nat.sub_zero, Nat.succ_eq_add_one, Nat.zero_add, Nat.reduceAdd, Nat.reduceSub, List.take_succ_cons, List.take_zero, List.take_nil]
    refine ⟨sm_load1 rfl (b := t) (o := o + 3) (v := by' (T.getD (o + 3) 0)) ?_ ?_ ?_ (AVbeq_by _), sm_load1 rfl (b := t) (o := o + 3) (v := by' (T.getD (o + 3) 0)) ?_ ?_ ?_ (AVbeq_by _)⟩
    all_goals first
      | simp only [eX_t, eX_c, put_s, put_n, getset, Nat.reduceEqDiff, if_false, if_true, Option.getD_some]; done
      | (intro H' hH'; simp only [List.mem_cons, List.not_mem_nil, or_false, or_self] at hH'; subst hH'; simp only [load_blk' ht, e0])
  · exact hQ _

/-- mix, as the program does it -/
def mixP (T : List UInt8) (o : Nat) : List UInt8 :=
  let all := T.getD o 0 ^^^ T.getD (o + 1) 0 ^^^ T.getD (o + 2) 0 ^^^ T.getD (o + 3) 0
  let M := mixK T o all 3
  M.set (o + 3) (M.getD (o + 3) 0 ^^^ (all ^^^ tw (M.getD (o + 3) 0 ^^^ T.getD o 0)))

theorem length_mixP (T : List UInt8) (o : Nat) : (mixP T o).length = T.length := by simp only [mixP, List.length_set, length_mixK]

theorem mix_ok (hE : ∀ f, E.funcs f = Aes.funcsT.get f) (hx : ∀ f args H, special f = false → E.sums f args H = none) {H : Heap} {t o : Nat} {cap : ACap} {T : List UInt8} {e : TypeId} {op : Bool}
    (ho : o + 4 ≤ T.length) (ht : H.t.get t = some (.cells (bs T) e op false)) {Q : AV → Heap → Prop}
    (hQ : ∀ H', H'.next = H.next + 90 → (∀ j, H'.t.get j = if t = j then some (.cells (bs (mixP T o)) e op false) else H.t.get j) → Q (.tuple []) H') :
    WCall E 27 [.slice (some (t, o)) 4 cap] H Q := by
  have hE25 : E.funcs 25 = some Aes.af25 := (hE 25).trans rfl
  have hx25 : ∀ args H, E.sums 25 args H = none := fun args H => hx 25 args H (by decide)
  refine WCall.func (hx 27 _ _ (by decide)) ((hE 27).trans rfl) ?_
  have f0 : (frameOf [.slice (some (t, o)) 4 cap] 0 .nil).get 0 = some (.slice (some (t, o)) 4 cap) := rfl
  generalize frameOf [.slice (some (t, o)) 4 cap] 0 .nil = a at f0
  refine W.seq (mix_d0 f0 ho ht ?_)
  intro a1 g0 g2
  rw [f0] at g0
  rw [thenQ_normal]
  have e0 := getbs (S := T) (i := o) (by omega)
  refine W.seq (W.region ?_)
  simp (disch := omega) only [w_mov, w_ibin, w_load1, w_loadN, w_nilCheck, w_indexArr, w_indexSl, w_indexVal, w_indexStr, w_lenStr, w_lenSl, w_store, w_alloc, w_box, w_build, w_sliceArr, w_bytesToStr, w_pick, WOps_nil, thenQ_normal, eX_t, eX_c, put_s, put_n, getset, Nat.reduceEqDiff, if_false, if_true, Option.getD_some, rd, natOf_nn, natOf_by, Option.some.injEq, exists_eq_left', Prod.mk.injEq, and_assoc, exists_and_left, true_and, Nat.zero_add, Nat.add_zero, Nat.mul_one, ble_t, mul_nn, quo_nn, rem_nn, add_nn, sub_nn, lss_nn, eql_nn, neq_nn, xor_by, k0, k1, k2, k3, k4, k5, k6, k7, k8, k12, k13, k14, k15, k16, k32, k60, k254, k256, g0, load_blk' ht, e0]
  refine W.seq (W.seq (W.region ?_))
  simp only [w_mov, w_ibin, w_load1, w_loadN, w_nilCheck, w_indexArr, w_indexSl, w_indexVal, w_indexStr, w_lenStr, w_lenSl, w_store, w_alloc, w_box, w_build, w_sliceArr, w_bytesToStr, w_pick, WOps_nil, thenQ_normal, eX_t, eX_c, put_s, put_n, getset, Nat.reduceEqDiff, if_false, if_true, Option.getD_some, k0, k1, k2, k3, k4, k5, k6, k7, k8, k12, k13, k14, k15, k16, k32, k60, k254, k256]
  refine W.block ?_
  refine W.count 3 (fun r a H' => H'.next = H.next + 16 + 20 * r ∧ (∀ j, H'.t.get j = if t = j then some (.cells (bs (mixK T o (T.getD o 0 ^^^ T.getD (o + 1) 0 ^^^ T.getD (o + 2) 0 ^^^ T.getD (o + 3) 0) r)) e op false) else H.t.get j) ∧ a.get 0 = some (.slice (some (t, o)) 4 cap) ∧
    a.get 2 = some (by' (T.getD o 0 ^^^ T.getD (o + 1) 0 ^^^ T.getD (o + 2) 0 ^^^ T.getD (o + 3) 0)) ∧ a.get 3 = some (by' (T.getD o 0)) ∧ a.get 23 = some (nn r)) ?_ ?_ 0 _ _ (by omega) ?_
  · intro r a H1 hr ⟨hn, hb, h0, h2, h3, h23⟩
    refine W.seq (W.region ?_)
    simp only [w_mov, w_ibin, w_load1, w_loadN, w_nilCheck, w_indexArr, w_indexSl, w_indexVal, w_indexStr, w_lenStr, w_lenSl, w_store, w_alloc, w_box, w_build, w_sliceArr, w_bytesToStr, w_pick, WOps_nil, thenQ_normal, eX_t, eX_c, put_s, put_n, getset, Nat.reduceEqDiff, if_false, if_true, Option.getD_some, rd, natOf_nn, natOf_by, Option.some.injEq, exists_eq_left', Prod.mk.injEq, and_assoc, exists_and_left, true_and, Nat.zero_add, Nat.add_zero, Nat.mul_one, ble_t, mul_nn, quo_nn, rem_nn, add_nn, sub_nn, lss_nn, eql_nn, neq_nn, xor_by, k0, k1, k2, k3, k4, k5, k6, k7, k8, k12, k13, k14, k15, k16, k32, k60, k254, k256, h23]
    refine W.seq (W.cond (b := true) (by simp only [eX_t, eX_c, put_s, put_n, getset, Nat.reduceEqDiff, if_false, if_true, Option.getD_some]; simp [hr]) (W.skip ?_))
    rw [thenQ_normal]
    refine W.seq (W.block (W.seq (W.region ?_)))
    simp only [w_mov, w_ibin, w_load1, w_loadN, w_nilCheck, w_indexArr, w_indexSl, w_indexVal, w_indexStr, w_lenStr, w_lenSl, w_store, w_alloc, w_box, w_build, w_sliceArr, w_bytesToStr, w_pick, WOps_nil, thenQ_normal, eX_t, eX_c, put_s, put_n, getset, Nat.reduceEqDiff, if_false, if_true, Option.getD_some, rd, natOf_nn, natOf_by, Option.some.injEq, exists_eq_left', Prod.mk.injEq, and_assoc, exists_and_left, true_and, Nat.zero_add, Nat.add_zero, Nat.mul_one, ble_t, mul_nn, quo_nn, rem_nn, add_nn, sub_nn, lss_nn, eql_nn, neq_nn, xor_by, k0, k1, k2, k3, k4, k5, k6, k7, k8, k12, k13, k14, k15, k16, k32, k60, k254, k256, h23]
    refine mix_d1 (T := mixK T o (T.getD o 0 ^^^ T.getD (o + 1) 0 ^^^ T.getD (o + 2) 0 ^^^ T.getD (o + 3) 0) r) (o := o) (t := t) (e := e) (op := op) (r := r) hE25 hx25 (by simp only [eX_t, eX_c, put_s, put_n, getset, Nat.reduceEqDiff, if_false, if_true, Option.getD_some]; exact h0) (by simp only [eX_t, eX_c, put_s, put_n, getset, Nat.reduceEqDiff, if_false, if_true, Option.getD_some]; exact h2) (by simp only [eX_t, eX_c, put_s, put_n, getset, Nat.reduceEqDiff, if_false, if_true, Option.getD_some]) hr (by rw [length_mixK]; exact ho) (by rw [hb, if_pos rfl]) ?_
    intro a' g0 g2 g3 g23
    simp only [getset, Nat.reduceEqDiff, if_false] at g0 g2 g3 g23
    rw [h0] at g0
    rw [h2] at g2
    rw [h3] at g3
    rw [h23] at g23
    simp only [blockQ_normal, thenQ_normal]
    refine W.region ?_
    simp (disch := omega) only [w_mov, w_ibin, w_load1, w_loadN, w_nilCheck, w_indexArr, w_indexSl, w_indexVal, w_indexStr, w_lenStr, w_lenSl, w_store, w_alloc, w_box, w_build, w_sliceArr, w_bytesToStr, w_pick, WOps_nil, thenQ_normal, eX_t, eX_c, put_s, put_n, getset, Nat.reduceEqDiff, if_false, if_true, Option.getD_some, rd, natOf_nn, natOf_by, Option.some.injEq, exists_eq_left', Prod.mk.injEq, and_assoc, exists_and_left, true_and, Nat.zero_add, Nat.add_zero, Nat.mul_one, ble_t, mul_nn, quo_nn, rem_nn, add_nn, sub_nn, lss_nn, eql_nn, neq_nn, xor_by, k0, k1, k2, k3, k4, k5, k6, k7, k8, k12, k13, k14, k15, k16, k32, k60, k254, k256, g23]
    refine ⟨by omega, ?_, g0, g2, g3, trivial⟩
    intro j
    by_cases hj : t = j
    · subst hj; simp only [getset, if_true]; rfl
    · simp only [getset, if_neg hj, hb]
  · intro a H1 ⟨hn, hb, h0, h2, h3, h23⟩
    refine W.seq (W.region ?_)
    simp only [w_mov, w_ibin, w_load1, w_loadN, w_nilCheck, w_indexArr, w_indexSl, w_indexVal, w_indexStr, w_lenStr, w_lenSl, w_store, w_alloc, w_box, w_build, w_sliceArr, w_bytesToStr, w_pick, WOps_nil, thenQ_normal, eX_t, eX_c, put_s, put_n, getset, Nat.reduceEqDiff, if_false, if_true, Option.getD_some, rd, natOf_nn, natOf_by, Option.some.injEq, exists_eq_left', Prod.mk.injEq, and_assoc, exists_and_left, true_and, Nat.zero_add, Nat.add_zero, Nat.mul_one, ble_t, mul_nn, quo_nn, rem_nn, add_nn, sub_nn, lss_nn, eql_nn, neq_nn, xor_by, k0, k1, k2, k3, k4, k5, k6, k7, k8, k12, k13, k14, k15, k16, k32, k60, k254, k256, h23]
    refine W.seq (W.cond (b := false) (by simp only [eX_t, eX_c, put_s, put_n, getset, Nat.reduceEqDiff, if_false, if_true, Option.getD_some]; simp) (W.exit ?_))
    refine ⟨nofun, ?_⟩
    simp only [blockQ_exit, Nat.beq_refl, cond_true, thenQ_normal]
    refine mix_d2 (T := mixK T o (T.getD o 0 ^^^ T.getD (o + 1) 0 ^^^ T.getD (o + 2) 0 ^^^ T.getD (o + 3) 0) 3) (o := o) (t := t) (e := e) (op := op) hE25 hx25 (by simp only [eX_t, eX_c, put_s, put_n, getset, Nat.reduceEqDiff, if_false, if_true, Option.getD_some]; exact h0) (by simp only [eX_t, eX_c, put_s, put_n, getset, Nat.reduceEqDiff, if_false, if_true, Option.getD_some]; exact h2) (by simp only [eX_t, eX_c, put_s, put_n, getset, Nat.reduceEqDiff, if_false, if_true, Option.getD_some]; exact h3) (by rw [length_mixK]; exact ho) (by rw [hb, if_pos rfl]) ?_
    intro a'
    refine ⟨.inl rfl, [], rfl, hQ _ (by show H1.next + 14 = _; omega) ?_⟩
    intro j
    by_cases hj : t = j
    · subst hj; simp only [getset, if_true]; rfl
    · simp only [getset, if_neg hj, hb]
  · refine ⟨by show H.next + 16 = _; omega, ?_, ?_, ?_, ?_, ?_⟩
    · intro j
      by_cases hj : t = j
      · subst hj; rw [if_pos rfl]; exact ht
      · rw [if_neg hj]
    · simp only [eX_t, eX_c, put_s, put_n, getset, Nat.reduceEqDiff, if_false, if_true, Option.getD_some, g0]
    · simp only [eX_t, eX_c, put_s, put_n, getset, Nat.reduceEqDiff, if_false, if_true, Option.getD_some, g2]
    · simp only [eX_t, eX_c, put_s, put_n, getset, Nat.reduceEqDiff, if_false, if_true, Option.getD_some]
    · simp only [eX_t, eX_c, put_s, put_n, getset, Nat.reduceEqDiff, if_false, if_true, Option.getD_some]
end Go.AE
end
-- Contracts of aes: encipher.
section
set_option linter.unusedVariables false
set_option linter.unusedSimpArgs false
set_option maxRecDepth 100000
namespace Go.AE
variable {E : Env}

/-- bytes through the box, rows turned -/
def subK (S : List UInt8) : Nat → List UInt8
  | 0 => List.replicate 16 0
  | i + 1 => (subK S i).set i (boxL.getD (S.getD ((i + 4 * (i % 4)) % 16) 0).toNat 0)

theorem length_subK (S : List UInt8) : ∀ i, (subK S i).length = 16
  | 0 => rfl
  | i + 1 => by rw [subK, List.length_set, length_subK S i]

def subDraw : ADraw := (ADraw.mk [(AOper.mk (some 18) (.mov (.tmp 7)) none), (AOper.mk (some 19) (.call (.const (.func (.func 24) [] [])) []) none), (AOper.mk (some 20) (.mov (.tmp 7)) none), (AOper.mk (some 21) (.mov (.tmp 7)) none), (AOper.mk (some 22) (.ibin .rem (.tmp 21) (.const (.int .i64 4))) none), (AOper.mk (some 23) (.ibin .mul (.const (.int .i64 4)) (.tmp 22)) none), (AOper.mk (some 24) (.ibin .add (.tmp 20) (.tmp 23)) none), (AOper.mk (some 25) (.ibin .rem (.tmp 24) (.const (.int .i64 16))) none), (AOper.mk (some 26) (.indexArr 16 1 (.tmp 3) (.tmp 25)) none), (AOper.mk (some 27) (.load1 (.tmp 26)) none), (AOper.mk (some 28) (.indexVal 256 1 (.tmp 19) (.tmp 27)) none), (AOper.mk (some 29) (.indexArr 16 1 (.tmp 6) (.tmp 18)) none), (AOper.mk none (.store 1 (.tmp 29) (.tmp 28)) none)] [0, 2, 3, 4, 5, 6, 7, 8, 9, 1, 10, 11, 12] [0, 0, 0, 0, 8, 24, 60, 124, 252, 508, 1022, 2047, 4095] [(0, 1), (0, 1), (0, 1), (0, 1), (0, 1), (0, 1), (0, 1), (0, 1), (0, 1), (0, 1), (1, 1), (1, 1), (1, 2)] false)
def subLoop : ACode := (.block 2 (.loop (.seq (.region [(AOper.mk (some 16) (.ibin .lss (.tmp 15) (.const (.int .i64 16))) none)]) (.seq (.cond (.tmp 16) .skip (.exit 2)) (.seq (.block 3 (.seq (.region [(AOper.mk (some 17) (.mov (.tmp 15)) none), (AOper.mk (some 7) (.mov (.tmp 17)) none)]) (.draw (ADraw.mk [(AOper.mk (some 18) (.mov (.tmp 7)) none), (AOper.mk (some 19) (.call (.const (.func (.func 24) [] [])) []) none), (AOper.mk (some 20) (.mov (.tmp 7)) none), (AOper.mk (some 21) (.mov (.tmp 7)) none), (AOper.mk (some 22) (.ibin .rem (.tmp 21) (.const (.int .i64 4))) none), (AOper.mk (some 23) (.ibin .mul (.const (.int .i64 4)) (.tmp 22)) none), (AOper.mk (some 24) (.ibin .add (.tmp 20) (.tmp 23)) none), (AOper.mk (some 25) (.ibin .rem (.tmp 24) (.const (.int .i64 16))) none), (AOper.mk (some 26) (.indexArr 16 1 (.tmp 3) (.tmp 25)) none), (AOper.mk (some 27) (.load1 (.tmp 26)) none), (AOper.mk (some 28) (.indexVal 256 1 (.tmp 19) (.tmp 27)) none), (AOper.mk (some 29) (.indexArr 16 1 (.tmp 6) (.tmp 18)) none), (AOper.mk none (.store 1 (.tmp 29) (.tmp 28)) none)] [0, 2, 3, 4, 5, 6, 7, 8, 9, 1, 10, 11, 12] [0, 0, 0, 0, 8, 24, 60, 124, 252, 508, 1022, 2047, 4095] [(0, 1), (0, 1), (0, 1), (0, 1), (0, 1), (0, 1), (0, 1), (0, 1), (0, 1), (0, 1), (1, 1), (1, 1), (1, 2)] false)))) (.region [(AOper.mk (some 30) (.ibin .add (.tmp 15) (.const (.int .i64 1))) none), (AOper.mk (some 15) (.mov (.tmp 30)) none)]))))))
def mixLoop : ACode := (.block 4 (.loop (.seq (.seq (.region [(AOper.mk (some 33) (.mov (.tmp 9)) none), (AOper.mk (some 34) (.ibin .lss (.tmp 33) (.const (.int .i64 16))) none)]) (.cond (.tmp 34) .skip (.exit 4))) (.seq (.block 5 (.region [(AOper.mk (some 37) (.mov (.tmp 8)) none), (AOper.mk (some 38) (.mov (.tmp 9)) none), (AOper.mk (some 39) (.mov (.tmp 9)) none), (AOper.mk (some 40) (.ibin .add (.tmp 39) (.const (.int .i64 4))) none), (AOper.mk (some 41) (.sliceArr 16 1 (.tmp 6) (some (.tmp 38)) (some (.tmp 40)) none) none), (AOper.mk (some 42) (.call (.tmp 37) [(.tmp 41)]) none)])) (.region [(AOper.mk (some 35) (.mov (.tmp 9)) none), (AOper.mk (some 36) (.ibin .add (.tmp 35) (.const (.int .i64 4))) none), (AOper.mk (some 9) (.mov (.tmp 36)) none)])))))

theorem idx_box {b : UInt8} : (bs boxL)[b.toNat * 1]? = some (by' (boxL.getD b.toNat 0)) := by
  rw [Nat.mul_one]
  exact getbs (by rw [length_boxL]; exact b.toNat_lt)

theorem sub_d (hE : E.funcs 24 = some Aes.af24) (hx : ∀ args H, E.sums 24 args H = none) {a : Frm} {H : Heap} {s t i : Nat} {S X : List UInt8} {e e' : TypeId} {op : Bool} (h3 : a.get 3 = some (.ptr (some (s, 0)))) (h6 : a.get 6 = some (.ptr (some (t, 0))))
    (h7 : a.get 7 = some (nn i)) (hi : i < 16) (hS : S.length = 16) (hX : X.length = 16) (hsn : s < H.next) (htn : t < H.next)
    (hs : H.t.get s = some (.cells (bs S) e op false)) (ht : H.t.get t = some (.cells (bs X) e' false false)) {Q : AExit → Frm → Heap → Prop}
    (hQ : ∀ a' H', a'.get 0 = a.get 0 → a'.get 3 = a.get 3 → a'.get 4 = a.get 4 → a'.get 5 = a.get 5 → a'.get 6 = a.get 6 → a'.get 12 = a.get 12 → a'.get 15 = a.get 15 →
      H'.next = H.next + 14 → (∀ j, j < H.next → H'.t.get j = if t = j then some (.cells (bs (X.set i (boxL.getD (S.getD ((i + 4 * (i % 4)) % 16) 0).toNat 0))) e' false false) else H.t.get j) → Q .normal a' H') : W E (.draw subDraw) a H Q := by
  refine W_draw (l := _) rfl (N := 13) rfl ?_
  have e0 := getbs (S := S) (i := (i + 4 * (i % 4)) % 16) (by omega)
  simp (disch := omega) only [subDraw, l_mov, l_ibin, l_load1, l_loadN, l_nilCheck, l_indexArr, l_indexSl, l_indexVal, l_indexStr, l_lenStr, l_lenSl, l_store, l_build, WL_nil, eX_t, eX_c, put_s, put_n, getset, Nat.reduceEqDiff, if_false, if_true, Option.getD_some, rd, natOf_nn, natOf_by, Option.some.injEq, exists_eq_left', Prod.mk.injEq, and_assoc, exists_and_left, true_and, Nat.zero_add, Nat.add_zero, Nat.mul_one, ble_t, mul_nn, quo_nn, rem_nn, add_nn, sub_nn, lss_nn, eql_nn, neq_nn, xor_by, k0, k1, k2, k3, k4, k5, k6, k7, k8, k12, k13, k14, k15, k16, k32, k60, k254, k256, h3, h6, h7, load_blk' hs, e0]
  refine WL_call rfl ?_
  simp only [List.map_nil, List.nil_append, List.append_nil]
  refine box_ok hE (hx _ _) ?_
  intro H1 hn hb
  obtain ⟨T1, n1⟩ := H1
  simp only at hn hb
  subst hn
  have hs1 : T1.get s = some (.cells (bs S) e op false) := by rw [hb s (by omega)]; exact hs
  have ht1 : T1.get t = some (.cells (bs X) e' false false) := by rw [hb t (by omega)]; exact ht
  have hbl : (S.getD ((i + 4 * (i % 4)) % 16) 0).toNat < 256 := UInt8.toNat_lt _
  simp (disch := omega) only [l_mov, l_ibin, l_load1, l_loadN, l_nilCheck, l_indexArr, l_indexSl, l_indexVal, l_indexStr, l_lenStr, l_lenSl, l_store, l_build, WL_nil, eX_t, eX_c, put_s, put_n, getset, Nat.reduceEqDiff, if_false, if_true, Option.getD_some, rd, natOf_nn, natOf_by, Option.some.injEq, exists_eq_left', Prod.mk.injEq, and_assoc, exists_and_left, true_and, Nat.zero_add, Nat.add_zero, Nat.mul_one, ble_t, mul_nn, quo_nn, rem_nn, add_nn, sub_nn, lss_nn, eql_nn, neq_nn, xor_by, k0, k1, k2, k3, k4, k5, k6, k7, k8, k12, k13, k14, k15, k16, k32, k60, k254, k256, h3, h6, h7, ble_t hbl, getbs (S := boxL) hbl]
  simp (disch := omega) only [wr0_store, l_mov, l_ibin, l_load1, l_loadN, l_nilCheck, l_indexArr, l_indexSl, l_indexVal, l_indexStr, l_lenStr, l_lenSl, l_store, l_build, WL_nil, eX_t, eX_c, put_s, put_n, getset, Nat.reduceEqDiff, if_false, if_true, Option.getD_some, rd, natOf_nn, natOf_by, Option.some.injEq, exists_eq_left', Prod.mk.injEq, and_assoc, exists_and_left, true_and, Nat.zero_add, Nat.add_zero, Nat.mul_one, ble_t, mul_nn, quo_nn, rem_nn, add_nn, sub_nn, lss_nn, eql_nn, neq_nn, xor_by, wst_by ht1]
  refine ⟨?_, _, _, rfl, ?_⟩
  · simp only [stable_cons, stable_nil, sm_mov, sm_ibin, sm_nilCheck, sm_indexArr, sm_indexSl, sm_indexVal, sm_indexStr, sm_lenStr, sm_lenSl, sm_build, sm_store, sm_call, Bool.true_and, Bool.and_true, Bool.and_eq_true, List.reverse_cons, List.reverse_nil, List.nil_append, List.cons_append, List.drop_zero, List.drop_succ_cons, Nat.sub_zero, Nat.succ_eq_add_one, Nat.zero_add, Nat.reduceAdd, Nat.reduceSub, List.take_succ_cons, List.take_zero, List.take_nil]
    refine sm_load1 rfl (b := s) (o := (i + 4 * (i % 4)) % 16) (v := by' (S.getD ((i + 4 * (i % 4)) % 16) 0)) ?_ ?_ ?_ (AVbeq_by _)
    · simp only [eX_t, eX_c, put_s, put_n, getset, Nat.reduceEqDiff, if_false, if_true, Option.getD_some]
    · simp only [eX_t, eX_c, put_s, put_n, getset, Nat.reduceEqDiff, if_false, if_true, Option.getD_some]
    · intro H' hH'
      simp only [List.mem_cons, List.not_mem_nil, or_false] at hH'
      rcases hH' with rfl | rfl
      · simp only [load_blk' hs, e0]
      · simp only [load_blk' hs1, e0]
  · refine hQ _ _ ?_ ?_ ?_ ?_ ?_ ?_ ?_ rfl ?_
    all_goals first
      | (simp only [getset, Nat.reduceEqDiff, if_false]; done)
      | skip
    intro j hj
    simp only [getset]
    by_cases h : t = j
    · subst h; simp only [if_true]
    · rw [if_neg h, if_neg h, hb j (by omega)]

theorem sub_ok (hE : E.funcs 24 = some Aes.af24) (hx : ∀ args H, E.sums 24 args H = none) {a : Frm} {H : Heap} {s t : Nat} {S : List UInt8} {e e' : TypeId} {op : Bool} (h3 : a.get 3 = some (.ptr (some (s, 0)))) (h6 : a.get 6 = some (.ptr (some (t, 0))))
    (h15 : a.get 15 = some (nn 0)) (hS : S.length = 16) (hsn : s < H.next) (htn : t < H.next) (hst : t ≠ s)
    (hs : H.t.get s = some (.cells (bs S) e op false)) (ht : H.t.get t = some (.cells (bs (List.replicate 16 0)) e' false false)) {Q : AExit → Frm → Heap → Prop}
    (hQ : ∀ a' H', a'.get 0 = a.get 0 → a'.get 3 = a.get 3 → a'.get 4 = a.get 4 → a'.get 5 = a.get 5 → a'.get 6 = a.get 6 → a'.get 12 = a.get 12 →
      H.next ≤ H'.next → (∀ j, j < H.next → H'.t.get j = if t = j then some (.cells (bs (subK S 16)) e' false false) else H.t.get j) → Q .normal a' H') : W E subLoop a H Q := by
  refine W.block ?_
  refine W.count 16 (fun i a' H' => H.next ≤ H'.next ∧ (∀ j, j < H.next → H'.t.get j = if t = j then some (.cells (bs (subK S i)) e' false false) else H.t.get j) ∧ a'.get 0 = a.get 0 ∧ a'.get 3 = a.get 3 ∧ a'.get 4 = a.get 4 ∧ a'.get 5 = a.get 5 ∧ a'.get 6 = a.get 6 ∧ a'.get 12 = a.get 12 ∧ a'.get 15 = some (nn i)) ?_ ?_ 0 _ H (by omega) ?_
  · intro i a1 H1 hi ⟨hn, hb, g0, g3, g4, g5, g6, g12, g15⟩
    refine W.seq (W.region ?_)
    simp only [w_mov, w_ibin, w_load1, w_loadN, w_nilCheck, w_indexArr, w_indexSl, w_indexVal, w_indexStr, w_lenStr, w_lenSl, w_store, w_alloc, w_box, w_build, w_sliceArr, w_bytesToStr, w_pick, WOps_nil, thenQ_normal, eX_t, eX_c, put_s, put_n, getset, Nat.reduceEqDiff, if_false, if_true, Option.getD_some, rd, natOf_nn, natOf_by, Option.some.injEq, exists_eq_left', Prod.mk.injEq, and_assoc, exists_and_left, true_and, Nat.zero_add, Nat.add_zero, Nat.mul_one, ble_t, mul_nn, quo_nn, rem_nn, add_nn, sub_nn, lss_nn, eql_nn, neq_nn, xor_by, k0, k1, k2, k3, k4, k5, k6, k7, k8, k12, k13, k14, k15, k16, k32, k60, k254, k256, g15]
    refine W.seq (W.cond (b := true) (by simp only [eX_t, eX_c, put_s, put_n, getset, Nat.reduceEqDiff, if_false, if_true, Option.getD_some]; simp [hi]) (W.skip ?_))
    rw [thenQ_normal]
    refine W.seq (W.block (W.seq (W.region ?_)))
    simp only [w_mov, w_ibin, w_load1, w_loadN, w_nilCheck, w_indexArr, w_indexSl, w_indexVal, w_indexStr, w_lenStr, w_lenSl, w_store, w_alloc, w_box, w_build, w_sliceArr, w_bytesToStr, w_pick, WOps_nil, thenQ_normal, eX_t, eX_c, put_s, put_n, getset, Nat.reduceEqDiff, if_false, if_true, Option.getD_some, rd, natOf_nn, natOf_by, Option.some.injEq, exists_eq_left', Prod.mk.injEq, and_assoc, exists_and_left, true_and, Nat.zero_add, Nat.add_zero, Nat.mul_one, ble_t, mul_nn, quo_nn, rem_nn, add_nn, sub_nn, lss_nn, eql_nn, neq_nn, xor_by, k0, k1, k2, k3, k4, k5, k6, k7, k8, k12, k13, k14, k15, k16, k32, k60, k254, k256, g15]
    refine sub_d (S := S) (X := subK S i) (i := i) (s := s) (t := t) (e := e) (e' := e') (op := op) hE hx (by simp only [eX_t, eX_c, put_s, put_n, getset, Nat.reduceEqDiff, if_false, if_true, Option.getD_some]; rw [g3]; exact h3) (by simp only [eX_t, eX_c, put_s, put_n, getset, Nat.reduceEqDiff, if_false, if_true, Option.getD_some]; rw [g6]; exact h6) (by simp only [eX_t, eX_c, put_s, put_n, getset, Nat.reduceEqDiff, if_false, if_true, Option.getD_some]) hi hS (length_subK S i) (by omega) (by omega) (by rw [hb s hsn, if_neg hst]; exact hs) (by rw [hb t htn, if_pos rfl]) ?_
    intro a' H' f0 f3 f4 f5 f6 f12 f15 fn fb
    simp only [getset, Nat.reduceEqDiff, if_false] at f0 f3 f4 f5 f6 f12 f15
    simp only [blockQ_normal, thenQ_normal]
    refine W.region ?_
    rw [g15] at f15
    simp (disch := omega) only [w_mov, w_ibin, w_load1, w_loadN, w_nilCheck, w_indexArr, w_indexSl, w_indexVal, w_indexStr, w_lenStr, w_lenSl, w_store, w_alloc, w_box, w_build, w_sliceArr, w_bytesToStr, w_pick, WOps_nil, thenQ_normal, eX_t, eX_c, put_s, put_n, getset, Nat.reduceEqDiff, if_false, if_true, Option.getD_some, rd, natOf_nn, natOf_by, Option.some.injEq, exists_eq_left', Prod.mk.injEq, and_assoc, exists_and_left, true_and, Nat.zero_add, Nat.add_zero, Nat.mul_one, ble_t, mul_nn, quo_nn, rem_nn, add_nn, sub_nn, lss_nn, eql_nn, neq_nn, xor_by, k0, k1, k2, k3, k4, k5, k6, k7, k8, k12, k13, k14, k15, k16, k32, k60, k254, k256, f15]
    refine ⟨by omega, ?_, f0.trans g0, f3.trans g3, f4.trans g4, f5.trans g5, f6.trans g6, f12.trans g12, trivial⟩
    intro j hj
    rw [fb j (by omega)]
    by_cases h : t = j
    · rw [if_pos h, if_pos h]; rfl
    · rw [if_neg h, if_neg h, hb j hj, if_neg h]
  · intro a1 H1 ⟨hn, hb, g0, g3, g4, g5, g6, g12, g15⟩
    refine W.seq (W.region ?_)
    simp only [w_mov, w_ibin, w_load1, w_loadN, w_nilCheck, w_indexArr, w_indexSl, w_indexVal, w_indexStr, w_lenStr, w_lenSl, w_store, w_alloc, w_box, w_build, w_sliceArr, w_bytesToStr, w_pick, WOps_nil, thenQ_normal, eX_t, eX_c, put_s, put_n, getset, Nat.reduceEqDiff, if_false, if_true, Option.getD_some, rd, natOf_nn, natOf_by, Option.some.injEq, exists_eq_left', Prod.mk.injEq, and_assoc, exists_and_left, true_and, Nat.zero_add, Nat.add_zero, Nat.mul_one, ble_t, mul_nn, quo_nn, rem_nn, add_nn, sub_nn, lss_nn, eql_nn, neq_nn, xor_by, k0, k1, k2, k3, k4, k5, k6, k7, k8, k12, k13, k14, k15, k16, k32, k60, k254, k256, g15]
    refine W.seq (W.cond (b := false) (by simp only [eX_t, eX_c, put_s, put_n, getset, Nat.reduceEqDiff, if_false, if_true, Option.getD_some]; simp) (W.exit ?_))
    refine ⟨nofun, ?_⟩
    simp only [blockQ_exit, Nat.beq_refl, cond_true]
    refine hQ _ _ ?_ ?_ ?_ ?_ ?_ ?_ hn hb <;> simp only [getset, Nat.reduceEqDiff, if_false] <;> assumption
  · refine ⟨Nat.le_refl _, ?_, rfl, rfl, rfl, rfl, rfl, rfl, h15⟩
    intro j hj
    by_cases h : t = j
    · subst h; rw [if_pos rfl]; exact ht
    · rw [if_neg h]

/-- the columns mixed, so many -/
def mixN (T : List UInt8) : Nat → List UInt8
  | 0 => T
  | i + 1 => mixP (mixN T i) (4 * i)

theorem length_mixN (T : List UInt8) : ∀ i, (mixN T i).length = T.length
  | 0 => rfl
  | i + 1 => by rw [mixN, length_mixP, length_mixN T i]

theorem k4' : nn 4 = nn 4 := rfl
theorem sliceArr_nn {n b o : Nat} {a : Frm} {H : Heap} {x l h : AX} {lo hi : Nat} (hx : evalX a x = .ptr (some (b, o))) (hl : evalX a l = nn lo) (hh : evalX a h = nn hi) (h1 : lo ≤ hi) (h2 : hi ≤ n) :
    ∃ cap o', rd (.sliceArr n 1 x (some l) (some h) none) a H = some (.slice (some (b, o')) (hi - lo) cap) ∧ (lo < n → o' = o + lo) := by
  have e1 : Nat.ble hi n = true := by rw [Nat.ble_eq]; exact h2
  have e2 : Nat.ble lo hi = true := by rw [Nat.ble_eq]; exact h1
  have eb : bounds a n n (some l) (some h) none = some (lo, hi, n) := by
    delta bounds
    simp only [bound, hh, natOf_nn, e1, cond_true, hl, e2]
  simp only [rd, hx, eb]
  refine ⟨_, _, rfl, fun h => ?_⟩
  have : Nat.beq n lo = false := by cases h3 : Nat.beq n lo with | false => rfl | true => exact absurd (Nat.eq_of_beq_eq_true h3) (by omega)
  rw [this, cond_false, Nat.mul_one]

theorem mixes_ok (hE : ∀ f, E.funcs f = Aes.funcsT.get f) (hx : ∀ f args H, special f = false → E.sums f args H = none) {a : Frm} {H : Heap} {t : Nat} {T : List UInt8} {e' : TypeId} (h6 : a.get 6 = some (.ptr (some (t, 0)))) (h8 : a.get 8 = some (.func (.func 27) [] []))
    (h9 : a.get 9 = some (nn 0)) (hT : T.length = 16) 
    (ht : H.t.get t = some (.cells (bs T) e' false false)) {Q : AExit → Frm → Heap → Prop}
    (hQ : ∀ a' H', a'.get 0 = a.get 0 → a'.get 3 = a.get 3 → a'.get 4 = a.get 4 → a'.get 5 = a.get 5 → a'.get 6 = a.get 6 → a'.get 12 = a.get 12 →
      H.next ≤ H'.next → (∀ j, H'.t.get j = if t = j then some (.cells (bs (mixN T 4)) e' false false) else H.t.get j) → Q .normal a' H') : W E mixLoop a H Q := by
  refine W.block ?_
  refine W.count 4 (fun i a' H' => H.next ≤ H'.next ∧ (∀ j, H'.t.get j = if t = j then some (.cells (bs (mixN T i)) e' false false) else H.t.get j) ∧ a'.get 0 = a.get 0 ∧ a'.get 3 = a.get 3 ∧ a'.get 4 = a.get 4 ∧ a'.get 5 = a.get 5 ∧ a'.get 6 = a.get 6 ∧ a'.get 8 = a.get 8 ∧ a'.get 12 = a.get 12 ∧ a'.get 9 = some (nn (4 * i))) ?_ ?_ 0 _ H (by omega) ?_
  · intro i a1 H1 hi ⟨hn, hb, g0, g3, g4, g5, g6, g8, g12, g9⟩
    rw [h6] at g6
    rw [h8] at g8
    refine W.seq (W.seq (W.region ?_))
    simp only [w_mov, w_ibin, w_load1, w_loadN, w_nilCheck, w_indexArr, w_indexSl, w_indexVal, w_indexStr, w_lenStr, w_lenSl, w_store, w_alloc, w_box, w_build, w_sliceArr, w_bytesToStr, w_pick, WOps_nil, thenQ_normal, eX_t, eX_c, put_s, put_n, getset, Nat.reduceEqDiff, if_false, if_true, Option.getD_some, rd, natOf_nn, natOf_by, Option.some.injEq, exists_eq_left', Prod.mk.injEq, and_assoc, exists_and_left, true_and, Nat.zero_add, Nat.add_zero, Nat.mul_one, ble_t, mul_nn, quo_nn, rem_nn, add_nn, sub_nn, lss_nn, eql_nn, neq_nn, xor_by, k0, k1, k2, k3, k4, k5, k6, k7, k8, k12, k13, k14, k15, k16, k32, k60, k254, k256, g9]
    refine W.cond (b := true) (by simp only [eX_t, eX_c, put_s, put_n, getset, Nat.reduceEqDiff, if_false, if_true, Option.getD_some]; simp; omega) (W.skip ?_)
    rw [thenQ_normal]
    refine W.seq (W.block (W.region ?_))
    simp (disch := omega) only [w_mov, w_ibin, add_nn, eX_t, eX_c, put_s, put_n, getset, Nat.reduceEqDiff, if_false, if_true, Option.getD_some, k0, k1, k2, k3, k4, k5, k6, k7, k8, k12, k13, k14, k15, k16, k32, k60, k254, k256, Option.some.injEq, exists_eq_left', g9, g8]
    obtain ⟨cap, o', hr, ho'⟩ := sliceArr_nn (n := 16) (b := t) (o := 0) (a := ((((a1.set 33 (nn (4 * i))).set 34 (.bool (decide (4 * i < 16)))).set 37 (.func (.func 27) [] [])).set 38 (nn (4 * i))).set 39 (nn (4 * i)) |>.set 40 (nn (4 * i + 4))) (H := H1) (x := .tmp 6) (l := .tmp 38) (h := .tmp 40) (lo := 4 * i) (hi := 4 * i + 4) (by simp only [eX_t, eX_c, put_s, put_n, getset, Nat.reduceEqDiff, if_false, if_true, Option.getD_some, g6]) (by simp only [eX_t, eX_c, put_s, put_n, getset, Nat.reduceEqDiff, if_false, if_true, Option.getD_some]) (by simp only [eX_t, eX_c, put_s, put_n, getset, Nat.reduceEqDiff, if_false, if_true, Option.getD_some]) (by omega) (by omega)
    obtain rfl : o' = 4 * i := by have := ho' (by omega); omega
    have e4 : 4 * i + 4 - 4 * i = 4 := by omega
    rw [e4] at hr
    rw [w_sliceArr]
    refine ⟨_, hr, ?_⟩
    refine WOps.call (g := 27) (first := []) (captured := []) (by simp only [eX_t, eX_c, put_s, put_n, getset, Nat.reduceEqDiff, if_false, if_true, Option.getD_some]) ?_
    simp only [List.map_cons, List.map_nil, List.nil_append, List.append_nil, eX_t, eX_c, put_s, put_n, getset, Nat.reduceEqDiff, if_false, if_true, Option.getD_some]
    refine mix_ok hE hx (T := mixN T i) (e := e') (op := false) (by rw [length_mixN]; omega) (by rw [hb, if_pos rfl]) ?_
    intro H2 hn2 hb2
    simp only [WOps_nil, blockQ_normal, thenQ_normal]
    refine W.region ?_
    simp (disch := omega) only [w_mov, w_ibin, w_load1, w_loadN, w_nilCheck, w_indexArr, w_indexSl, w_indexVal, w_indexStr, w_lenStr, w_lenSl, w_store, w_alloc, w_box, w_build, w_sliceArr, w_bytesToStr, w_pick, WOps_nil, thenQ_normal, eX_t, eX_c, put_s, put_n, getset, Nat.reduceEqDiff, if_false, if_true, Option.getD_some, rd, natOf_nn, natOf_by, Option.some.injEq, exists_eq_left', Prod.mk.injEq, and_assoc, exists_and_left, true_and, Nat.zero_add, Nat.add_zero, Nat.mul_one, ble_t, mul_nn, quo_nn, rem_nn, add_nn, sub_nn, lss_nn, eql_nn, neq_nn, xor_by, k0, k1, k2, k3, k4, k5, k6, k7, k8, k12, k13, k14, k15, k16, k32, k60, k254, k256, g9]
    refine ⟨by omega, ?_, g0, g3, g4, g5, by rw [g6, h6], by rw [g8, h8], g12, by rw [Nat.mul_succ]⟩
    intro j
    rw [hb2]
    by_cases h : t = j
    · rw [if_pos h, if_pos h]; rfl
    · rw [if_neg h, if_neg h, hb j, if_neg h]
  · intro a1 H1 ⟨hn, hb, g0, g3, g4, g5, g6, g8, g12, g9⟩
    refine W.seq (W.seq (W.region ?_))
    simp only [w_mov, w_ibin, w_load1, w_loadN, w_nilCheck, w_indexArr, w_indexSl, w_indexVal, w_indexStr, w_lenStr, w_lenSl, w_store, w_alloc, w_box, w_build, w_sliceArr, w_bytesToStr, w_pick, WOps_nil, thenQ_normal, eX_t, eX_c, put_s, put_n, getset, Nat.reduceEqDiff, if_false, if_true, Option.getD_some, rd, natOf_nn, natOf_by, Option.some.injEq, exists_eq_left', Prod.mk.injEq, and_assoc, exists_and_left, true_and, Nat.zero_add, Nat.add_zero, Nat.mul_one, ble_t, mul_nn, quo_nn, rem_nn, add_nn, sub_nn, lss_nn, eql_nn, neq_nn, xor_by, k0, k1, k2, k3, k4, k5, k6, k7, k8, k12, k13, k14, k15, k16, k32, k60, k254, k256, g9]
    refine W.cond (b := false) (by simp only [eX_t, eX_c, put_s, put_n, getset, Nat.reduceEqDiff, if_false, if_true, Option.getD_some]; simp) (W.exit ?_)
    rw [thenQ_exit]
    refine ⟨nofun, ?_⟩
    simp only [blockQ_exit, Nat.beq_refl, cond_true]
    refine hQ _ _ ?_ ?_ ?_ ?_ ?_ ?_ hn hb <;> simp only [getset, Nat.reduceEqDiff, if_false] <;> assumption
  · refine ⟨Nat.le_refl _, ?_, rfl, rfl, rfl, rfl, rfl, rfl, rfl, h9⟩
    intro j
    by_cases h : t = j
    · subst h; rw [if_pos rfl]; exact ht
    · rw [if_neg h]
end Go.AE
end
-- Contracts of aes: encipher.
section
set_option linter.unusedVariables false
set_option linter.unusedSimpArgs false
set_option maxRecDepth 100000
set_option maxHeartbeats 600000
namespace Go.AE
variable {E : Env}

/-- one round -/
def roundP (C S : List UInt8) (r : Nat) : List UInt8 := addK (bif decide (r < 13) then mixN (subK S 16) 4 else subK S 16) C (r + 1) 16

def roundsP (C S : List UInt8) : Nat → List UInt8
  | 0 => addK S C 0 16
  | r + 1 => roundP C (roundsP C S r) r

theorem length_roundP (C S : List UInt8) (r : Nat) : (roundP C S r).length = 16 := by
  unfold roundP
  rw [length_addK]
  cases decide (r < 13)
  · rw [cond_false, length_subK]
  · rw [cond_true, length_mixN, length_subK]

theorem length_roundsP {C S : List UInt8} (h : S.length = 16) : ∀ r, (roundsP C S r).length = 16
  | 0 => by rw [roundsP, length_addK, h]
  | r + 1 => by rw [roundsP, length_roundP]

def encLoop : ACode := (.block 0 (.loop (.seq (.region [(AOper.mk (some 13) (.ibin .lss (.tmp 12) (.const (.int .i64 14))) none)]) (.seq (.cond (.tmp 13) .skip (.exit 0)) (.seq (.block 1 (.seq (.region [(AOper.mk (some 14) (.mov (.tmp 12)) none), (AOper.mk (some 5) (.mov (.tmp 14)) none)]) (.seq (.region [(AOper.mk (some 6) (.alloc 38 [(.int .u8 0), (.int .u8 0), (.int .u8 0), (.int .u8 0), (.int .u8 0), (.int .u8 0), (.int .u8 0), (.int .u8 0), (.int .u8 0), (.int .u8 0), (.int .u8 0), (.int .u8 0), (.int .u8 0), (.int .u8 0), (.int .u8 0), (.int .u8 0)]) none)]) (.seq (.seq (.region [(AOper.mk (some 15) (.mov (.const (.int .i64 0))) none)]) (.block 2 (.loop (.seq (.region [(AOper.mk (some 16) (.ibin .lss (.tmp 15) (.const (.int .i64 16))) none)]) (.seq (.cond (.tmp 16) .skip (.exit 2)) (.seq (.block 3 (.seq (.region [(AOper.mk (some 17) (.mov (.tmp 15)) none), (AOper.mk (some 7) (.mov (.tmp 17)) none)]) (.draw (ADraw.mk [(AOper.mk (some 18) (.mov (.tmp 7)) none), (AOper.mk (some 19) (.call (.const (.func (.func 24) [] [])) []) none), (AOper.mk (some 20) (.mov (.tmp 7)) none), (AOper.mk (some 21) (.mov (.tmp 7)) none), (AOper.mk (some 22) (.ibin .rem (.tmp 21) (.const (.int .i64 4))) none), (AOper.mk (some 23) (.ibin .mul (.const (.int .i64 4)) (.tmp 22)) none), (AOper.mk (some 24) (.ibin .add (.tmp 20) (.tmp 23)) none), (AOper.mk (some 25) (.ibin .rem (.tmp 24) (.const (.int .i64 16))) none), (AOper.mk (some 26) (.indexArr 16 1 (.tmp 3) (.tmp 25)) none), (AOper.mk (some 27) (.load1 (.tmp 26)) none), (AOper.mk (some 28) (.indexVal 256 1 (.tmp 19) (.tmp 27)) none), (AOper.mk (some 29) (.indexArr 16 1 (.tmp 6) (.tmp 18)) none), (AOper.mk none (.store 1 (.tmp 29) (.tmp 28)) none)] [0, 2, 3, 4, 5, 6, 7, 8, 9, 1, 10, 11, 12] [0, 0, 0, 0, 8, 24, 60, 124, 252, 508, 1022, 2047, 4095] [(0, 1), (0, 1), (0, 1), (0, 1), (0, 1), (0, 1), (0, 1), (0, 1), (0, 1), (0, 1), (1, 1), (1, 1), (1, 2)] false)))) (.region [(AOper.mk (some 30) (.ibin .add (.tmp 15) (.const (.int .i64 1))) none), (AOper.mk (some 15) (.mov (.tmp 30)) none)]))))))) (.seq (.region [(AOper.mk (some 8) (.mov (.const (.func (.func 27) [] []))) none)]) (.seq (.seq (.region [(AOper.mk (some 31) (.mov (.tmp 5)) none), (AOper.mk (some 32) (.ibin .lss (.tmp 31) (.const (.int .i64 13))) none)]) (.cond (.tmp 32) (.seq (.region [(AOper.mk (some 9) (.mov (.const (.int .i64 0))) none)]) (.block 4 (.loop (.seq (.seq (.region [(AOper.mk (some 33) (.mov (.tmp 9)) none), (AOper.mk (some 34) (.ibin .lss (.tmp 33) (.const (.int .i64 16))) none)]) (.cond (.tmp 34) .skip (.exit 4))) (.seq (.block 5 (.region [(AOper.mk (some 37) (.mov (.tmp 8)) none), (AOper.mk (some 38) (.mov (.tmp 9)) none), (AOper.mk (some 39) (.mov (.tmp 9)) none), (AOper.mk (some 40) (.ibin .add (.tmp 39) (.const (.int .i64 4))) none), (AOper.mk (some 41) (.sliceArr 16 1 (.tmp 6) (some (.tmp 38)) (some (.tmp 40)) none) none), (AOper.mk (some 42) (.call (.tmp 37) [(.tmp 41)]) none)])) (.region [(AOper.mk (some 35) (.mov (.tmp 9)) none), (AOper.mk (some 36) (.ibin .add (.tmp 35) (.const (.int .i64 4))) none), (AOper.mk (some 9) (.mov (.tmp 36)) none)])))))) .skip)) (.seq (.region [(AOper.mk (some 43) (.mov (.tmp 0)) none), (AOper.mk (some 44) (.mov (.tmp 5)) none), (AOper.mk (some 45) (.ibin .add (.tmp 44) (.const (.int .i64 1))) none), (AOper.mk (some 46) (.call (.const (.func (.func 26) [] [])) [(.tmp 43), (.tmp 6), (.tmp 45)]) none)]) (.region [(AOper.mk (some 47) (.loadN 16 (.tmp 6)) none), (AOper.mk none (.store 16 (.tmp 3) (.tmp 47)) none)])))))))) (.region [(AOper.mk (some 48) (.ibin .add (.tmp 12) (.const (.int .i64 1))) none), (AOper.mk (some 12) (.mov (.tmp 48)) none)]))))))

theorem get_push (H : Heap) (x : ABlk) (j : Nat) : (H.push x).t.get j = if H.next = j then some x else H.t.get j := by simp only [Heap.push, T.get_set]
theorem next_push (H : Heap) (x : ABlk) : (H.push x).next = H.next + 1 := rfl

theorem zero16 : [AV.int .u8 0, .int .u8 0, .int .u8 0, .int .u8 0, .int .u8 0, .int .u8 0, .int .u8 0, .int .u8 0, .int .u8 0, .int .u8 0, .int .u8 0, .int .u8 0, .int .u8 0, .int .u8 0, .int .u8 0, .int .u8 0] = bs (List.replicate 16 0) := rfl

theorem rounds_ok (hE : ∀ f, E.funcs f = Aes.funcsT.get f) (hx : ∀ f args H, special f = false → E.sums f args H = none) {a : Frm} {H : Heap} {n0 c s z : Nat} {S C Z : List UInt8} {e' e2 : TypeId} {op' ro' : Bool}
    (h0 : a.get 0 = some (.ptr (some (c, 0)))) (h3 : a.get 3 = some (.ptr (some (s, 0)))) (h12 : a.get 12 = some (nn 0))
    (hS : S.length = 16) (hC : C.length = 240) (hcs : s ≠ c) (hsn : s < H.next) (hcn : c < H.next)
    (hs : H.t.get s = some (.cells (bs (addK S C 0 16)) 38 false false)) (hc : H.t.get c = some (.cells (bs C) e' op' ro')) {Q : AExit → Frm → Heap → Prop}
    (hQ : ∀ a' H', a'.get 3 = a.get 3 → a'.get 4 = a.get 4 → H.next ≤ H'.next → (∀ j, j < H.next → H'.t.get j = if s = j then some (.cells (bs (roundsP C S 14)) 38 false false) else H.t.get j) → Q .normal a' H') : W E encLoop a H Q := by
  have hE24 : E.funcs 24 = some Aes.af24 := (hE 24).trans rfl
  have hx24 : ∀ args H, E.sums 24 args H = none := fun args H => hx 24 args H (by decide)
  have hE26 : E.funcs 26 = some Aes.af26 := (hE 26).trans rfl
  have hx26 : ∀ args H, E.sums 26 args H = none := fun args H => hx 26 args H (by decide)
  refine W.block ?_
  refine W.count 14 (fun r a' H' => H.next ≤ H'.next ∧ (∀ j, j < H.next → H'.t.get j = if s = j then some (.cells (bs (roundsP C S r)) 38 false false) else H.t.get j) ∧ a'.get 0 = a.get 0 ∧ a'.get 3 = a.get 3 ∧ a'.get 4 = a.get 4 ∧ a'.get 12 = some (nn r)) ?_ ?_ 0 _ H (by omega) ?_
  · intro r a1 H1 hr ⟨hn, hb, g0, g3, g4, g12⟩
    rw [h0] at g0
    rw [h3] at g3
    refine W.seq (W.region ?_)
    simp only [w_mov, w_ibin, w_load1, w_loadN, w_nilCheck, w_indexArr, w_indexSl, w_indexVal, w_indexStr, w_lenStr, w_lenSl, w_store, w_alloc, w_box, w_build, w_sliceArr, w_bytesToStr, w_pick, WOps_nil, thenQ_normal, eX_t, eX_c, put_s, put_n, getset, Nat.reduceEqDiff, if_false, if_true, Option.getD_some, rd, natOf_nn, natOf_by, Option.some.injEq, exists_eq_left', Prod.mk.injEq, and_assoc, exists_and_left, true_and, Nat.zero_add, Nat.add_zero, Nat.mul_one, ble_t, mul_nn, quo_nn, rem_nn, add_nn, sub_nn, lss_nn, eql_nn, neq_nn, xor_by, k0, k1, k2, k3, k4, k5, k6, k7, k8, k12, k13, k14, k15, k16, k32, k60, k254, k256, g12]
    refine W.seq (W.cond (b := true) (by simp only [eX_t, eX_c, put_s, put_n, getset, Nat.reduceEqDiff, if_false, if_true, Option.getD_some]; simp [hr]) (W.skip ?_))
    rw [thenQ_normal]
    refine W.seq (W.block (W.seq (W.region ?_)))
    simp only [w_mov, w_ibin, w_load1, w_loadN, w_nilCheck, w_indexArr, w_indexSl, w_indexVal, w_indexStr, w_lenStr, w_lenSl, w_store, w_alloc, w_box, w_build, w_sliceArr, w_bytesToStr, w_pick, WOps_nil, thenQ_normal, eX_t, eX_c, put_s, put_n, getset, Nat.reduceEqDiff, if_false, if_true, Option.getD_some, rd, natOf_nn, natOf_by, Option.some.injEq, exists_eq_left', Prod.mk.injEq, and_assoc, exists_and_left, true_and, Nat.zero_add, Nat.add_zero, Nat.mul_one, ble_t, mul_nn, quo_nn, rem_nn, add_nn, sub_nn, lss_nn, eql_nn, neq_nn, xor_by, k0, k1, k2, k3, k4, k5, k6, k7, k8, k12, k13, k14, k15, k16, k32, k60, k254, k256, g12]
    refine W.seq (W.region ?_)
    rw [zero16, w_alloc, WOps_nil, thenQ_normal]
    have hp := get_push H1 (.cells (bs (List.replicate 16 0)) 38 false false)
    have hpn := next_push H1 (.cells (bs (List.replicate 16 0)) 38 false false)
    generalize H1.push (.cells (bs (List.replicate 16 0)) 38 false false) = H2 at hp hpn ⊢
    refine W.seq (W.seq (W.region ?_))
    simp only [w_mov, w_ibin, w_load1, w_loadN, w_nilCheck, w_indexArr, w_indexSl, w_indexVal, w_indexStr, w_lenStr, w_lenSl, w_store, w_alloc, w_box, w_build, w_sliceArr, w_bytesToStr, w_pick, WOps_nil, thenQ_normal, eX_t, eX_c, put_s, put_n, getset, Nat.reduceEqDiff, if_false, if_true, Option.getD_some, rd, natOf_nn, natOf_by, Option.some.injEq, exists_eq_left', Prod.mk.injEq, and_assoc, exists_and_left, true_and, Nat.zero_add, Nat.add_zero, Nat.mul_one, ble_t, mul_nn, quo_nn, rem_nn, add_nn, sub_nn, lss_nn, eql_nn, neq_nn, xor_by, k0, k1, k2, k3, k4, k5, k6, k7, k8, k12, k13, k14, k15, k16, k32, k60, k254, k256]
    refine sub_ok (S := roundsP C S r) (s := s) (t := H1.next) (e := 38) (e' := 38) (op := false) hE24 hx24 (by simp only [eX_t, eX_c, put_s, put_n, getset, Nat.reduceEqDiff, if_false, if_true, Option.getD_some]; exact g3) (by simp only [eX_t, eX_c, put_s, put_n, getset, Nat.reduceEqDiff, if_false, if_true, Option.getD_some]) (by simp only [eX_t, eX_c, put_s, put_n, getset, Nat.reduceEqDiff, if_false, if_true, Option.getD_some]) (length_roundsP hS r) (by omega) (by omega) (by omega) (by rw [hp, if_neg (by omega), hb s hsn, if_pos rfl]) (by rw [hp, if_pos rfl]) ?_
    intro a3 H3 f0 f3 f4 f5 f6 f12 hn3 hb3
    simp only [getset, Nat.reduceEqDiff, if_false, if_true] at f0 f3 f4 f5 f6 f12
    simp only [thenQ_normal]
    refine W.seq (W.region ?_)
    simp only [w_mov, w_ibin, w_load1, w_loadN, w_nilCheck, w_indexArr, w_indexSl, w_indexVal, w_indexStr, w_lenStr, w_lenSl, w_store, w_alloc, w_box, w_build, w_sliceArr, w_bytesToStr, w_pick, WOps_nil, thenQ_normal, eX_t, eX_c, put_s, put_n, getset, Nat.reduceEqDiff, if_false, if_true, Option.getD_some]
    have key : W E (.seq (.region [(AOper.mk (some 31) (.mov (.tmp 5)) none), (AOper.mk (some 32) (.ibin .lss (.tmp 31) (.const (.int .i64 13))) none)]) (.cond (.tmp 32) (.seq (.region [(AOper.mk (some 9) (.mov (.const (.int .i64 0))) none)]) mixLoop) .skip)) (a3.set 8 (.func (.func 27) [] [])) H3
        (fun x a' H' => x = .normal ∧ a'.get 0 = a1.get 0 ∧ a'.get 3 = a1.get 3 ∧ a'.get 4 = a1.get 4 ∧ a'.get 5 = some (nn r) ∧ a'.get 6 = some (.ptr (some (H1.next, 0))) ∧ a'.get 12 = some (nn r) ∧ H3.next ≤ H'.next ∧
          (∀ j, j < H2.next → H'.t.get j = if H1.next = j then some (.cells (bs (bif decide (r < 13) then mixN (subK (roundsP C S r) 16) 4 else subK (roundsP C S r) 16)) 38 false false) else H2.t.get j)) := by
      refine W.seq (W.region ?_)
      simp only [w_mov, w_ibin, w_load1, w_loadN, w_nilCheck, w_indexArr, w_indexSl, w_indexVal, w_indexStr, w_lenStr, w_lenSl, w_store, w_alloc, w_box, w_build, w_sliceArr, w_bytesToStr, w_pick, WOps_nil, thenQ_normal, eX_t, eX_c, put_s, put_n, getset, Nat.reduceEqDiff, if_false, if_true, Option.getD_some, rd, natOf_nn, natOf_by, Option.some.injEq, exists_eq_left', Prod.mk.injEq, and_assoc, exists_and_left, true_and, Nat.zero_add, Nat.add_zero, Nat.mul_one, ble_t, mul_nn, quo_nn, rem_nn, add_nn, sub_nn, lss_nn, eql_nn, neq_nn, xor_by, k0, k1, k2, k3, k4, k5, k6, k7, k8, k12, k13, k14, k15, k16, k32, k60, k254, k256, f5, k13]
      refine W.cond (b := decide (r < 13)) (by simp only [eX_t, eX_c, put_s, put_n, getset, Nat.reduceEqDiff, if_false, if_true, Option.getD_some]) ?_
      cases decide (r < 13) with
      | true =>
        rw [cond_true]
        refine W.seq (W.region ?_)
        simp only [w_mov, w_ibin, w_load1, w_loadN, w_nilCheck, w_indexArr, w_indexSl, w_indexVal, w_indexStr, w_lenStr, w_lenSl, w_store, w_alloc, w_box, w_build, w_sliceArr, w_bytesToStr, w_pick, WOps_nil, thenQ_normal, eX_t, eX_c, put_s, put_n, getset, Nat.reduceEqDiff, if_false, if_true, Option.getD_some, rd, natOf_nn, natOf_by, Option.some.injEq, exists_eq_left', Prod.mk.injEq, and_assoc, exists_and_left, true_and, Nat.zero_add, Nat.add_zero, Nat.mul_one, ble_t, mul_nn, quo_nn, rem_nn, add_nn, sub_nn, lss_nn, eql_nn, neq_nn, xor_by, k0, k1, k2, k3, k4, k5, k6, k7, k8, k12, k13, k14, k15, k16, k32, k60, k254, k256]
        refine mixes_ok hE hx (T := subK (roundsP C S r) 16) (t := H1.next) (e' := 38) (by simp only [eX_t, eX_c, put_s, put_n, getset, Nat.reduceEqDiff, if_false, if_true, Option.getD_some]; exact f6) (by simp only [eX_t, eX_c, put_s, put_n, getset, Nat.reduceEqDiff, if_false, if_true, Option.getD_some]) (by simp only [eX_t, eX_c, put_s, put_n, getset, Nat.reduceEqDiff, if_false, if_true, Option.getD_some]) (length_subK _ _) (by rw [hb3 _ (by omega), if_pos rfl]) ?_
        intro a4 H4 q0 q3 q4 q5 q6 q12 hn4 hb4
        simp only [getset, Nat.reduceEqDiff, if_false] at q0 q3 q4 q5 q6 q12
        refine ⟨rfl, q0.trans f0, q3.trans f3, q4.trans f4, q5.trans f5, q6.trans f6, q12.trans (f12.trans g12), hn4, fun j hj => ?_⟩
        rw [hb4, hb3 _ hj]
        by_cases h : H1.next = j
        · rw [if_pos h, if_pos h, cond_true]
        · rw [if_neg h, if_neg h, if_neg h]
      | false =>
        rw [cond_false]
        refine W.skip ⟨rfl, ?_, ?_, ?_, ?_, ?_, ?_, Nat.le_refl _, fun j hj => ?_⟩
        · simp only [getset, Nat.reduceEqDiff, if_false]; exact f0
        · simp only [getset, Nat.reduceEqDiff, if_false]; exact f3
        · simp only [getset, Nat.reduceEqDiff, if_false]; exact f4
        · simp only [getset, Nat.reduceEqDiff, if_false]; exact f5
        · simp only [getset, Nat.reduceEqDiff, if_false]; exact f6
        · simp only [getset, Nat.reduceEqDiff, if_false]; exact f12.trans g12
        · rw [hb3 _ hj, cond_false]
    refine W.seq (key.mono ?_)
    intro x a4 H4 ⟨hx', q0, q3, q4, q5, q6, q12, hn4, hb4⟩
    subst hx'
    rw [thenQ_normal]
    rw [g0] at q0
    rw [g3] at q3
    refine W.seq (W.region ?_)
    simp (disch := omega) only [w_mov, w_ibin, add_nn, eX_t, eX_c, put_s, put_n, getset, Nat.reduceEqDiff, if_false, if_true, Option.getD_some, k0, k1, k2, k3, k4, k5, k6, k7, k8, k12, k13, k14, k15, k16, k32, k60, k254, k256, Option.some.injEq, exists_eq_left', q5, q0]
    refine WOps.call (g := 26) (first := []) (captured := []) (by simp only [eX_t, eX_c, put_s, put_n, getset, Nat.reduceEqDiff, if_false, if_true, Option.getD_some]) ?_
    simp only [List.map_cons, List.map_nil, List.nil_append, List.append_nil, eX_t, eX_c, put_s, put_n, getset, Nat.reduceEqDiff, if_false, if_true, Option.getD_some, q6]
    refine add_ok hE26 (S := bif decide (r < 13) then mixN (subK (roundsP C S r) 16) 4 else subK (roundsP C S r) 16) (C := C) (e := 38) (e' := e') (op := false) (op' := op') (ro' := ro') (hx26 _ _) (by omega) (by omega) ?_ hC (by rw [hb4 _ (by omega), if_pos rfl]) (by rw [hb4 _ (by omega), if_neg (by omega), hp, if_neg (by omega), hb _ hcn, if_neg hcs]; exact hc) _ ?_
    · cases decide (r < 13)
      · rw [cond_false, length_subK]
      · rw [cond_true, length_mixN, length_subK]
    intro H5 hn5 hb5
    simp only [WOps_nil, thenQ_normal]
    refine W.region ?_
    obtain ⟨T5, n5⟩ := H5
    simp only at hn5 hb5
    have ht5 : T5.get H1.next = some (.cells (bs (roundP C (roundsP C S r) r)) 38 false false) := by rw [hb5, if_pos rfl]; rfl
    have hs5 : T5.get s = some (.cells (bs (roundsP C S r)) 38 false false) := by rw [hb5, if_neg (by omega), hb4 _ (by omega), if_neg (by omega), hp, if_neg (by omega), hb _ hsn, if_pos rfl]
    simp only [w_loadN, rd, eX_t, eX_c, put_s, put_n, getset, Nat.reduceEqDiff, if_false, if_true, Option.getD_some, q6, q3, loadN_bs ht5 (length_roundP _ _ _), Option.some.injEq, exists_eq_left', w_store, wst_agg hs5 (length_roundsP hS r) (length_roundP _ _ _), Prod.mk.injEq, and_assoc, exists_and_left, WOps_nil, blockQ_normal, thenQ_normal]
    refine W.region ?_
    simp (disch := omega) only [w_mov, w_ibin, w_load1, w_loadN, w_nilCheck, w_indexArr, w_indexSl, w_indexVal, w_indexStr, w_lenStr, w_lenSl, w_store, w_alloc, w_box, w_build, w_sliceArr, w_bytesToStr, w_pick, WOps_nil, thenQ_normal, eX_t, eX_c, put_s, put_n, getset, Nat.reduceEqDiff, if_false, if_true, Option.getD_some, rd, natOf_nn, natOf_by, Option.some.injEq, exists_eq_left', Prod.mk.injEq, and_assoc, exists_and_left, true_and, Nat.zero_add, Nat.add_zero, Nat.mul_one, ble_t, mul_nn, quo_nn, rem_nn, add_nn, sub_nn, lss_nn, eql_nn, neq_nn, xor_by, k0, k1, k2, k3, k4, k5, k6, k7, k8, k12, k13, k14, k15, k16, k32, k60, k254, k256, q12]
    refine ⟨by omega, ?_, by rw [q0, h0], by rw [q3, h3], q4.trans g4, trivial⟩
    intro j hj
    by_cases h : s = j
    · rw [if_pos h, if_pos h, roundsP]
    · rw [if_neg h, if_neg h, hb5, if_neg (by omega), hb4 _ (by omega), if_neg (by omega), hp, if_neg (by omega), hb _ hj, if_neg h]
  · intro a1 H1 ⟨hn, hb, g0, g3, g4, g12⟩
    refine W.seq (W.region ?_)
    simp only [w_mov, w_ibin, w_load1, w_loadN, w_nilCheck, w_indexArr, w_indexSl, w_indexVal, w_indexStr, w_lenStr, w_lenSl, w_store, w_alloc, w_box, w_build, w_sliceArr, w_bytesToStr, w_pick, WOps_nil, thenQ_normal, eX_t, eX_c, put_s, put_n, getset, Nat.reduceEqDiff, if_false, if_true, Option.getD_some, rd, natOf_nn, natOf_by, Option.some.injEq, exists_eq_left', Prod.mk.injEq, and_assoc, exists_and_left, true_and, Nat.zero_add, Nat.add_zero, Nat.mul_one, ble_t, mul_nn, quo_nn, rem_nn, add_nn, sub_nn, lss_nn, eql_nn, neq_nn, xor_by, k0, k1, k2, k3, k4, k5, k6, k7, k8, k12, k13, k14, k15, k16, k32, k60, k254, k256, g12]
    refine W.seq (W.cond (b := false) (by simp only [eX_t, eX_c, put_s, put_n, getset, Nat.reduceEqDiff, if_false, if_true, Option.getD_some]; simp) (W.exit ?_))
    refine ⟨nofun, ?_⟩
    simp only [blockQ_exit, Nat.beq_refl, cond_true]
    refine hQ _ _ ?_ ?_ hn hb <;> simp only [getset, Nat.reduceEqDiff, if_false] <;> assumption
  · refine ⟨Nat.le_refl _, ?_, rfl, rfl, rfl, h12⟩
    intro j hj
    by_cases h : s = j
    · subst h; rw [if_pos rfl]; exact hs
    · rw [if_neg h]

/-- a block enciphered, as the program does it -/
def encP (C S : List UInt8) : List UInt8 := roundsP C S 14

theorem enc_ok (hE : ∀ f, E.funcs f = Aes.funcsT.get f) (hx : ∀ f args H, special f = false → E.sums f args H = none) {H : Heap} {c : Nat} {S C : List UInt8} {e' : TypeId} {op' ro' : Bool}
    (hS : S.length = 16) (hC : C.length = 240) (hcn : c < H.next) (hc : H.t.get c = some (.cells (bs C) e' op' ro')) {Q : AV → Heap → Prop}
    (hQ : ∀ H', H.next ≤ H'.next → (∀ j, j < H.next → H'.t.get j = H.t.get j) → Q (.agg (bs (encP C S))) H') : WCall E 18 [.ptr (some (c, 0)), .agg (bs S)] H Q := by
  have hE26 : E.funcs 26 = some Aes.af26 := (hE 26).trans rfl
  have hx26 : ∀ args H, E.sums 26 args H = none := fun args H => hx 26 args H (by decide)
  refine WCall.func (hx 18 _ _ (by decide)) ((hE 18).trans rfl) ?_
  have f0 : (frameOf [.ptr (some (c, 0)), .agg (bs S)] 0 .nil).get 0 = some (.ptr (some (c, 0))) := rfl
  have f1 : (frameOf [.ptr (some (c, 0)), .agg (bs S)] 0 .nil).get 1 = some (.agg (bs S)) := rfl
  generalize frameOf [.ptr (some (c, 0)), .agg (bs S)] 0 .nil = a at f0 f1
  refine W.seq (W.region ?_)
  rw [w_box, w_alloc, WOps_nil, thenQ_normal, zero16]
  simp only [eX_t, eX_c, put_s, put_n, getset, Nat.reduceEqDiff, if_false, if_true, Option.getD_some, f1, cells_agg]
  have hp := get_push H (.cells (bs S) 38 false false)
  have hpn := next_push H (.cells (bs S) 38 false false)
  generalize H.push (.cells (bs S) 38 false false) = H1 at hp hpn ⊢
  have hp2 := get_push H1 (.cells (bs (List.replicate 16 0)) 38 false false)
  have hpn2 := next_push H1 (.cells (bs (List.replicate 16 0)) 38 false false)
  generalize H1.push (.cells (bs (List.replicate 16 0)) 38 false false) = H2 at hp2 hpn2 ⊢
  refine W.seq (W.region ?_)
  simp only [w_mov, eX_t, eX_c, put_s, put_n, getset, Nat.reduceEqDiff, if_false, if_true, Option.getD_some, f0]
  refine WOps.call (g := 26) (first := []) (captured := []) (by simp only [eX_t, eX_c, put_s, put_n, getset, Nat.reduceEqDiff, if_false, if_true, Option.getD_some]) ?_
  simp only [List.map_cons, List.map_nil, List.nil_append, List.append_nil, eX_t, eX_c, put_s, put_n, getset, Nat.reduceEqDiff, if_false, if_true, Option.getD_some, k0, k1, k2, k3, k4, k5, k6, k7, k8, k12, k13, k14, k15, k16, k32, k60, k254, k256]
  refine add_ok hE26 (S := S) (C := C) (e := 38) (e' := e') (op := false) (op' := op') (ro' := ro') (hx26 _ _) (by omega) (by omega) hS hC (by rw [hp2, if_neg (by omega), hp, if_pos rfl]) (by rw [hp2, if_neg (by omega), hp, if_neg (by omega)]; exact hc) _ ?_
  intro H3 hn3 hb3
  simp only [WOps_nil, thenQ_normal]
  refine W.seq (W.seq (W.region ?_))
  simp only [w_mov, w_ibin, w_load1, w_loadN, w_nilCheck, w_indexArr, w_indexSl, w_indexVal, w_indexStr, w_lenStr, w_lenSl, w_store, w_alloc, w_box, w_build, w_sliceArr, w_bytesToStr, w_pick, WOps_nil, thenQ_normal, eX_t, eX_c, put_s, put_n, getset, Nat.reduceEqDiff, if_false, if_true, Option.getD_some, rd, natOf_nn, natOf_by, Option.some.injEq, exists_eq_left', Prod.mk.injEq, and_assoc, exists_and_left, true_and, Nat.zero_add, Nat.add_zero, Nat.mul_one, ble_t, mul_nn, quo_nn, rem_nn, add_nn, sub_nn, lss_nn, eql_nn, neq_nn, xor_by, k0, k1, k2, k3, k4, k5, k6, k7, k8, k12, k13, k14, k15, k16, k32, k60, k254, k256]
  refine rounds_ok hE hx (S := S) (C := C) (c := c) (s := H.next) (e' := e') (op' := op') (ro' := ro') (n0 := 0) (z := 0) (Z := []) (e2 := 0) (by simp only [eX_t, eX_c, put_s, put_n, getset, Nat.reduceEqDiff, if_false, if_true, Option.getD_some]; exact f0) (by simp only [eX_t, eX_c, put_s, put_n, getset, Nat.reduceEqDiff, if_false, if_true, Option.getD_some]) (by simp only [eX_t, eX_c, put_s, put_n, getset, Nat.reduceEqDiff, if_false, if_true, Option.getD_some]) hS hC (by omega) (by omega) (by omega) (by rw [hb3, if_pos rfl]) (by rw [hb3, if_neg (by omega), hp2, if_neg (by omega), hp, if_neg (by omega)]; exact hc) ?_
  intro a4 H4 q3 q4 hn4 hb4
  simp only [getset, Nat.reduceEqDiff, if_false, if_true] at q3 q4
  rw [thenQ_normal]
  obtain ⟨T4, n4⟩ := H4
  simp only at hn4 hb4
  have hs4 : T4.get H.next = some (.cells (bs (encP C S)) 38 false false) := by rw [hb4 _ (by omega), if_pos rfl]; rfl
  have hz4 : T4.get H1.next = some (.cells (bs (List.replicate 16 0)) 38 false false) := by rw [hb4 _ (by omega), if_neg (by omega), hb3, if_neg (by omega), hp2, if_pos rfl]
  have hl : (encP C S).length = 16 := length_roundsP hS 14
  refine W.seq (W.region ?_)
  simp only [w_loadN, rd, eX_t, eX_c, put_s, put_n, getset, Nat.reduceEqDiff, if_false, if_true, Option.getD_some, q3, q4, loadN_bs hs4 hl, Option.some.injEq, exists_eq_left', w_store, wst_agg hz4 (List.length_replicate) hl, Prod.mk.injEq, and_assoc, exists_and_left, WOps_nil, thenQ_normal]
  have hr4 : (T4.set H1.next (.cells (bs (encP C S)) 38 false false)).get H1.next = some (.cells (bs (encP C S)) 38 false false) := by rw [getset, if_pos rfl]
  refine W.ret ⟨.inr rfl, ?_⟩
  simp only [resultsOf, resOf, eX_t, eX_c, put_s, put_n, getset, Nat.reduceEqDiff, if_false, if_true, Option.getD_some, q4, loadN_bs hr4 hl, Option.some.injEq, exists_eq_left', oneOf]
  refine hQ _ (by show H.next ≤ n4; omega) fun j hj => ?_
  rw [getset, if_neg (by omega), hb4 _ (by omega), if_neg (by omega), hb3, if_neg (by omega), hp2, if_neg (by omega), hp, if_neg (by omega)]
end Go.AE
end
-- Contracts of aes: keys.
section
set_option linter.unusedVariables false
set_option linter.unusedSimpArgs false
set_option maxRecDepth 100000
set_option maxHeartbeats 600000
namespace Go.AE
variable {E : Env}

/-- the key's bytes laid at the head -/
def setK (K : List UInt8) : Nat → List UInt8
  | 0 => List.replicate 240 0
  | i + 1 => (setK K i).set i (K.getD i 0)
theorem length_setK (K : List UInt8) : ∀ i, (setK K i).length = 240
  | 0 => by rw [setK, List.length_replicate]
  | i + 1 => by rw [setK, List.length_set, length_setK K i]

def keyDraw0 : ADraw := (ADraw.mk [(AOper.mk (some 15) (.mov (.tmp 4)) none), (AOper.mk (some 16) (.ibin .quo (.tmp 15) (.const (.int .i64 4))) none), (AOper.mk (some 17) (.mov (.tmp 4)) none), (AOper.mk (some 18) (.ibin .rem (.tmp 17) (.const (.int .i64 4))) none), (AOper.mk (some 19) (.mov (.tmp 0)) none), (AOper.mk (some 20) (.mov (.tmp 4)) none), (AOper.mk (some 21) (.indexStr (.tmp 19) (.tmp 20)) none), (AOper.mk (some 22) (.indexArr 60 4 (.tmp 3) (.tmp 16)) none), (AOper.mk (some 23) (.indexArr 4 1 (.tmp 22) (.tmp 18)) none), (AOper.mk none (.store 1 (.tmp 23) (.tmp 21)) none)] [0, 1, 2, 3, 4, 5, 6, 7, 8, 9] [0, 1, 0, 4, 0, 0, 48, 3, 255, 511] [(0, 0), (0, 0), (0, 0), (0, 0), (0, 0), (0, 0), (0, 0), (0, 0), (0, 0), (0, 1)] false)
def keyDraw1 : ADraw := (ADraw.mk [(AOper.mk (some 51) (.mov (.tmp 8)) none), (AOper.mk (some 52) (.call (.const (.func (.func 24) [] [])) []) none), (AOper.mk (some 53) (.mov (.tmp 8)) none), (AOper.mk (some 54) (.indexArr 4 1 (.tmp 7) (.tmp 53)) none), (AOper.mk (some 55) (.load1 (.tmp 54)) none), (AOper.mk (some 56) (.indexVal 256 1 (.tmp 52) (.tmp 55)) none), (AOper.mk (some 57) (.indexArr 4 1 (.tmp 7) (.tmp 51)) none), (AOper.mk none (.store 1 (.tmp 57) (.tmp 56)) none)] [0, 2, 3, 4, 1, 5, 6, 7] [0, 0, 0, 4, 12, 30, 63, 127] [(0, 1), (0, 1), (0, 1), (0, 1), (0, 1), (1, 1), (1, 1), (1, 2)] false)
def keyDraw2 : ADraw := (ADraw.mk [(AOper.mk (some 72) (.mov (.tmp 6)) none), (AOper.mk (some 73) (.mov (.tmp 9)) none), (AOper.mk (some 74) (.mov (.tmp 6)) none), (AOper.mk (some 75) (.ibin .sub (.tmp 74) (.const (.int .i64 8))) none), (AOper.mk (some 76) (.mov (.tmp 9)) none), (AOper.mk (some 77) (.indexArr 60 4 (.tmp 3) (.tmp 75)) none), (AOper.mk (some 78) (.indexArr 4 1 (.tmp 77) (.tmp 76)) none), (AOper.mk (some 79) (.load1 (.tmp 78)) none), (AOper.mk (some 80) (.mov (.tmp 9)) none), (AOper.mk (some 81) (.indexArr 4 1 (.tmp 7) (.tmp 80)) none), (AOper.mk (some 82) (.load1 (.tmp 81)) none), (AOper.mk (some 83) (.ibin .xor (.tmp 79) (.tmp 82)) none), (AOper.mk (some 84) (.indexArr 60 4 (.tmp 3) (.tmp 72)) none), (AOper.mk (some 85) (.indexArr 4 1 (.tmp 84) (.tmp 73)) none), (AOper.mk none (.store 1 (.tmp 85) (.tmp 83)) none)] [0, 1, 2, 3, 4, 5, 6, 7, 8, 9, 10, 11, 12, 13, 14] [0, 0, 0, 4, 0, 12, 60, 124, 0, 256, 768, 2044, 1, 8191, 16383] [(0, 0), (0, 0), (0, 0), (0, 0), (0, 0), (0, 0), (0, 0), (0, 0), (0, 0), (0, 0), (0, 0), (0, 0), (0, 0), (0, 0), (0, 1)] false)
def keyLoop0 : ACode := (.block 0 (.loop (.seq (.region [(AOper.mk (some 13) (.ibin .lss (.tmp 12) (.tmp 11)) none)]) (.seq (.cond (.tmp 13) .skip (.exit 0)) (.seq (.block 1 (.seq (.region [(AOper.mk (some 14) (.mov (.tmp 12)) none), (AOper.mk (some 4) (.mov (.tmp 14)) none)]) (.draw (ADraw.mk [(AOper.mk (some 15) (.mov (.tmp 4)) none), (AOper.mk (some 16) (.ibin .quo (.tmp 15) (.const (.int .i64 4))) none), (AOper.mk (some 17) (.mov (.tmp 4)) none), (AOper.mk (some 18) (.ibin .rem (.tmp 17) (.const (.int .i64 4))) none), (AOper.mk (some 19) (.mov (.tmp 0)) none), (AOper.mk (some 20) (.mov (.tmp 4)) none), (AOper.mk (some 21) (.indexStr (.tmp 19) (.tmp 20)) none), (AOper.mk (some 22) (.indexArr 60 4 (.tmp 3) (.tmp 16)) none), (AOper.mk (some 23) (.indexArr 4 1 (.tmp 22) (.tmp 18)) none), (AOper.mk none (.store 1 (.tmp 23) (.tmp 21)) none)] [0, 1, 2, 3, 4, 5, 6, 7, 8, 9] [0, 1, 0, 4, 0, 0, 48, 3, 255, 511] [(0, 0), (0, 0), (0, 0), (0, 0), (0, 0), (0, 0), (0, 0), (0, 0), (0, 0), (0, 1)] false)))) (.region [(AOper.mk (some 24) (.ibin .add (.tmp 12) (.const (.int .i64 1))) none), (AOper.mk (some 12) (.mov (.tmp 24)) none)]))))))
def keyLoop7 : ACode := (.block 7 (.loop (.seq (.region [(AOper.mk (some 49) (.ibin .lss (.tmp 48) (.const (.int .i64 4))) none)]) (.seq (.cond (.tmp 49) .skip (.exit 7)) (.seq (.block 8 (.seq (.region [(AOper.mk (some 50) (.mov (.tmp 48)) none), (AOper.mk (some 8) (.mov (.tmp 50)) none)]) (.draw (ADraw.mk [(AOper.mk (some 51) (.mov (.tmp 8)) none), (AOper.mk (some 52) (.call (.const (.func (.func 24) [] [])) []) none), (AOper.mk (some 53) (.mov (.tmp 8)) none), (AOper.mk (some 54) (.indexArr 4 1 (.tmp 7) (.tmp 53)) none), (AOper.mk (some 55) (.load1 (.tmp 54)) none), (AOper.mk (some 56) (.indexVal 256 1 (.tmp 52) (.tmp 55)) none), (AOper.mk (some 57) (.indexArr 4 1 (.tmp 7) (.tmp 51)) none), (AOper.mk none (.store 1 (.tmp 57) (.tmp 56)) none)] [0, 2, 3, 4, 1, 5, 6, 7] [0, 0, 0, 4, 12, 30, 63, 127] [(0, 1), (0, 1), (0, 1), (0, 1), (0, 1), (1, 1), (1, 1), (1, 2)] false)))) (.region [(AOper.mk (some 58) (.ibin .add (.tmp 48) (.const (.int .i64 1))) none), (AOper.mk (some 48) (.mov (.tmp 58)) none)]))))))
def keyLoop9 : ACode := (.block 9 (.loop (.seq (.region [(AOper.mk (some 70) (.ibin .lss (.tmp 69) (.const (.int .i64 4))) none)]) (.seq (.cond (.tmp 70) .skip (.exit 9)) (.seq (.block 10 (.seq (.region [(AOper.mk (some 71) (.mov (.tmp 69)) none), (AOper.mk (some 9) (.mov (.tmp 71)) none)]) (.draw (ADraw.mk [(AOper.mk (some 72) (.mov (.tmp 6)) none), (AOper.mk (some 73) (.mov (.tmp 9)) none), (AOper.mk (some 74) (.mov (.tmp 6)) none), (AOper.mk (some 75) (.ibin .sub (.tmp 74) (.const (.int .i64 8))) none), (AOper.mk (some 76) (.mov (.tmp 9)) none), (AOper.mk (some 77) (.indexArr 60 4 (.tmp 3) (.tmp 75)) none), (AOper.mk (some 78) (.indexArr 4 1 (.tmp 77) (.tmp 76)) none), (AOper.mk (some 79) (.load1 (.tmp 78)) none), (AOper.mk (some 80) (.mov (.tmp 9)) none), (AOper.mk (some 81) (.indexArr 4 1 (.tmp 7) (.tmp 80)) none), (AOper.mk (some 82) (.load1 (.tmp 81)) none), (AOper.mk (some 83) (.ibin .xor (.tmp 79) (.tmp 82)) none), (AOper.mk (some 84) (.indexArr 60 4 (.tmp 3) (.tmp 72)) none), (AOper.mk (some 85) (.indexArr 4 1 (.tmp 84) (.tmp 73)) none), (AOper.mk none (.store 1 (.tmp 85) (.tmp 83)) none)] [0, 1, 2, 3, 4, 5, 6, 7, 8, 9, 10, 11, 12, 13, 14] [0, 0, 0, 4, 0, 12, 60, 124, 0, 256, 768, 2044, 1, 8191, 16383] [(0, 0), (0, 0), (0, 0), (0, 0), (0, 0), (0, 0), (0, 0), (0, 0), (0, 0), (0, 0), (0, 0), (0, 0), (0, 0), (0, 0), (0, 1)] false)))) (.region [(AOper.mk (some 86) (.ibin .add (.tmp 69) (.const (.int .i64 1))) none), (AOper.mk (some 69) (.mov (.tmp 86)) none)]))))))
def keySwitch : ACode := (.block 4 (.seq (.block 6 (.seq (.block 5 (.seq (.seq (.seq (.region [(AOper.mk (some 36) (.ibin .eql (.tmp 34) (.const (.int .i64 0))) none), (AOper.mk (some 35) (.mov (.tmp 36)) none)]) (.cond (.tmp 35) (.exit 5) .skip)) (.seq (.region [(AOper.mk (some 38) (.ibin .eql (.tmp 34) (.const (.int .i64 4))) none), (AOper.mk (some 37) (.mov (.tmp 38)) none)]) (.cond (.tmp 37) (.exit 6) .skip))) (.exit 4))) (.region [(AOper.mk (some 39) (.indexArr 4 1 (.tmp 7) (.const (.int .i64 1))) none), (AOper.mk (some 40) (.load1 (.tmp 39)) none), (AOper.mk (some 41) (.indexArr 4 1 (.tmp 7) (.const (.int .i64 2))) none), (AOper.mk (some 42) (.load1 (.tmp 41)) none), (AOper.mk (some 43) (.indexArr 4 1 (.tmp 7) (.const (.int .i64 3))) none), (AOper.mk (some 44) (.load1 (.tmp 43)) none), (AOper.mk (some 45) (.indexArr 4 1 (.tmp 7) (.const (.int .i64 0))) none), (AOper.mk (some 46) (.load1 (.tmp 45)) none), (AOper.mk (some 47) (.build [(.int .u8 0), (.int .u8 0), (.int .u8 0), (.int .u8 0)] [(0, (1, (.tmp 40))), (1, (1, (.tmp 42))), (2, (1, (.tmp 44))), (3, (1, (.tmp 46)))]) none), (AOper.mk none (.store 4 (.tmp 7) (.tmp 47)) none)]))) (.seq (.seq (.region [(AOper.mk (some 48) (.mov (.const (.int .i64 0))) none)]) (.block 7 (.loop (.seq (.region [(AOper.mk (some 49) (.ibin .lss (.tmp 48) (.const (.int .i64 4))) none)]) (.seq (.cond (.tmp 49) .skip (.exit 7)) (.seq (.block 8 (.seq (.region [(AOper.mk (some 50) (.mov (.tmp 48)) none), (AOper.mk (some 8) (.mov (.tmp 50)) none)]) (.draw (ADraw.mk [(AOper.mk (some 51) (.mov (.tmp 8)) none), (AOper.mk (some 52) (.call (.const (.func (.func 24) [] [])) []) none), (AOper.mk (some 53) (.mov (.tmp 8)) none), (AOper.mk (some 54) (.indexArr 4 1 (.tmp 7) (.tmp 53)) none), (AOper.mk (some 55) (.load1 (.tmp 54)) none), (AOper.mk (some 56) (.indexVal 256 1 (.tmp 52) (.tmp 55)) none), (AOper.mk (some 57) (.indexArr 4 1 (.tmp 7) (.tmp 51)) none), (AOper.mk none (.store 1 (.tmp 57) (.tmp 56)) none)] [0, 2, 3, 4, 1, 5, 6, 7] [0, 0, 0, 4, 12, 30, 63, 127] [(0, 1), (0, 1), (0, 1), (0, 1), (0, 1), (1, 1), (1, 1), (1, 2)] false)))) (.region [(AOper.mk (some 58) (.ibin .add (.tmp 48) (.const (.int .i64 1))) none), (AOper.mk (some 48) (.mov (.tmp 58)) none)]))))))) (.exit 4))))
def keyMain : ACode := (.block 2 (.loop (.seq (.seq (.region [(AOper.mk (some 25) (.mov (.tmp 6)) none), (AOper.mk (some 26) (.ibin .lss (.tmp 25) (.const (.int .i64 60))) none)]) (.cond (.tmp 26) .skip (.exit 2))) (.seq (.block 3 (.seq (.region [(AOper.mk (some 29) (.mov (.tmp 6)) none), (AOper.mk (some 30) (.ibin .sub (.tmp 29) (.const (.int .i64 1))) none), (AOper.mk (some 31) (.indexArr 60 4 (.tmp 3) (.tmp 30)) none), (AOper.mk (some 32) (.loadN 4 (.tmp 31)) none), (AOper.mk (some 7) (.alloc 45 [(.int .u8 0), (.int .u8 0), (.int .u8 0), (.int .u8 0)]) none), (AOper.mk none (.store 4 (.tmp 7) (.tmp 32)) none)]) (.seq (.seq (.region [(AOper.mk (some 33) (.mov (.tmp 6)) none), (AOper.mk (some 34) (.ibin .rem (.tmp 33) (.const (.int .i64 8))) none)]) (.block 4 (.seq (.block 6 (.seq (.block 5 (.seq (.seq (.seq (.region [(AOper.mk (some 36) (.ibin .eql (.tmp 34) (.const (.int .i64 0))) none), (AOper.mk (some 35) (.mov (.tmp 36)) none)]) (.cond (.tmp 35) (.exit 5) .skip)) (.seq (.region [(AOper.mk (some 38) (.ibin .eql (.tmp 34) (.const (.int .i64 4))) none), (AOper.mk (some 37) (.mov (.tmp 38)) none)]) (.cond (.tmp 37) (.exit 6) .skip))) (.exit 4))) (.region [(AOper.mk (some 39) (.indexArr 4 1 (.tmp 7) (.const (.int .i64 1))) none), (AOper.mk (some 40) (.load1 (.tmp 39)) none), (AOper.mk (some 41) (.indexArr 4 1 (.tmp 7) (.const (.int .i64 2))) none), (AOper.mk (some 42) (.load1 (.tmp 41)) none), (AOper.mk (some 43) (.indexArr 4 1 (.tmp 7) (.const (.int .i64 3))) none), (AOper.mk (some 44) (.load1 (.tmp 43)) none), (AOper.mk (some 45) (.indexArr 4 1 (.tmp 7) (.const (.int .i64 0))) none), (AOper.mk (some 46) (.load1 (.tmp 45)) none), (AOper.mk (some 47) (.build [(.int .u8 0), (.int .u8 0), (.int .u8 0), (.int .u8 0)] [(0, (1, (.tmp 40))), (1, (1, (.tmp 42))), (2, (1, (.tmp 44))), (3, (1, (.tmp 46)))]) none), (AOper.mk none (.store 4 (.tmp 7) (.tmp 47)) none)]))) (.seq (.seq (.region [(AOper.mk (some 48) (.mov (.const (.int .i64 0))) none)]) (.block 7 (.loop (.seq (.region [(AOper.mk (some 49) (.ibin .lss (.tmp 48) (.const (.int .i64 4))) none)]) (.seq (.cond (.tmp 49) .skip (.exit 7)) (.seq (.block 8 (.seq (.region [(AOper.mk (some 50) (.mov (.tmp 48)) none), (AOper.mk (some 8) (.mov (.tmp 50)) none)]) (.draw (ADraw.mk [(AOper.mk (some 51) (.mov (.tmp 8)) none), (AOper.mk (some 52) (.call (.const (.func (.func 24) [] [])) []) none), (AOper.mk (some 53) (.mov (.tmp 8)) none), (AOper.mk (some 54) (.indexArr 4 1 (.tmp 7) (.tmp 53)) none), (AOper.mk (some 55) (.load1 (.tmp 54)) none), (AOper.mk (some 56) (.indexVal 256 1 (.tmp 52) (.tmp 55)) none), (AOper.mk (some 57) (.indexArr 4 1 (.tmp 7) (.tmp 51)) none), (AOper.mk none (.store 1 (.tmp 57) (.tmp 56)) none)] [0, 2, 3, 4, 1, 5, 6, 7] [0, 0, 0, 4, 12, 30, 63, 127] [(0, 1), (0, 1), (0, 1), (0, 1), (0, 1), (1, 1), (1, 1), (1, 2)] false)))) (.region [(AOper.mk (some 58) (.ibin .add (.tmp 48) (.const (.int .i64 1))) none), (AOper.mk (some 48) (.mov (.tmp 58)) none)]))))))) (.exit 4))))) (.seq (.seq (.region [(AOper.mk (some 59) (.mov (.tmp 6)) none), (AOper.mk (some 60) (.ibin .rem (.tmp 59) (.const (.int .i64 8))) none), (AOper.mk (some 61) (.ibin .eql (.tmp 60) (.const (.int .i64 0))) none)]) (.cond (.tmp 61) (.seq (.region [(AOper.mk (some 62) (.indexArr 4 1 (.tmp 7) (.const (.int .i64 0))) none), (AOper.mk (some 63) (.load1 (.tmp 62)) none), (AOper.mk (some 64) (.mov (.tmp 5)) none), (AOper.mk (some 65) (.ibin .xor (.tmp 63) (.tmp 64)) none), (AOper.mk (some 66) (.indexArr 4 1 (.tmp 7) (.const (.int .i64 0))) none), (AOper.mk none (.store 1 (.tmp 66) (.tmp 65)) none)]) (.region [(AOper.mk (some 67) (.mov (.tmp 5)) none), (AOper.mk (some 68) (.call (.const (.func (.func 25) [] [])) [(.tmp 67)]) none), (AOper.mk (some 5) (.mov (.tmp 68)) none)])) .skip)) (.seq (.region [(AOper.mk (some 69) (.mov (.const (.int .i64 0))) none)]) (.block 9 (.loop (.seq (.region [(AOper.mk (some 70) (.ibin .lss (.tmp 69) (.const (.int .i64 4))) none)]) (.seq (.cond (.tmp 70) .skip (.exit 9)) (.seq (.block 10 (.seq (.region [(AOper.mk (some 71) (.mov (.tmp 69)) none), (AOper.mk (some 9) (.mov (.tmp 71)) none)]) (.draw (ADraw.mk [(AOper.mk (some 72) (.mov (.tmp 6)) none), (AOper.mk (some 73) (.mov (.tmp 9)) none), (AOper.mk (some 74) (.mov (.tmp 6)) none), (AOper.mk (some 75) (.ibin .sub (.tmp 74) (.const (.int .i64 8))) none), (AOper.mk (some 76) (.mov (.tmp 9)) none), (AOper.mk (some 77) (.indexArr 60 4 (.tmp 3) (.tmp 75)) none), (AOper.mk (some 78) (.indexArr 4 1 (.tmp 77) (.tmp 76)) none), (AOper.mk (some 79) (.load1 (.tmp 78)) none), (AOper.mk (some 80) (.mov (.tmp 9)) none), (AOper.mk (some 81) (.indexArr 4 1 (.tmp 7) (.tmp 80)) none), (AOper.mk (some 82) (.load1 (.tmp 81)) none), (AOper.mk (some 83) (.ibin .xor (.tmp 79) (.tmp 82)) none), (AOper.mk (some 84) (.indexArr 60 4 (.tmp 3) (.tmp 72)) none), (AOper.mk (some 85) (.indexArr 4 1 (.tmp 84) (.tmp 73)) none), (AOper.mk none (.store 1 (.tmp 85) (.tmp 83)) none)] [0, 1, 2, 3, 4, 5, 6, 7, 8, 9, 10, 11, 12, 13, 14] [0, 0, 0, 4, 0, 12, 60, 124, 0, 256, 768, 2044, 1, 8191, 16383] [(0, 0), (0, 0), (0, 0), (0, 0), (0, 0), (0, 0), (0, 0), (0, 0), (0, 0), (0, 0), (0, 0), (0, 0), (0, 0), (0, 0), (0, 1)] false)))) (.region [(AOper.mk (some 86) (.ibin .add (.tmp 69) (.const (.int .i64 1))) none), (AOper.mk (some 69) (.mov (.tmp 86)) none)]))))))))))) (.region [(AOper.mk (some 27) (.mov (.tmp 6)) none), (AOper.mk (some 28) (.ibin .add (.tmp 27) (.const (.int .i64 1))) none), (AOper.mk (some 6) (.mov (.tmp 28)) none)])))))

theorem idx_str {K : List UInt8} {i : Nat} (h : i < K.length) : K[i]? = some (K.getD i 0) := by
  rw [List.getElem?_eq_getElem h]; simp [List.getD, List.getElem?_eq_getElem h]

theorem key_d0 {a : Frm} {H : Heap} {c i : Nat} {K X : List UInt8} {e : TypeId} (h0 : a.get 0 = some (.str K)) (h3 : a.get 3 = some (.ptr (some (c, 0)))) (h4 : a.get 4 = some (nn i)) (hi : i < 32) (hK : K.length = 32) (hX : X.length = 240)
    (hc : H.t.get c = some (.cells (bs X) e false false)) {Q : AExit → Frm → Heap → Prop}
    (hQ : ∀ a', a'.get 0 = a.get 0 → a'.get 3 = a.get 3 → a'.get 11 = a.get 11 → a'.get 12 = a.get 12 → Q .normal a' ⟨H.t.set c (.cells (bs (X.set i (K.getD i 0))) e false false), H.next + 10⟩) : W E (.draw keyDraw0) a H Q := by
  refine W_draw (l := _) rfl (N := 10) rfl ?_
  have e0 : i / 4 * 4 + i % 4 = i := by omega
  have e1 := idx_str (K := K) (i := i) (by omega)
  simp (disch := omega) only [keyDraw0, l_mov, l_ibin, l_load1, l_loadN, l_nilCheck, l_indexArr, l_indexSl, l_indexVal, l_indexStr, l_lenStr, l_lenSl, l_store, l_build, WL_nil, eX_t, eX_c, put_s, put_n, getset, Nat.reduceEqDiff, if_false, if_true, Option.getD_some, rd, natOf_nn, natOf_by, Option.some.injEq, exists_eq_left', Prod.mk.injEq, and_assoc, exists_and_left, true_and, Nat.zero_add, Nat.add_zero, Nat.mul_one, ble_t, mul_nn, quo_nn, rem_nn, add_nn, sub_nn, lss_nn, eql_nn, neq_nn, xor_by, k0, k1, k2, k3, k4, k5, k6, k7, k8, k12, k13, k14, k15, k16, k32, k60, k254, k256, h0, h3, h4, e1]
  have hw := wst_by (nx := H.next + 10) (o := i / 4 * 4 + i % 4) hc (by omega) (K.getD i 0)
  rw [e0] at hw
  have e2 : AV.int .u8 (.ofNat (K.getD i 0).toNat) = by' (K.getD i 0) := rfl
  simp (disch := omega) only [wr0_store, l_mov, l_ibin, l_load1, l_loadN, l_nilCheck, l_indexArr, l_indexSl, l_indexVal, l_indexStr, l_lenStr, l_lenSl, l_store, l_build, WL_nil, eX_t, eX_c, put_s, put_n, getset, Nat.reduceEqDiff, if_false, if_true, Option.getD_some, rd, natOf_nn, natOf_by, Option.some.injEq, exists_eq_left', Prod.mk.injEq, and_assoc, exists_and_left, true_and, Nat.zero_add, Nat.add_zero, Nat.mul_one, ble_t, mul_nn, quo_nn, rem_nn, add_nn, sub_nn, lss_nn, eql_nn, neq_nn, xor_by, e0, e2, hw]
  refine ⟨?_, _, _, rfl, ?_⟩
  · simp only [stable_cons, stable_nil, sm_mov, sm_ibin, sm_nilCheck, sm_indexArr, sm_indexSl, sm_indexVal, sm_indexStr, sm_lenStr, sm_lenSl, sm_build, sm_store, sm_call, Bool.true_and, Bool.and_true, Bool.and_eq_true, List.reverse_cons, List.reverse_nil, List.nil_append, List.cons_append, List.drop_zero, List.drop_succ_cons, Nat.sub_zero, Nat.succ_eq_add_one, Nat.zero_add, Nat.reduceAdd, Nat.reduceSub, List.take_succ_cons, List.take_zero, List.take_nil]
  · refine hQ _ ?_ ?_ ?_ ?_ <;> simp only [getset, Nat.reduceEqDiff, if_false]

theorem key_l0 {a : Frm} {H : Heap} {c : Nat} {K : List UInt8} {e : TypeId} (h0 : a.get 0 = some (.str K)) (h3 : a.get 3 = some (.ptr (some (c, 0)))) (h11 : a.get 11 = some (nn 32)) (h12 : a.get 12 = some (nn 0)) (hK : K.length = 32)
    (hc : H.t.get c = some (.cells (bs (List.replicate 240 0)) e false false)) {Q : AExit → Frm → Heap → Prop}
    (hQ : ∀ a' H', a'.get 3 = a.get 3 → H.next ≤ H'.next → (∀ j, H'.t.get j = if c = j then some (.cells (bs (setK K 32)) e false false) else H.t.get j) → Q .normal a' H') : W E keyLoop0 a H Q := by
  refine W.block ?_
  refine W.count 32 (fun i a' H' => H.next ≤ H'.next ∧ (∀ j, H'.t.get j = if c = j then some (.cells (bs (setK K i)) e false false) else H.t.get j) ∧ a'.get 0 = a.get 0 ∧ a'.get 3 = a.get 3 ∧ a'.get 11 = a.get 11 ∧ a'.get 12 = some (nn i)) ?_ ?_ 0 _ H (by omega) ?_
  · intro i a1 H1 hi ⟨hn, hb, g0, g3, g11, g12⟩
    refine W.seq (W.region ?_)
    rw [h11] at g11
    simp only [w_mov, w_ibin, w_load1, w_loadN, w_nilCheck, w_indexArr, w_indexSl, w_indexVal, w_indexStr, w_lenStr, w_lenSl, w_store, w_alloc, w_box, w_build, w_sliceArr, w_bytesToStr, w_pick, WOps_nil, thenQ_normal, eX_t, eX_c, put_s, put_n, getset, Nat.reduceEqDiff, if_false, if_true, Option.getD_some, rd, natOf_nn, natOf_by, Option.some.injEq, exists_eq_left', Prod.mk.injEq, and_assoc, exists_and_left, true_and, Nat.zero_add, Nat.add_zero, Nat.mul_one, ble_t, mul_nn, quo_nn, rem_nn, add_nn, sub_nn, lss_nn, eql_nn, neq_nn, xor_by, k0, k1, k2, k3, k4, k5, k6, k7, k8, k12, k13, k14, k15, k16, k32, k60, k254, k256, g12, g11]
    refine W.seq (W.cond (b := true) (by simp only [eX_t, eX_c, put_s, put_n, getset, Nat.reduceEqDiff, if_false, if_true, Option.getD_some]; simp [hi]) (W.skip ?_))
    rw [thenQ_normal]
    refine W.seq (W.block (W.seq (W.region ?_)))
    simp only [w_mov, w_ibin, w_load1, w_loadN, w_nilCheck, w_indexArr, w_indexSl, w_indexVal, w_indexStr, w_lenStr, w_lenSl, w_store, w_alloc, w_box, w_build, w_sliceArr, w_bytesToStr, w_pick, WOps_nil, thenQ_normal, eX_t, eX_c, put_s, put_n, getset, Nat.reduceEqDiff, if_false, if_true, Option.getD_some, rd, natOf_nn, natOf_by, Option.some.injEq, exists_eq_left', Prod.mk.injEq, and_assoc, exists_and_left, true_and, Nat.zero_add, Nat.add_zero, Nat.mul_one, ble_t, mul_nn, quo_nn, rem_nn, add_nn, sub_nn, lss_nn, eql_nn, neq_nn, xor_by, k0, k1, k2, k3, k4, k5, k6, k7, k8, k12, k13, k14, k15, k16, k32, k60, k254, k256, g12]
    refine key_d0 (X := setK K i) (K := K) (i := i) (c := c) (e := e) (by simp only [eX_t, eX_c, put_s, put_n, getset, Nat.reduceEqDiff, if_false, if_true, Option.getD_some]; exact g0.trans h0) (by simp only [eX_t, eX_c, put_s, put_n, getset, Nat.reduceEqDiff, if_false, if_true, Option.getD_some]; exact g3.trans h3) (by simp only [eX_t, eX_c, put_s, put_n, getset, Nat.reduceEqDiff, if_false, if_true, Option.getD_some]) hi hK (length_setK K i) (by rw [hb, if_pos rfl]) ?_
    intro a' f0 f3 f11 f12
    simp only [getset, Nat.reduceEqDiff, if_false] at f0 f3 f11 f12
    simp only [blockQ_normal, thenQ_normal]
    rw [g12] at f12
    refine W.region ?_
    simp (disch := omega) only [w_mov, w_ibin, w_load1, w_loadN, w_nilCheck, w_indexArr, w_indexSl, w_indexVal, w_indexStr, w_lenStr, w_lenSl, w_store, w_alloc, w_box, w_build, w_sliceArr, w_bytesToStr, w_pick, WOps_nil, thenQ_normal, eX_t, eX_c, put_s, put_n, getset, Nat.reduceEqDiff, if_false, if_true, Option.getD_some, rd, natOf_nn, natOf_by, Option.some.injEq, exists_eq_left', Prod.mk.injEq, and_assoc, exists_and_left, true_and, Nat.zero_add, Nat.add_zero, Nat.mul_one, ble_t, mul_nn, quo_nn, rem_nn, add_nn, sub_nn, lss_nn, eql_nn, neq_nn, xor_by, k0, k1, k2, k3, k4, k5, k6, k7, k8, k12, k13, k14, k15, k16, k32, k60, k254, k256, f12]
    refine ⟨by omega, ?_, f0.trans g0, f3.trans g3, by rw [f11, g11, h11], trivial⟩
    intro j
    by_cases h : c = j
    · rw [if_pos h, if_pos h, setK]
    · rw [if_neg h, if_neg h, hb, if_neg h]
  · intro a1 H1 ⟨hn, hb, g0, g3, g11, g12⟩
    refine W.seq (W.region ?_)
    rw [h11] at g11
    simp only [w_mov, w_ibin, w_load1, w_loadN, w_nilCheck, w_indexArr, w_indexSl, w_indexVal, w_indexStr, w_lenStr, w_lenSl, w_store, w_alloc, w_box, w_build, w_sliceArr, w_bytesToStr, w_pick, WOps_nil, thenQ_normal, eX_t, eX_c, put_s, put_n, getset, Nat.reduceEqDiff, if_false, if_true, Option.getD_some, rd, natOf_nn, natOf_by, Option.some.injEq, exists_eq_left', Prod.mk.injEq, and_assoc, exists_and_left, true_and, Nat.zero_add, Nat.add_zero, Nat.mul_one, ble_t, mul_nn, quo_nn, rem_nn, add_nn, sub_nn, lss_nn, eql_nn, neq_nn, xor_by, k0, k1, k2, k3, k4, k5, k6, k7, k8, k12, k13, k14, k15, k16, k32, k60, k254, k256, g12, g11]
    refine W.seq (W.cond (b := false) (by simp only [eX_t, eX_c, put_s, put_n, getset, Nat.reduceEqDiff, if_false, if_true, Option.getD_some]; simp) (W.exit ?_))
    refine ⟨nofun, ?_⟩
    simp only [blockQ_exit, Nat.beq_refl, cond_true]
    refine hQ _ _ ?_ hn hb
    simp only [getset, Nat.reduceEqDiff, if_false]
    exact g3
  · refine ⟨Nat.le_refl _, ?_, rfl, rfl, rfl, h12⟩
    intro j
    by_cases h : c = j
    · subst h; rw [if_pos rfl]; exact hc
    · rw [if_neg h]

/-- each of four bytes through the box -/
def boxK (X : List UInt8) : Nat → List UInt8
  | 0 => X
  | k + 1 => (boxK X k).set k (boxL.getD ((boxK X k).getD k 0).toNat 0)
theorem length_boxK (X : List UInt8) : ∀ i, (boxK X i).length = X.length
  | 0 => rfl
  | i + 1 => by rw [boxK, List.length_set, length_boxK X i]

theorem key_d1 (hE : E.funcs 24 = some Aes.af24) (hx : ∀ args H, E.sums 24 args H = none) {a : Frm} {H : Heap} {t i : Nat} {X : List UInt8} {e' : TypeId} (h7 : a.get 7 = some (.ptr (some (t, 0))))
    (h8 : a.get 8 = some (nn i)) (hi : i < 4) (hX : X.length = 4) (htn : t < H.next)
    (ht : H.t.get t = some (.cells (bs X) e' false false)) {Q : AExit → Frm → Heap → Prop}
    (hQ : ∀ a' H', a'.get 3 = a.get 3 → a'.get 5 = a.get 5 → a'.get 6 = a.get 6 → a'.get 7 = a.get 7 → a'.get 48 = a.get 48 → 
      H'.next = H.next + 9 → (∀ j, j < H.next → H'.t.get j = if t = j then some (.cells (bs (X.set i (boxL.getD (X.getD i 0).toNat 0))) e' false false) else H.t.get j) → Q .normal a' H') : W E (.draw keyDraw1) a H Q := by
  refine W_draw (l := _) rfl (N := 8) rfl ?_
  have e0 := getbs (S := X) (i := i) (by omega)
  simp (disch := omega) only [keyDraw1, l_mov, l_ibin, l_load1, l_loadN, l_nilCheck, l_indexArr, l_indexSl, l_indexVal, l_indexStr, l_lenStr, l_lenSl, l_store, l_build, WL_nil, eX_t, eX_c, put_s, put_n, getset, Nat.reduceEqDiff, if_false, if_true, Option.getD_some, rd, natOf_nn, natOf_by, Option.some.injEq, exists_eq_left', Prod.mk.injEq, and_assoc, exists_and_left, true_and, Nat.zero_add, Nat.add_zero, Nat.mul_one, ble_t, mul_nn, quo_nn, rem_nn, add_nn, sub_nn, lss_nn, eql_nn, neq_nn, xor_by, k0, k1, k2, k3, k4, k5, k6, k7, k8, k12, k13, k14, k15, k16, k32, k60, k254, k256, h7, h8, load_blk' ht, e0]
  refine WL_call rfl ?_
  simp only [List.map_nil, List.nil_append, List.append_nil]
  refine box_ok hE (hx _ _) ?_
  intro H1 hn hb
  obtain ⟨T1, n1⟩ := H1
  simp only at hn hb
  subst hn
  have ht1 : T1.get t = some (.cells (bs X) e' false false) := by rw [hb t (by omega)]; exact ht
  have hbl : (X.getD i 0).toNat < 256 := UInt8.toNat_lt _
  simp (disch := omega) only [l_mov, l_ibin, l_load1, l_loadN, l_nilCheck, l_indexArr, l_indexSl, l_indexVal, l_indexStr, l_lenStr, l_lenSl, l_store, l_build, WL_nil, eX_t, eX_c, put_s, put_n, getset, Nat.reduceEqDiff, if_false, if_true, Option.getD_some, rd, natOf_nn, natOf_by, Option.some.injEq, exists_eq_left', Prod.mk.injEq, and_assoc, exists_and_left, true_and, Nat.zero_add, Nat.add_zero, Nat.mul_one, ble_t, mul_nn, quo_nn, rem_nn, add_nn, sub_nn, lss_nn, eql_nn, neq_nn, xor_by, k0, k1, k2, k3, k4, k5, k6, k7, k8, k12, k13, k14, k15, k16, k32, k60, k254, k256, h7, h8, ble_t hbl, getbs (S := boxL) hbl]
  simp (disch := omega) only [wr0_store, l_mov, l_ibin, l_load1, l_loadN, l_nilCheck, l_indexArr, l_indexSl, l_indexVal, l_indexStr, l_lenStr, l_lenSl, l_store, l_build, WL_nil, eX_t, eX_c, put_s, put_n, getset, Nat.reduceEqDiff, if_false, if_true, Option.getD_some, rd, natOf_nn, natOf_by, Option.some.injEq, exists_eq_left', Prod.mk.injEq, and_assoc, exists_and_left, true_and, Nat.zero_add, Nat.add_zero, Nat.mul_one, ble_t, mul_nn, quo_nn, rem_nn, add_nn, sub_nn, lss_nn, eql_nn, neq_nn, xor_by, wst_by ht1]
  refine ⟨?_, _, _, rfl, ?_⟩
  · simp only [stable_cons, stable_nil, sm_mov, sm_ibin, sm_nilCheck, sm_indexArr, sm_indexSl, sm_indexVal, sm_indexStr, sm_lenStr, sm_lenSl, sm_build, sm_store, sm_call, Bool.true_and, Bool.and_true, Bool.and_eq_true, List.reverse_cons, List.reverse_nil, List.nil_append, List.cons_append, List.drop_zero, List.drop_succ_cons, Nat.sub_zero, Nat.succ_eq_add_one, Nat.zero_add, Nat.reduceAdd, Nat.reduceSub, List.take_succ_cons, List.take_zero, List.take_nil]
    refine sm_load1 rfl (b := t) (o := i) (v := by' (X.getD i 0)) ?_ ?_ ?_ (AVbeq_by _)
    · simp only [eX_t, eX_c, put_s, put_n, getset, Nat.reduceEqDiff, if_false, if_true, Option.getD_some]
    · simp only [eX_t, eX_c, put_s, put_n, getset, Nat.reduceEqDiff, if_false, if_true, Option.getD_some]
    · intro H' hH'
      simp only [List.mem_cons, List.not_mem_nil, or_false] at hH'
      rcases hH' with rfl | rfl
      · simp only [load_blk' ht, e0]
      · simp only [load_blk' ht1, e0]
  · refine hQ _ _ ?_ ?_ ?_ ?_ ?_ rfl ?_
    all_goals first
      | (simp only [getset, Nat.reduceEqDiff, if_false]; done)
      | skip
    intro j hj
    simp only [getset]
    by_cases h : t = j
    · subst h; simp only [if_true]
    · rw [if_neg h, if_neg h, hb j (by omega)]

theorem key_l7 (hE : E.funcs 24 = some Aes.af24) (hx : ∀ args H, E.sums 24 args H = none) {a : Frm} {H : Heap} {t : Nat} {X : List UInt8} {e' : TypeId} (h7 : a.get 7 = some (.ptr (some (t, 0))))
    (h48 : a.get 48 = some (nn 0)) (hX : X.length = 4) (htn : t < H.next)
    (ht : H.t.get t = some (.cells (bs X) e' false false)) {Q : AExit → Frm → Heap → Prop}
    (hQ : ∀ a' H', a'.get 3 = a.get 3 → a'.get 5 = a.get 5 → a'.get 6 = a.get 6 → a'.get 7 = a.get 7 → 
      H.next ≤ H'.next → (∀ j, j < H.next → H'.t.get j = if t = j then some (.cells (bs (boxK X 4)) e' false false) else H.t.get j) → Q .normal a' H') : W E keyLoop7 a H Q := by
  refine W.block ?_
  refine W.count 4 (fun i a' H' => H.next ≤ H'.next ∧ (∀ j, j < H.next → H'.t.get j = if t = j then some (.cells (bs (boxK X i)) e' false false) else H.t.get j) ∧ a'.get 3 = a.get 3 ∧ a'.get 5 = a.get 5 ∧ a'.get 6 = a.get 6 ∧ a'.get 7 = a.get 7 ∧ a'.get 48 = some (nn i)) ?_ ?_ 0 _ H (by omega) ?_
  · intro i a1 H1 hi ⟨hn, hb, g3, g5, g6, g7, g48⟩
    refine W.seq (W.region ?_)
    simp only [w_mov, w_ibin, w_load1, w_loadN, w_nilCheck, w_indexArr, w_indexSl, w_indexVal, w_indexStr, w_lenStr, w_lenSl, w_store, w_alloc, w_box, w_build, w_sliceArr, w_bytesToStr, w_pick, WOps_nil, thenQ_normal, eX_t, eX_c, put_s, put_n, getset, Nat.reduceEqDiff, if_false, if_true, Option.getD_some, rd, natOf_nn, natOf_by, Option.some.injEq, exists_eq_left', Prod.mk.injEq, and_assoc, exists_and_left, true_and, Nat.zero_add, Nat.add_zero, Nat.mul_one, ble_t, mul_nn, quo_nn, rem_nn, add_nn, sub_nn, lss_nn, eql_nn, neq_nn, xor_by, k0, k1, k2, k3, k4, k5, k6, k7, k8, k12, k13, k14, k15, k16, k32, k60, k254, k256, g48]
    refine W.seq (W.cond (b := true) (by simp only [eX_t, eX_c, put_s, put_n, getset, Nat.reduceEqDiff, if_false, if_true, Option.getD_some]; simp [hi]) (W.skip ?_))
    rw [thenQ_normal]
    refine W.seq (W.block (W.seq (W.region ?_)))
    simp only [w_mov, w_ibin, w_load1, w_loadN, w_nilCheck, w_indexArr, w_indexSl, w_indexVal, w_indexStr, w_lenStr, w_lenSl, w_store, w_alloc, w_box, w_build, w_sliceArr, w_bytesToStr, w_pick, WOps_nil, thenQ_normal, eX_t, eX_c, put_s, put_n, getset, Nat.reduceEqDiff, if_false, if_true, Option.getD_some, rd, natOf_nn, natOf_by, Option.some.injEq, exists_eq_left', Prod.mk.injEq, and_assoc, exists_and_left, true_and, Nat.zero_add, Nat.add_zero, Nat.mul_one, ble_t, mul_nn, quo_nn, rem_nn, add_nn, sub_nn, lss_nn, eql_nn, neq_nn, xor_by, k0, k1, k2, k3, k4, k5, k6, k7, k8, k12, k13, k14, k15, k16, k32, k60, k254, k256, g48]
    refine key_d1 (X := boxK X i) (i := i) (t := t) (e' := e') hE hx (by simp only [eX_t, eX_c, put_s, put_n, getset, Nat.reduceEqDiff, if_false, if_true, Option.getD_some]; exact g7.trans h7) (by simp only [eX_t, eX_c, put_s, put_n, getset, Nat.reduceEqDiff, if_false, if_true, Option.getD_some]) hi (by rw [length_boxK]; exact hX) (by omega) (by rw [hb t htn, if_pos rfl]) ?_
    intro a' H' f3 f5 f6 f7 f48 fn fb
    simp only [getset, Nat.reduceEqDiff, if_false] at f3 f5 f6 f7 f48
    simp only [blockQ_normal, thenQ_normal]
    refine W.region ?_
    rw [g48] at f48
    simp (disch := omega) only [w_mov, w_ibin, w_load1, w_loadN, w_nilCheck, w_indexArr, w_indexSl, w_indexVal, w_indexStr, w_lenStr, w_lenSl, w_store, w_alloc, w_box, w_build, w_sliceArr, w_bytesToStr, w_pick, WOps_nil, thenQ_normal, eX_t, eX_c, put_s, put_n, getset, Nat.reduceEqDiff, if_false, if_true, Option.getD_some, rd, natOf_nn, natOf_by, Option.some.injEq, exists_eq_left', Prod.mk.injEq, and_assoc, exists_and_left, true_and, Nat.zero_add, Nat.add_zero, Nat.mul_one, ble_t, mul_nn, quo_nn, rem_nn, add_nn, sub_nn, lss_nn, eql_nn, neq_nn, xor_by, k0, k1, k2, k3, k4, k5, k6, k7, k8, k12, k13, k14, k15, k16, k32, k60, k254, k256, f48]
    refine ⟨by omega, ?_, f3.trans g3, f5.trans g5, f6.trans g6, f7.trans g7, trivial⟩
    intro j hj
    rw [fb j (by omega)]
    by_cases h : t = j
    · rw [if_pos h, if_pos h, boxK]
    · rw [if_neg h, if_neg h, hb j hj, if_neg h]
  · intro a1 H1 ⟨hn, hb, g3, g5, g6, g7, g48⟩
    refine W.seq (W.region ?_)
    simp only [w_mov, w_ibin, w_load1, w_loadN, w_nilCheck, w_indexArr, w_indexSl, w_indexVal, w_indexStr, w_lenStr, w_lenSl, w_store, w_alloc, w_box, w_build, w_sliceArr, w_bytesToStr, w_pick, WOps_nil, thenQ_normal, eX_t, eX_c, put_s, put_n, getset, Nat.reduceEqDiff, if_false, if_true, Option.getD_some, rd, natOf_nn, natOf_by, Option.some.injEq, exists_eq_left', Prod.mk.injEq, and_assoc, exists_and_left, true_and, Nat.zero_add, Nat.add_zero, Nat.mul_one, ble_t, mul_nn, quo_nn, rem_nn, add_nn, sub_nn, lss_nn, eql_nn, neq_nn, xor_by, k0, k1, k2, k3, k4, k5, k6, k7, k8, k12, k13, k14, k15, k16, k32, k60, k254, k256, g48]
    refine W.seq (W.cond (b := false) (by simp only [eX_t, eX_c, put_s, put_n, getset, Nat.reduceEqDiff, if_false, if_true, Option.getD_some]; simp) (W.exit ?_))
    refine ⟨nofun, ?_⟩
    simp only [blockQ_exit, Nat.beq_refl, cond_true]
    refine hQ _ _ ?_ ?_ ?_ ?_ hn hb <;> simp only [getset, Nat.reduceEqDiff, if_false] <;> assumption
  · refine ⟨Nat.le_refl _, ?_, rfl, rfl, rfl, rfl, h48⟩
    intro j hj
    by_cases h : t = j
    · subst h; rw [if_pos rfl]; exact ht
    · rw [if_neg h]

/-- a new word: of the one eight ahead, and t -/
def lastK (C X : List UInt8) (i : Nat) : Nat → List UInt8
  | 0 => C
  | k + 1 => (lastK C X i k).set (i * 4 + k) ((lastK C X i k).getD ((i - 8) * 4 + k) 0 ^^^ X.getD k 0)
theorem length_lastK (C X : List UInt8) (i : Nat) : ∀ k, (lastK C X i k).length = C.length
  | 0 => rfl
  | k + 1 => by rw [lastK, List.length_set, length_lastK C X i k]

theorem key_d2 {a : Frm} {H : Heap} {c t i k : Nat} {C X : List UInt8} {e e' : TypeId} (h3 : a.get 3 = some (.ptr (some (c, 0)))) (h6 : a.get 6 = some (nn i)) (h7 : a.get 7 = some (.ptr (some (t, 0))))
    (h9 : a.get 9 = some (nn k)) (hk : k < 4) (hi : i < 60) (hi8 : 8 ≤ i) (hC : C.length = 240) (hX : X.length = 4)
    (hc : H.t.get c = some (.cells (bs C) e false false)) (ht : H.t.get t = some (.cells (bs X) e' false false)) {Q : AExit → Frm → Heap → Prop}
    (hQ : ∀ a', a'.get 3 = a.get 3 → a'.get 5 = a.get 5 → a'.get 6 = a.get 6 → a'.get 7 = a.get 7 → a'.get 69 = a.get 69 → 
      Q .normal a' ⟨H.t.set c (.cells (bs (C.set (i * 4 + k) (C.getD ((i - 8) * 4 + k) 0 ^^^ X.getD k 0))) e false false), H.next + 15⟩) : W E (.draw keyDraw2) a H Q := by
  refine W_draw (l := _) rfl (N := 15) rfl ?_
  have e0 := getbs (S := C) (i := (i - 8) * 4 + k) (by omega)
  have e1 := getbs (S := X) (i := k) (by omega)
  simp (disch := omega) only [keyDraw2, l_mov, l_ibin, l_load1, l_loadN, l_nilCheck, l_indexArr, l_indexSl, l_indexVal, l_indexStr, l_lenStr, l_lenSl, l_store, l_build, WL_nil, eX_t, eX_c, put_s, put_n, getset, Nat.reduceEqDiff, if_false, if_true, Option.getD_some, rd, natOf_nn, natOf_by, Option.some.injEq, exists_eq_left', Prod.mk.injEq, and_assoc, exists_and_left, true_and, Nat.zero_add, Nat.add_zero, Nat.mul_one, ble_t, mul_nn, quo_nn, rem_nn, add_nn, sub_nn, lss_nn, eql_nn, neq_nn, xor_by, k0, k1, k2, k3, k4, k5, k6, k7, k8, k12, k13, k14, k15, k16, k32, k60, k254, k256, h3, h6, h7, h9, load_blk' hc, load_blk' ht, e0, e1]
  simp (disch := omega) only [wr0_store, l_mov, l_ibin, l_load1, l_loadN, l_nilCheck, l_indexArr, l_indexSl, l_indexVal, l_indexStr, l_lenStr, l_lenSl, l_store, l_build, WL_nil, eX_t, eX_c, put_s, put_n, getset, Nat.reduceEqDiff, if_false, if_true, Option.getD_some, rd, natOf_nn, natOf_by, Option.some.injEq, exists_eq_left', Prod.mk.injEq, and_assoc, exists_and_left, true_and, Nat.zero_add, Nat.add_zero, Nat.mul_one, ble_t, mul_nn, quo_nn, rem_nn, add_nn, sub_nn, lss_nn, eql_nn, neq_nn, xor_by, wst_by hc]
  refine ⟨?_, _, _, rfl, ?_⟩
  · simp only [stable_cons, stable_nil, sm_mov, sm_ibin, sm_nilCheck, sm_indexArr, sm_indexSl, sm_indexVal, sm_indexStr, sm_lenStr, sm_lenSl, sm_build, sm_store, sm_call, Bool.true_and, Bool.and_true, Bool.and_eq_true, List.reverse_cons, List.reverse_nil, List.nil_append, List.cons_append, List.drop_zero, List.drop_succ_cons, Nat.sub_zero, Nat.succ_eq_add_one, Nat.zero_add, Nat.reduceAdd, Nat.reduceSub, List.take_succ_cons, List.take_zero, List.take_nil]
    refine ⟨sm_load1 rfl (b := c) (o := (i - 8) * 4 + k) (v := by' (C.getD ((i - 8) * 4 + k) 0)) ?_ ?_ ?_ (AVbeq_by _), sm_load1 rfl (b := t) (o := k) (v := by' (X.getD k 0)) ?_ ?_ ?_ (AVbeq_by _)⟩
    all_goals first
      | simp only [eX_t, eX_c, put_s, put_n, getset, Nat.reduceEqDiff, if_false, if_true, Option.getD_some]; done
      | (intro H' hH'; simp only [List.mem_singleton] at hH'; subst hH'; simp only [load_blk' hc, load_blk' ht, e0, e1])
  · refine hQ _ ?_ ?_ ?_ ?_ ?_ <;> simp only [getset, Nat.reduceEqDiff, if_false]

theorem key_l9 {a : Frm} {H : Heap} {c t i : Nat} {C X : List UInt8} {e e' : TypeId} (h3 : a.get 3 = some (.ptr (some (c, 0)))) (h6 : a.get 6 = some (nn i)) (h7 : a.get 7 = some (.ptr (some (t, 0))))
    (h69 : a.get 69 = some (nn 0)) (hi : i < 60) (hi8 : 8 ≤ i) (hC : C.length = 240) (hX : X.length = 4) (hct : c ≠ t)
    (hc : H.t.get c = some (.cells (bs C) e false false)) (ht : H.t.get t = some (.cells (bs X) e' false false)) {Q : AExit → Frm → Heap → Prop}
    (hQ : ∀ a' H', a'.get 3 = a.get 3 → a'.get 5 = a.get 5 → a'.get 6 = a.get 6 → 
      H.next ≤ H'.next → (∀ j, H'.t.get j = if c = j then some (.cells (bs (lastK C X i 4)) e false false) else H.t.get j) → Q .normal a' H') : W E keyLoop9 a H Q := by
  refine W.block ?_
  refine W.count 4 (fun k a' H' => H.next ≤ H'.next ∧ (∀ j, H'.t.get j = if c = j then some (.cells (bs (lastK C X i k)) e false false) else H.t.get j) ∧ a'.get 3 = a.get 3 ∧ a'.get 5 = a.get 5 ∧ a'.get 6 = a.get 6 ∧ a'.get 7 = a.get 7 ∧ a'.get 69 = some (nn k)) ?_ ?_ 0 _ H (by omega) ?_
  · intro k a1 H1 hk ⟨hn, hb, g3, g5, g6, g7, g69⟩
    refine W.seq (W.region ?_)
    simp only [w_mov, w_ibin, w_load1, w_loadN, w_nilCheck, w_indexArr, w_indexSl, w_indexVal, w_indexStr, w_lenStr, w_lenSl, w_store, w_alloc, w_box, w_build, w_sliceArr, w_bytesToStr, w_pick, WOps_nil, thenQ_normal, eX_t, eX_c, put_s, put_n, getset, Nat.reduceEqDiff, if_false, if_true, Option.getD_some, rd, natOf_nn, natOf_by, Option.some.injEq, exists_eq_left', Prod.mk.injEq, and_assoc, exists_and_left, true_and, Nat.zero_add, Nat.add_zero, Nat.mul_one, ble_t, mul_nn, quo_nn, rem_nn, add_nn, sub_nn, lss_nn, eql_nn, neq_nn, xor_by, k0, k1, k2, k3, k4, k5, k6, k7, k8, k12, k13, k14, k15, k16, k32, k60, k254, k256, g69]
    refine W.seq (W.cond (b := true) (by simp only [eX_t, eX_c, put_s, put_n, getset, Nat.reduceEqDiff, if_false, if_true, Option.getD_some]; simp [hk]) (W.skip ?_))
    rw [thenQ_normal]
    refine W.seq (W.block (W.seq (W.region ?_)))
    simp only [w_mov, w_ibin, w_load1, w_loadN, w_nilCheck, w_indexArr, w_indexSl, w_indexVal, w_indexStr, w_lenStr, w_lenSl, w_store, w_alloc, w_box, w_build, w_sliceArr, w_bytesToStr, w_pick, WOps_nil, thenQ_normal, eX_t, eX_c, put_s, put_n, getset, Nat.reduceEqDiff, if_false, if_true, Option.getD_some, rd, natOf_nn, natOf_by, Option.some.injEq, exists_eq_left', Prod.mk.injEq, and_assoc, exists_and_left, true_and, Nat.zero_add, Nat.add_zero, Nat.mul_one, ble_t, mul_nn, quo_nn, rem_nn, add_nn, sub_nn, lss_nn, eql_nn, neq_nn, xor_by, k0, k1, k2, k3, k4, k5, k6, k7, k8, k12, k13, k14, k15, k16, k32, k60, k254, k256, g69]
    refine key_d2 (C := lastK C X i k) (X := X) (i := i) (k := k) (c := c) (t := t) (e := e) (e' := e') (by simp only [eX_t, eX_c, put_s, put_n, getset, Nat.reduceEqDiff, if_false, if_true, Option.getD_some]; exact g3.trans h3) (by simp only [eX_t, eX_c, put_s, put_n, getset, Nat.reduceEqDiff, if_false, if_true, Option.getD_some]; exact g6.trans h6) (by simp only [eX_t, eX_c, put_s, put_n, getset, Nat.reduceEqDiff, if_false, if_true, Option.getD_some]; exact g7.trans h7) (by simp only [eX_t, eX_c, put_s, put_n, getset, Nat.reduceEqDiff, if_false, if_true, Option.getD_some]) hk hi hi8 (by rw [length_lastK]; exact hC) hX (by rw [hb, if_pos rfl]) (by rw [hb, if_neg hct]; exact ht) ?_
    intro a' f3 f5 f6 f7 f69
    simp only [getset, Nat.reduceEqDiff, if_false] at f3 f5 f6 f7 f69
    simp only [blockQ_normal, thenQ_normal]
    refine W.region ?_
    rw [g69] at f69
    simp (disch := omega) only [w_mov, w_ibin, w_load1, w_loadN, w_nilCheck, w_indexArr, w_indexSl, w_indexVal, w_indexStr, w_lenStr, w_lenSl, w_store, w_alloc, w_box, w_build, w_sliceArr, w_bytesToStr, w_pick, WOps_nil, thenQ_normal, eX_t, eX_c, put_s, put_n, getset, Nat.reduceEqDiff, if_false, if_true, Option.getD_some, rd, natOf_nn, natOf_by, Option.some.injEq, exists_eq_left', Prod.mk.injEq, and_assoc, exists_and_left, true_and, Nat.zero_add, Nat.add_zero, Nat.mul_one, ble_t, mul_nn, quo_nn, rem_nn, add_nn, sub_nn, lss_nn, eql_nn, neq_nn, xor_by, k0, k1, k2, k3, k4, k5, k6, k7, k8, k12, k13, k14, k15, k16, k32, k60, k254, k256, f69]
    refine ⟨by omega, ?_, f3.trans g3, f5.trans g5, f6.trans g6, f7.trans g7, trivial⟩
    intro j
    by_cases h : c = j
    · rw [if_pos h, if_pos h, lastK]
    · rw [if_neg h, if_neg h, hb j, if_neg h]
  · intro a1 H1 ⟨hn, hb, g3, g5, g6, g7, g69⟩
    refine W.seq (W.region ?_)
    simp only [w_mov, w_ibin, w_load1, w_loadN, w_nilCheck, w_indexArr, w_indexSl, w_indexVal, w_indexStr, w_lenStr, w_lenSl, w_store, w_alloc, w_box, w_build, w_sliceArr, w_bytesToStr, w_pick, WOps_nil, thenQ_normal, eX_t, eX_c, put_s, put_n, getset, Nat.reduceEqDiff, if_false, if_true, Option.getD_some, rd, natOf_nn, natOf_by, Option.some.injEq, exists_eq_left', Prod.mk.injEq, and_assoc, exists_and_left, true_and, Nat.zero_add, Nat.add_zero, Nat.mul_one, ble_t, mul_nn, quo_nn, rem_nn, add_nn, sub_nn, lss_nn, eql_nn, neq_nn, xor_by, k0, k1, k2, k3, k4, k5, k6, k7, k8, k12, k13, k14, k15, k16, k32, k60, k254, k256, g69]
    refine W.seq (W.cond (b := false) (by simp only [eX_t, eX_c, put_s, put_n, getset, Nat.reduceEqDiff, if_false, if_true, Option.getD_some]; simp) (W.exit ?_))
    refine ⟨nofun, ?_⟩
    simp only [blockQ_exit, Nat.beq_refl, cond_true]
    refine hQ _ _ ?_ ?_ ?_ hn hb <;> simp only [getset, Nat.reduceEqDiff, if_false] <;> assumption
  · refine ⟨Nat.le_refl _, ?_, rfl, rfl, rfl, rfl, h69⟩
    intro j
    by_cases h : c = j
    · subst h; rw [if_pos rfl]; exact hc
    · rw [if_neg h]
end Go.AE
end
-- Contracts of aes: keys, all; Block.
section
set_option linter.unusedVariables false
set_option linter.unusedSimpArgs false
set_option maxRecDepth 100000
set_option maxHeartbeats 600000
namespace Go.AE
variable {E : Env}

attribute [local irreducible] setK boxK lastK

/-- the word ahead, turned where it is the first of eight, through the box there and in the middle -/
def wordP (X : List UInt8) (i : Nat) : List UInt8 :=
  if i % 8 = 0 then boxK [X.getD 1 0, X.getD 2 0, X.getD 3 0, X.getD 0 0] 4 else if i % 8 = 4 then boxK X 4 else X

theorem length_wordP {X : List UInt8} (h : X.length = 4) (i : Nat) : (wordP X i).length = 4 := by
  unfold wordP
  split
  · rw [length_boxK]; rfl
  · split
    · rw [length_boxK, h]
    · exact h

theorem build4 {a : Frm} {H : Heap} {x y z u : AX} {p q r s : UInt8} {e0 e1 e2 e3 : AV} (hx : evalX a x = by' p) (hy : evalX a y = by' q) (hz : evalX a z = by' r) (hu : evalX a u = by' s) :
    rd (.build [e0, e1, e2, e3] [(0, (1, x)), (1, (1, y)), (2, (1, z)), (3, (1, u))]) a H = some (.agg (bs [p, q, r, s])) := by
  simp only [rd, List.map_cons, List.map_nil, hx, hy, hz, hu, fillA, cells_by, lay]
  rfl

theorem four_store {T0 : T ABlk} {nx t : Nat} {X : List UInt8} {e : TypeId} {op : Bool} (h : T0.get t = some (.cells (bs X) e op false)) (hX : X.length = 4) (p q r s : UInt8) :
    wst 4 (.ptr (some (t, 0))) (.agg (bs [p, q, r, s])) ⟨T0, nx⟩ = some (aundef, ⟨T0.set t (.cells (bs [p, q, r, s]) e op false), nx⟩) := wst_agg h hX rfl

theorem key_sw (hE : E.funcs 24 = some Aes.af24) (hx : ∀ args H, E.sums 24 args H = none) {a : Frm} {H : Heap} {t i : Nat} {X : List UInt8} {e' : TypeId} (h7 : a.get 7 = some (.ptr (some (t, 0))))
    (h34 : a.get 34 = some (nn (i % 8))) (hX : X.length = 4) (htn : t < H.next)
    (ht : H.t.get t = some (.cells (bs X) e' false false)) {Q : AExit → Frm → Heap → Prop}
    (hQ : ∀ a' H', a'.get 3 = a.get 3 → a'.get 5 = a.get 5 → a'.get 6 = a.get 6 → a'.get 7 = a.get 7 → 
      H.next ≤ H'.next → (∀ j, j < H.next → H'.t.get j = if t = j then some (.cells (bs (wordP X i)) e' false false) else H.t.get j) → Q .normal a' H') : W E keySwitch a H Q := by
  obtain ⟨T0, n0⟩ := H
  simp only at htn ht hQ
  have e0 := getbs (S := X) (i := 0) (by omega)
  have e1 := getbs (S := X) (i := 1) (by omega)
  have e2 := getbs (S := X) (i := 2) (by omega)
  have e3 := getbs (S := X) (i := 3) (by omega)
  refine W.block (W.seq (W.block (W.seq (W.block (W.seq (W.seq (W.seq (W.region ?_))))))))
  simp only [w_mov, w_ibin, w_load1, w_loadN, w_nilCheck, w_indexArr, w_indexSl, w_indexVal, w_indexStr, w_lenStr, w_lenSl, w_store, w_alloc, w_box, w_build, w_sliceArr, w_bytesToStr, w_pick, WOps_nil, thenQ_normal, eX_t, eX_c, put_s, put_n, getset, Nat.reduceEqDiff, if_false, if_true, Option.getD_some, rd, natOf_nn, natOf_by, Option.some.injEq, exists_eq_left', Prod.mk.injEq, and_assoc, exists_and_left, true_and, Nat.zero_add, Nat.add_zero, Nat.mul_one, ble_t, mul_nn, quo_nn, rem_nn, add_nn, sub_nn, lss_nn, eql_nn, neq_nn, xor_by, k0, k1, k2, k3, k4, k5, k6, k7, k8, k12, k13, k14, k15, k16, k32, k60, k254, k256, h34]
  by_cases h0 : i % 8 = 0
  · refine W.cond (b := true) (by simp only [eX_t, eX_c, put_s, put_n, getset, Nat.reduceEqDiff, if_false, if_true, Option.getD_some]; simp [h0]) (W.exit ?_)
    simp only [thenQ_exit, blockQ_exit, Nat.beq_refl, cond_true, thenQ_normal]
    refine W.region ?_
    simp (disch := omega) only [w_indexArr, w_load1, eX_t, eX_c, put_s, put_n, getset, Nat.reduceEqDiff, if_false, if_true, Option.getD_some, rd, natOf_nn, natOf_by, Option.some.injEq, exists_eq_left', Prod.mk.injEq, and_assoc, exists_and_left, true_and, Nat.zero_add, Nat.add_zero, Nat.mul_one, ble_t, mul_nn, quo_nn, rem_nn, add_nn, sub_nn, lss_nn, eql_nn, neq_nn, xor_by, k0, k1, k2, k3, k4, k5, k6, k7, k8, k12, k13, k14, k15, k16, k32, k60, k254, k256, h7, load_blk' ht, e0, e1, e2, e3]
    rw [w_build]
    refine ⟨_, build4 (p := X.getD 1 0) (q := X.getD 2 0) (r := X.getD 3 0) (s := X.getD 0 0) (by simp only [eX_t, eX_c, put_s, put_n, getset, Nat.reduceEqDiff, if_false, if_true, Option.getD_some]) (by simp only [eX_t, eX_c, put_s, put_n, getset, Nat.reduceEqDiff, if_false, if_true, Option.getD_some]) (by simp only [eX_t, eX_c, put_s, put_n, getset, Nat.reduceEqDiff, if_false, if_true, Option.getD_some]) (by simp only [eX_t, eX_c, put_s, put_n, getset, Nat.reduceEqDiff, if_false, if_true, Option.getD_some]), ?_⟩
    simp only [w_store, eX_t, eX_c, put_s, put_n, getset, Nat.reduceEqDiff, if_false, if_true, Option.getD_some, h7, four_store ht hX, Option.some.injEq, Prod.mk.injEq, exists_eq_left', and_assoc, exists_and_left, WOps_nil, blockQ_normal, thenQ_normal]
    refine W.seq (W.seq (W.region ?_))
    simp only [w_mov, w_ibin, w_load1, w_loadN, w_nilCheck, w_indexArr, w_indexSl, w_indexVal, w_indexStr, w_lenStr, w_lenSl, w_store, w_alloc, w_box, w_build, w_sliceArr, w_bytesToStr, w_pick, WOps_nil, thenQ_normal, eX_t, eX_c, put_s, put_n, getset, Nat.reduceEqDiff, if_false, if_true, Option.getD_some, rd, natOf_nn, natOf_by, Option.some.injEq, exists_eq_left', Prod.mk.injEq, and_assoc, exists_and_left, true_and, Nat.zero_add, Nat.add_zero, Nat.mul_one, ble_t, mul_nn, quo_nn, rem_nn, add_nn, sub_nn, lss_nn, eql_nn, neq_nn, xor_by, k0, k1, k2, k3, k4, k5, k6, k7, k8, k12, k13, k14, k15, k16, k32, k60, k254, k256]
    refine key_l7 (X := [X.getD 1 0, X.getD 2 0, X.getD 3 0, X.getD 0 0]) (t := t) (e' := e') hE hx (by simp only [eX_t, eX_c, put_s, put_n, getset, Nat.reduceEqDiff, if_false, if_true, Option.getD_some]; exact h7) (by simp only [eX_t, eX_c, put_s, put_n, getset, Nat.reduceEqDiff, if_false, if_true, Option.getD_some]) rfl htn (by simp only [eX_t, eX_c, put_s, put_n, getset, Nat.reduceEqDiff, if_false, if_true, Option.getD_some]) ?_
    intro a' H' f3 f5 f6 f7 fn fb
    simp only [getset, Nat.reduceEqDiff, if_false] at f3 f5 f6 f7 fn fb
    rw [thenQ_normal]
    refine W.exit ?_
    simp only [blockQ_exit, Nat.beq_refl, cond_true]
    refine hQ _ _ f3 f5 f6 f7 fn fun j hj => ?_
    rw [fb j hj]
    by_cases h : t = j
    · rw [if_pos h, if_pos h, wordP, if_pos h0]
    · rw [if_neg h, if_neg h, if_neg h]
  · refine W.cond (b := false) (by simp only [eX_t, eX_c, put_s, put_n, getset, Nat.reduceEqDiff, if_false, if_true, Option.getD_some]; simp [h0]) (W.skip ?_)
    rw [thenQ_normal]
    refine W.seq (W.region ?_)
    simp only [w_mov, w_ibin, w_load1, w_loadN, w_nilCheck, w_indexArr, w_indexSl, w_indexVal, w_indexStr, w_lenStr, w_lenSl, w_store, w_alloc, w_box, w_build, w_sliceArr, w_bytesToStr, w_pick, WOps_nil, thenQ_normal, eX_t, eX_c, put_s, put_n, getset, Nat.reduceEqDiff, if_false, if_true, Option.getD_some, rd, natOf_nn, natOf_by, Option.some.injEq, exists_eq_left', Prod.mk.injEq, and_assoc, exists_and_left, true_and, Nat.zero_add, Nat.add_zero, Nat.mul_one, ble_t, mul_nn, quo_nn, rem_nn, add_nn, sub_nn, lss_nn, eql_nn, neq_nn, xor_by, k0, k1, k2, k3, k4, k5, k6, k7, k8, k12, k13, k14, k15, k16, k32, k60, k254, k256, h34]
    by_cases h4 : i % 8 = 4
    · refine W.cond (b := true) (by simp only [eX_t, eX_c, put_s, put_n, getset, Nat.reduceEqDiff, if_false, if_true, Option.getD_some]; simp [h4]) (W.exit ?_)
      simp only [thenQ_exit, blockQ_exit, show Nat.beq 6 5 = false from rfl, Nat.beq_refl, cond_true, cond_false, thenQ_normal]
      refine W.seq (W.seq (W.region ?_))
      simp only [w_mov, w_ibin, w_load1, w_loadN, w_nilCheck, w_indexArr, w_indexSl, w_indexVal, w_indexStr, w_lenStr, w_lenSl, w_store, w_alloc, w_box, w_build, w_sliceArr, w_bytesToStr, w_pick, WOps_nil, thenQ_normal, eX_t, eX_c, put_s, put_n, getset, Nat.reduceEqDiff, if_false, if_true, Option.getD_some, rd, natOf_nn, natOf_by, Option.some.injEq, exists_eq_left', Prod.mk.injEq, and_assoc, exists_and_left, true_and, Nat.zero_add, Nat.add_zero, Nat.mul_one, ble_t, mul_nn, quo_nn, rem_nn, add_nn, sub_nn, lss_nn, eql_nn, neq_nn, xor_by, k0, k1, k2, k3, k4, k5, k6, k7, k8, k12, k13, k14, k15, k16, k32, k60, k254, k256]
      refine key_l7 (X := X) (t := t) (e' := e') hE hx (by simp only [eX_t, eX_c, put_s, put_n, getset, Nat.reduceEqDiff, if_false, if_true, Option.getD_some]; exact h7) (by simp only [eX_t, eX_c, put_s, put_n, getset, Nat.reduceEqDiff, if_false, if_true, Option.getD_some]) hX htn ht ?_
      intro a' H' f3 f5 f6 f7 fn fb
      simp only [getset, Nat.reduceEqDiff, if_false] at f3 f5 f6 f7 fn fb
      rw [thenQ_normal]
      refine W.exit ?_
      simp only [blockQ_exit, Nat.beq_refl, cond_true]
      refine hQ _ _ f3 f5 f6 f7 fn fun j hj => ?_
      rw [fb j hj]
      by_cases h : t = j
      · rw [if_pos h, if_pos h, wordP, if_neg h0, if_pos h4]
      · rw [if_neg h, if_neg h]
    · refine W.cond (b := false) (by simp only [eX_t, eX_c, put_s, put_n, getset, Nat.reduceEqDiff, if_false, if_true, Option.getD_some]; simp [h4]) (W.skip ?_)
      simp only [thenQ_normal]
      refine W.exit ?_
      simp only [thenQ_exit, blockQ_exit, show Nat.beq 4 5 = false from rfl, show Nat.beq 4 6 = false from rfl, Nat.beq_refl, cond_true, cond_false, thenQ_normal]
      refine hQ _ _ ?_ ?_ ?_ ?_ (Nat.le_refl _) fun j hj => ?_
      · simp only [getset, Nat.reduceEqDiff, if_false]
      · simp only [getset, Nat.reduceEqDiff, if_false]
      · simp only [getset, Nat.reduceEqDiff, if_false]
      · simp only [getset, Nat.reduceEqDiff, if_false]
      · by_cases h : t = j
        · subst h; rw [if_pos rfl, wordP, if_neg h0, if_neg h4]; exact ht
        · rw [if_neg h]

/-- the words so far, and the power -/
def wordsP (K : List UInt8) : Nat → List UInt8 × UInt8
  | 0 => (setK K 32, 1)
  | m + 1 =>
    let C := (wordsP K m).1
    let p := (wordsP K m).2
    let X := (C.drop ((m + 8 - 1) * 4)).take 4
    let Y := wordP X (m + 8)
    if (m + 8) % 8 = 0 then (lastK C (Y.set 0 (Y.getD 0 0 ^^^ p)) (m + 8) 4, tw p) else (lastK C Y (m + 8) 4, p)

theorem length_wordsP (K : List UInt8) : ∀ m, (wordsP K m).1.length = 240
  | 0 => by simp only [wordsP, length_setK]
  | m + 1 => by
    simp only [wordsP]
    split
    · rw [length_lastK, length_wordsP K m]
    · rw [length_lastK, length_wordsP K m]

theorem wordsP0 (K : List UInt8) : wordsP K 0 = (setK K 32, 1) := by simp only [wordsP]
theorem loadN_part {T0 : T ABlk} {nx b o n : Nat} {S : List UInt8} {e : TypeId} {op ro : Bool} (h : T0.get b = some (.cells (bs S) e op ro)) (hl : o + n ≤ S.length) : Heap.loadN ⟨T0, nx⟩ b o n = some (bs ((S.drop o).take n)) := by
  have e1 : ((bs S).drop o).take n = bs ((S.drop o).take n) := by simp [bs, List.map_drop, List.map_take]
  have e2 : Nat.beq (bs ((S.drop o).take n)).length n = true := by
    rw [length_bs, List.length_take, List.length_drop, Nat.min_eq_left (by omega)]; exact Nat.beq_refl n
  simp only [Heap.loadN, Heap.cellsAt, h, grab, e1, e2, cond_true]

theorem zero4 : [AV.int .u8 0, .int .u8 0, .int .u8 0, .int .u8 0] = bs (List.replicate 4 0) := rfl

theorem key_main (hE : ∀ f, E.funcs f = Aes.funcsT.get f) (hx : ∀ f args H, special f = false → E.sums f args H = none) {a : Frm} {H : Heap} {c : Nat} {K : List UInt8} (h3 : a.get 3 = some (.ptr (some (c, 0)))) (h5 : a.get 5 = some (by' 1)) (h6 : a.get 6 = some (nn 8))
    (hcn : c < H.next) (hc : H.t.get c = some (.cells (bs (setK K 32)) 53 false false)) {Q : AExit → Frm → Heap → Prop}
    (hQ : ∀ a' H', a'.get 3 = a.get 3 → H.next ≤ H'.next → (∀ j, j < H.next → H'.t.get j = if c = j then some (.cells (bs (wordsP K 52).1) 53 false false) else H.t.get j) → Q .normal a' H') : W E keyMain a H Q := by
  have hE24 : E.funcs 24 = some Aes.af24 := (hE 24).trans rfl
  have hx24 : ∀ args H, E.sums 24 args H = none := fun args H => hx 24 args H (by decide)
  have hE25 : E.funcs 25 = some Aes.af25 := (hE 25).trans rfl
  have hx25 : ∀ args H, E.sums 25 args H = none := fun args H => hx 25 args H (by decide)
  refine W.block ?_
  refine W.count 52 (fun m a' H' => H.next ≤ H'.next ∧ (∀ j, j < H.next → H'.t.get j = if c = j then some (.cells (bs (wordsP K m).1) 53 false false) else H.t.get j) ∧ a'.get 3 = a.get 3 ∧ a'.get 5 = some (by' (wordsP K m).2) ∧ a'.get 6 = some (nn (m + 8))) ?_ ?_ 0 _ H (by omega) ?_
  · intro m a1 H1 hm ⟨hn, hb, g3, g5, g6⟩
    rw [h3] at g3
    refine W.seq (W.seq (W.region ?_))
    simp only [w_mov, w_ibin, w_load1, w_loadN, w_nilCheck, w_indexArr, w_indexSl, w_indexVal, w_indexStr, w_lenStr, w_lenSl, w_store, w_alloc, w_box, w_build, w_sliceArr, w_bytesToStr, w_pick, WOps_nil, thenQ_normal, eX_t, eX_c, put_s, put_n, getset, Nat.reduceEqDiff, if_false, if_true, Option.getD_some, rd, natOf_nn, natOf_by, Option.some.injEq, exists_eq_left', Prod.mk.injEq, and_assoc, exists_and_left, true_and, Nat.zero_add, Nat.add_zero, Nat.mul_one, ble_t, mul_nn, quo_nn, rem_nn, add_nn, sub_nn, lss_nn, eql_nn, neq_nn, xor_by, k0, k1, k2, k3, k4, k5, k6, k7, k8, k12, k13, k14, k15, k16, k32, k60, k254, k256, g6]
    refine W.cond (b := true) (by simp only [eX_t, eX_c, put_s, put_n, getset, Nat.reduceEqDiff, if_false, if_true, Option.getD_some]; simp; omega) (W.skip ?_)
    rw [thenQ_normal]
    refine W.seq (W.block (W.seq (W.region ?_)))
    obtain ⟨T1, n1⟩ := H1
    simp only at hn hb
    have hc1 : T1.get c = some (.cells (bs (wordsP K m).1) 53 false false) := by rw [hb c hcn, if_pos rfl]
    simp (disch := omega) only [w_mov, w_ibin, w_indexArr, w_loadN, eX_t, eX_c, put_s, put_n, getset, Nat.reduceEqDiff, if_false, if_true, Option.getD_some, rd, natOf_nn, natOf_by, Option.some.injEq, exists_eq_left', Prod.mk.injEq, and_assoc, exists_and_left, true_and, Nat.zero_add, Nat.add_zero, Nat.mul_one, ble_t, mul_nn, quo_nn, rem_nn, add_nn, sub_nn, lss_nn, eql_nn, neq_nn, xor_by, k0, k1, k2, k3, k4, k5, k6, k7, k8, k12, k13, k14, k15, k16, k32, k60, k254, k256, g3, g6]
    rw [loadN_part hc1 (by rw [length_wordsP]; omega)]
    simp only [rd, natOf_nn, natOf_by, Option.some.injEq, exists_eq_left', Prod.mk.injEq, and_assoc, exists_and_left, true_and, Nat.zero_add, Nat.add_zero, Nat.mul_one, ble_t]
    rw [w_alloc, zero4]
    have hp := get_push ⟨T1, n1⟩ (.cells (bs (List.replicate 4 0)) 45 false false)
    have hpn := next_push ⟨T1, n1⟩ (.cells (bs (List.replicate 4 0)) 45 false false)
    generalize Heap.push ⟨T1, n1⟩ (.cells (bs (List.replicate 4 0)) 45 false false) = H2 at hp hpn ⊢
    obtain ⟨T2, n2⟩ := H2
    simp only at hp hpn
    have ht2 : T2.get n1 = some (.cells (bs (List.replicate 4 0)) 45 false false) := by rw [hp, if_pos rfl]
    have hX4 : (((wordsP K m).1.drop ((m + 8 - 1) * 4)).take 4).length = 4 := by rw [List.length_take, List.length_drop, length_wordsP]; omega
    simp only [w_store, eX_t, eX_c, put_s, put_n, getset, Nat.reduceEqDiff, if_false, if_true, Option.getD_some, wst_agg ht2 List.length_replicate hX4, Option.some.injEq, Prod.mk.injEq, exists_eq_left', and_assoc, exists_and_left, WOps_nil, thenQ_normal]
    generalize hXX : ((wordsP K m).1.drop ((m + 8 - 1) * 4)).take 4 = X at hX4
    refine W.seq (W.seq (W.region ?_))
    simp (disch := omega) only [w_mov, w_ibin, w_load1, w_loadN, w_nilCheck, w_indexArr, w_indexSl, w_indexVal, w_indexStr, w_lenStr, w_lenSl, w_store, w_alloc, w_box, w_build, w_sliceArr, w_bytesToStr, w_pick, WOps_nil, thenQ_normal, eX_t, eX_c, put_s, put_n, getset, Nat.reduceEqDiff, if_false, if_true, Option.getD_some, rd, natOf_nn, natOf_by, Option.some.injEq, exists_eq_left', Prod.mk.injEq, and_assoc, exists_and_left, true_and, Nat.zero_add, Nat.add_zero, Nat.mul_one, ble_t, mul_nn, quo_nn, rem_nn, add_nn, sub_nn, lss_nn, eql_nn, neq_nn, xor_by, k0, k1, k2, k3, k4, k5, k6, k7, k8, k12, k13, k14, k15, k16, k32, k60, k254, k256, g6]
    refine key_sw (X := X) (t := n1) (i := m + 8) (e' := 45) hE24 hx24 (by simp only [eX_t, eX_c, put_s, put_n, getset, Nat.reduceEqDiff, if_false, if_true, Option.getD_some]) (by simp only [eX_t, eX_c, put_s, put_n, getset, Nat.reduceEqDiff, if_false, if_true, Option.getD_some]) hX4 (by show n1 < n2; omega) (by simp only [eX_t, eX_c, put_s, put_n, getset, Nat.reduceEqDiff, if_false, if_true, Option.getD_some]) ?_
    intro a3 H3 f3 f5 f6 f7 fn3 fb3
    simp only [getset, Nat.reduceEqDiff, if_false, if_true] at f3 f5 f6 f7 fn3 fb3
    rw [thenQ_normal]
    rw [g3] at f3
    rw [g5] at f5
    rw [g6] at f6
    obtain ⟨T3, n3⟩ := H3
    simp only at fn3 fb3
    have ht3 : T3.get n1 = some (.cells (bs (wordP X (m + 8))) 45 false false) := by rw [fb3 _ (by omega), if_pos rfl]
    have hY := length_wordP hX4 (m + 8)
    have rest : ∀ (a4 : Frm) (H4 : Heap) (Y : List UInt8) (p : UInt8), a4.get 3 = some (.ptr (some (c, 0))) → a4.get 5 = some (by' p) → a4.get 6 = some (nn (m + 8)) → a4.get 7 = some (.ptr (some (n1, 0))) → n3 ≤ H4.next → Y.length = 4 →
        (∀ j, H4.t.get j = if n1 = j then some (.cells (bs Y) 45 false false) else T3.get j) → wordsP K (m + 1) = (lastK (wordsP K m).1 Y (m + 8) 4, p) →
        W E (.seq (.region [(AOper.mk (some 69) (.mov (.const (.int .i64 0))) none)]) keyLoop9) a4 H4 (blockQ 3 (thenQ E (.region [(AOper.mk (some 27) (.mov (.tmp 6)) none), (AOper.mk (some 28) (.ibin .add (.tmp 27) (.const (.int .i64 1))) none), (AOper.mk (some 6) (.mov (.tmp 28)) none)])
          (fun e a' H' => e = .normal ∧ H.next ≤ H'.next ∧ (∀ j, j < H.next → H'.t.get j = if c = j then some (.cells (bs (wordsP K (m + 1)).1) 53 false false) else H.t.get j) ∧ a'.get 3 = a.get 3 ∧ a'.get 5 = some (by' (wordsP K (m + 1)).2) ∧ a'.get 6 = some (nn (m + 1 + 8))))) := by
      intro a4 H4 Y p q3 q5 q6 q7 hn4 hY4 hb4 hw
      refine W.seq (W.region ?_)
      simp only [w_mov, w_ibin, w_load1, w_loadN, w_nilCheck, w_indexArr, w_indexSl, w_indexVal, w_indexStr, w_lenStr, w_lenSl, w_store, w_alloc, w_box, w_build, w_sliceArr, w_bytesToStr, w_pick, WOps_nil, thenQ_normal, eX_t, eX_c, put_s, put_n, getset, Nat.reduceEqDiff, if_false, if_true, Option.getD_some, rd, natOf_nn, natOf_by, Option.some.injEq, exists_eq_left', Prod.mk.injEq, and_assoc, exists_and_left, true_and, Nat.zero_add, Nat.add_zero, Nat.mul_one, ble_t, mul_nn, quo_nn, rem_nn, add_nn, sub_nn, lss_nn, eql_nn, neq_nn, xor_by, k0, k1, k2, k3, k4, k5, k6, k7, k8, k12, k13, k14, k15, k16, k32, k60, k254, k256]
      refine key_l9 (C := (wordsP K m).1) (X := Y) (i := m + 8) (c := c) (t := n1) (e := 53) (e' := 45) (by simp only [eX_t, eX_c, put_s, put_n, getset, Nat.reduceEqDiff, if_false, if_true, Option.getD_some]; exact q3) (by simp only [eX_t, eX_c, put_s, put_n, getset, Nat.reduceEqDiff, if_false, if_true, Option.getD_some]; exact q6) (by simp only [eX_t, eX_c, put_s, put_n, getset, Nat.reduceEqDiff, if_false, if_true, Option.getD_some]; exact q7) (by simp only [eX_t, eX_c, put_s, put_n, getset, Nat.reduceEqDiff, if_false, if_true, Option.getD_some]) (by omega) (by omega) (length_wordsP K m) hY4 (by omega) (by rw [hb4, if_neg (by omega), fb3 _ (by omega), if_neg (by omega), if_neg (by omega), hp, if_neg (by omega)]; exact hc1) (by rw [hb4, if_pos rfl]) ?_
      intro a5 H5 r3 r5 r6 hn5 hb5
      simp only [getset, Nat.reduceEqDiff, if_false] at r3 r5 r6
      rw [q3] at r3
      rw [q5] at r5
      rw [q6] at r6
      rw [blockQ_normal, thenQ_normal]
      refine W.region ?_
      simp (disch := omega) only [w_mov, w_ibin, w_load1, w_loadN, w_nilCheck, w_indexArr, w_indexSl, w_indexVal, w_indexStr, w_lenStr, w_lenSl, w_store, w_alloc, w_box, w_build, w_sliceArr, w_bytesToStr, w_pick, WOps_nil, thenQ_normal, eX_t, eX_c, put_s, put_n, getset, Nat.reduceEqDiff, if_false, if_true, Option.getD_some, rd, natOf_nn, natOf_by, Option.some.injEq, exists_eq_left', Prod.mk.injEq, and_assoc, exists_and_left, true_and, Nat.zero_add, Nat.add_zero, Nat.mul_one, ble_t, mul_nn, quo_nn, rem_nn, add_nn, sub_nn, lss_nn, eql_nn, neq_nn, xor_by, k0, k1, k2, k3, k4, k5, k6, k7, k8, k12, k13, k14, k15, k16, k32, k60, k254, k256, r6]
      refine ⟨by omega, ?_, by rw [r3, h3], by rw [r5, hw], ?_⟩
      rotate_left
      · first | trivial | (rw [Nat.add_right_comm])
      intro j hj
      rw [hb5]
      by_cases h : c = j
      · rw [if_pos h, if_pos h, hw]
      · rw [if_neg h, if_neg h, hb4, if_neg (by omega), fb3 _ (by omega), if_neg (by omega), if_neg (by omega), hp, if_neg (by omega), hb j hj, if_neg h]
    refine W.seq (W.seq (W.region ?_))
    simp (disch := omega) only [w_mov, w_ibin, w_load1, w_loadN, w_nilCheck, w_indexArr, w_indexSl, w_indexVal, w_indexStr, w_lenStr, w_lenSl, w_store, w_alloc, w_box, w_build, w_sliceArr, w_bytesToStr, w_pick, WOps_nil, thenQ_normal, eX_t, eX_c, put_s, put_n, getset, Nat.reduceEqDiff, if_false, if_true, Option.getD_some, rd, natOf_nn, natOf_by, Option.some.injEq, exists_eq_left', Prod.mk.injEq, and_assoc, exists_and_left, true_and, Nat.zero_add, Nat.add_zero, Nat.mul_one, ble_t, mul_nn, quo_nn, rem_nn, add_nn, sub_nn, lss_nn, eql_nn, neq_nn, xor_by, k0, k1, k2, k3, k4, k5, k6, k7, k8, k12, k13, k14, k15, k16, k32, k60, k254, k256, f6]
    refine W.cond (b := decide ((m + 8) % 8 = 0)) (by simp only [eX_t, eX_c, put_s, put_n, getset, Nat.reduceEqDiff, if_false, if_true, Option.getD_some]) ?_
    by_cases h0 : (m + 8) % 8 = 0
    · simp only [h0, decide_true, cond_true]
      have e0 := getbs (S := wordP X (m + 8)) (i := 0) (by omega)
      refine W.seq (W.region ?_)
      simp (disch := omega) only [w_mov, w_ibin, w_indexArr, w_load1, w_store, WOps_nil, thenQ_normal, eX_t, eX_c, put_s, put_n, getset, Nat.reduceEqDiff, if_false, if_true, Option.getD_some, rd, natOf_nn, natOf_by, Option.some.injEq, exists_eq_left', Prod.mk.injEq, and_assoc, exists_and_left, true_and, Nat.zero_add, Nat.add_zero, Nat.mul_one, ble_t, mul_nn, quo_nn, rem_nn, add_nn, sub_nn, lss_nn, eql_nn, neq_nn, xor_by, k0, k1, k2, k3, k4, k5, k6, k7, k8, k12, k13, k14, k15, k16, k32, k60, k254, k256, f7, f5, load_blk' ht3, e0, wst_by ht3]
      refine W.region ?_
      simp only [w_mov, eX_t, eX_c, put_s, put_n, getset, Nat.reduceEqDiff, if_false, if_true, Option.getD_some, f5]
      refine WOps.call (g := 25) (first := []) (captured := []) (by simp only [eX_t, eX_c, put_s, put_n, getset, Nat.reduceEqDiff, if_false, if_true, Option.getD_some]) ?_
      simp only [List.map_cons, List.map_nil, List.nil_append, List.append_nil, eX_t, eX_c, put_s, put_n, getset, Nat.reduceEqDiff, if_false, if_true, Option.getD_some]
      refine twice_ok hE25 (hx25 _ _) ?_
      simp only [w_mov, eX_t, eX_c, put_s, put_n, getset, Nat.reduceEqDiff, if_false, if_true, Option.getD_some, WOps_nil, thenQ_normal]
      refine rest _ _ ((wordP X (m + 8)).set 0 ((wordP X (m + 8)).getD 0 0 ^^^ (wordsP K m).2)) (tw (wordsP K m).2) (by simp only [eX_t, eX_c, put_s, put_n, getset, Nat.reduceEqDiff, if_false, if_true, Option.getD_some]; exact f3) (by simp only [eX_t, eX_c, put_s, put_n, getset, Nat.reduceEqDiff, if_false, if_true, Option.getD_some]) (by simp only [eX_t, eX_c, put_s, put_n, getset, Nat.reduceEqDiff, if_false, if_true, Option.getD_some]; exact f6) (by simp only [eX_t, eX_c, put_s, put_n, getset, Nat.reduceEqDiff, if_false, if_true, Option.getD_some]; exact f7) (Nat.le_refl _) (by rw [List.length_set]; exact hY) (fun j => by simp only [getset]) ?_
      simp only [wordsP, hXX]
      rw [if_pos h0]
    · simp only [h0, decide_false, cond_false]
      refine W.skip ?_
      rw [thenQ_normal]
      refine rest _ _ (wordP X (m + 8)) (wordsP K m).2 (by simp only [eX_t, eX_c, put_s, put_n, getset, Nat.reduceEqDiff, if_false, if_true, Option.getD_some]; exact f3) (by simp only [eX_t, eX_c, put_s, put_n, getset, Nat.reduceEqDiff, if_false, if_true, Option.getD_some]; exact f5) (by simp only [eX_t, eX_c, put_s, put_n, getset, Nat.reduceEqDiff, if_false, if_true, Option.getD_some]; exact f6) (by simp only [eX_t, eX_c, put_s, put_n, getset, Nat.reduceEqDiff, if_false, if_true, Option.getD_some]; exact f7) (Nat.le_refl _) hY (fun j => ?_) ?_
      · by_cases h : n1 = j
        · subst h; rw [if_pos rfl]; exact ht3
        · rw [if_neg h]
      · simp only [wordsP, hXX]
        rw [if_neg h0]
  · intro a1 H1 ⟨hn, hb, g3, g5, g6⟩
    refine W.seq (W.seq (W.region ?_))
    simp only [w_mov, w_ibin, w_load1, w_loadN, w_nilCheck, w_indexArr, w_indexSl, w_indexVal, w_indexStr, w_lenStr, w_lenSl, w_store, w_alloc, w_box, w_build, w_sliceArr, w_bytesToStr, w_pick, WOps_nil, thenQ_normal, eX_t, eX_c, put_s, put_n, getset, Nat.reduceEqDiff, if_false, if_true, Option.getD_some, rd, natOf_nn, natOf_by, Option.some.injEq, exists_eq_left', Prod.mk.injEq, and_assoc, exists_and_left, true_and, Nat.zero_add, Nat.add_zero, Nat.mul_one, ble_t, mul_nn, quo_nn, rem_nn, add_nn, sub_nn, lss_nn, eql_nn, neq_nn, xor_by, k0, k1, k2, k3, k4, k5, k6, k7, k8, k12, k13, k14, k15, k16, k32, k60, k254, k256, g6]
    refine W.cond (b := false) (by simp only [eX_t, eX_c, put_s, put_n, getset, Nat.reduceEqDiff, if_false, if_true, Option.getD_some]; simp) (W.exit ?_)
    rw [thenQ_exit]
    refine ⟨nofun, ?_⟩
    simp only [blockQ_exit, Nat.beq_refl, cond_true]
    refine hQ _ _ ?_ hn hb
    simp only [getset, Nat.reduceEqDiff, if_false]
    exact g3
  · rw [wordsP0]
    dsimp only
    refine ⟨Nat.le_refl _, ?_, rfl, h5, h6⟩
    intro j hj
    by_cases h : c = j
    · subst h; rw [if_pos rfl]; exact hc
    · rw [if_neg h]
end Go.AE
end
