/- Numbers, steps. -/
import Derived.Test.YtegaglodfelpoaaGreatMachineD
set_option linter.unusedVariables false
set_option linter.unusedSimpArgs false
section
set_option linter.unusedVariables false
set_option linter.unusedSimpArgs false
noncomputable section
namespace Go.AE
/-- a byte -/
def by' (b : UInt8) : AV := .int .u8 (.ofNat b.toNat)
/-- a number -/
def nn (n : Nat) : AV := .int .i64 (.ofNat n)

theorem fits_by (b : UInt8) : fits .u8 (.ofNat b.toNat) = true := by
  have := b.toNat_lt
  simp only [fits, lo, hi, Bool.and_eq_true]
  constructor
  · show Nat.ble 0 b.toNat = true
    rw [Nat.ble_eq]; omega
  · show Nat.ble b.toNat 255 = true
    rw [Nat.ble_eq]; omega

theorem xor_by (a b : UInt8) : ibin .xor (by' a) (by' b) = some (by' (a ^^^ b)) := by
  simp only [by', ibin, kindEq, ibits, fits_by, Bool.and_self, cond_true, natBits, UInt8.toNat_xor]
  rfl

theorem fits_nn {n : Nat} (h : n < 9223372036854775808) : fits .i64 (.ofNat n) = true := by
  simp only [fits, lo, hi, Bool.and_eq_true]
  constructor
  · show fits.Int.ble' (.negSucc _) (.ofNat n) = true
    rfl
  · show Nat.ble n 9223372036854775807 = true
    rw [Nat.ble_eq]; omega

theorem add_nn {a b : Nat} (h : a + b < 9223372036854775808) : ibin .add (nn a) (nn b) = some (nn (a + b)) := by
  have e : (Int.ofNat a + Int.ofNat b) = Int.ofNat (a + b) := rfl
  simp only [nn, ibin, kindEq, cond_true, wrapK, e, fits_nn h]
theorem mul_nn {a b : Nat} (h : a * b < 9223372036854775808) : ibin .mul (nn a) (nn b) = some (nn (a * b)) := by
  have e : (Int.ofNat a * Int.ofNat b) = Int.ofNat (a * b) := rfl
  simp only [nn, ibin, kindEq, cond_true, wrapK, e, fits_nn h]
theorem quo_nn {a b : Nat} (h : a < 9223372036854775808) (hb : b ≠ 0) : ibin .quo (nn a) (nn b) = some (nn (a / b)) := by
  have e : (Int.ofNat a).tdiv (Int.ofNat b) = Int.ofNat (a / b) := rfl
  have h2 : a / b < 9223372036854775808 := Nat.lt_of_le_of_lt (Nat.div_le_self _ _) h
  have z : ieq (Int.ofNat b) 0 = false := by cases b with | zero => exact absurd rfl hb | succ b => rfl
  simp only [nn, ibin, kindEq, cond_true, cond_false, wrapK, e, fits_nn h2, z]
theorem rem_nn {a b : Nat} (hb : b ≠ 0) : ibin .rem (nn a) (nn b) = some (nn (a % b)) := by
  have e : (Int.ofNat a).tmod (Int.ofNat b) = Int.ofNat (a % b) := rfl
  have z : ieq (Int.ofNat b) 0 = false := by cases b with | zero => exact absurd rfl hb | succ b => rfl
  simp only [nn, ibin, kindEq, cond_true, cond_false, wrapK, e, z]
theorem lss_nn (a b : Nat) : ibin .lss (nn a) (nn b) = some (.bool (decide (a < b))) := by
  simp only [nn, ibin, kindEq, cond_true, fits.Int.ble']
  congr 2
  cases h : Nat.ble b a with
  | true => rw [Nat.ble_eq] at h; simp; omega
  | false => have : ¬ b ≤ a := fun h' => by rw [← Nat.ble_eq, h] at h'; exact nomatch h'
             simp; omega
theorem natOf_nn (n : Nat) : natOf (nn n) = some n := rfl
variable {E : Env}
theorem c64 (n : Nat) : AV.int .i64 (@OfNat.ofNat Int n (@instOfNat n)) = nn (@OfNat.ofNat Nat n (instOfNatNat n)) := rfl
theorem k0 : AV.int .i64 0 = nn 0 := rfl
theorem k1 : AV.int .i64 1 = nn 1 := rfl
theorem k2 : AV.int .i64 2 = nn 2 := rfl
theorem k3 : AV.int .i64 3 = nn 3 := rfl
theorem k4 : AV.int .i64 4 = nn 4 := rfl
theorem k5 : AV.int .i64 5 = nn 5 := rfl
theorem k6 : AV.int .i64 6 = nn 6 := rfl
theorem k7 : AV.int .i64 7 = nn 7 := rfl
theorem k8 : AV.int .i64 8 = nn 8 := rfl
theorem k12 : AV.int .i64 12 = nn 12 := rfl
theorem k14 : AV.int .i64 14 = nn 14 := rfl
theorem k15 : AV.int .i64 15 = nn 15 := rfl
theorem k16 : AV.int .i64 16 = nn 16 := rfl
theorem k60 : AV.int .i64 60 = nn 60 := rfl
theorem k254 : AV.int .i64 254 = nn 254 := rfl
theorem k256 : AV.int .i64 256 = nn 256 := rfl
theorem getset {α : Type} (t : T α) (i j : Nat) (v : α) : (t.set i v).get j = if i = j then some v else t.get j := T.get_set t i j v
theorem eX_t (a : Frm) (t : Nat) : evalX a (.tmp t) = (a.get t).getD aundef := rfl
theorem eX_c (a : Frm) (v : AV) : evalX a (.const v) = v := rfl
theorem put_s (a : Frm) (d : Nat) (v : AV) : put a (some d) v = a.set d v := rfl
theorem put_n (a : Frm) (v : AV) : put a none v = a := rfl
theorem AVbeq_by (b : UInt8) : AV.beq (by' b) (by' b) = true := by simp [by', AV.beq, kindEq, ieq]

theorem w_mov {all os : List AOper} {dst : Option Nat} {x : AX} {a : Frm} {H : Heap} {Q : Frm → Heap → Prop} :
    WOps E all (⟨dst, .mov x, none⟩ :: os) a H Q ↔ WOps E all os (put a dst (evalX a x)) H Q := by
  rw [WOps_rd rfl]; simp only [rd, Option.some.injEq, exists_eq_left']
theorem w_ibin {all os : List AOper} {dst : Option Nat} {o : BinOp} {x y : AX} {a : Frm} {H : Heap} {Q : Frm → Heap → Prop} :
    WOps E all (⟨dst, .ibin o x y, none⟩ :: os) a H Q ↔ ∃ v, ibin o (evalX a x) (evalX a y) = some v ∧ WOps E all os (put a dst v) H Q := WOps_rd rfl
theorem w_load1 {all os : List AOper} {dst : Option Nat} {x : AX} {a : Frm} {H : Heap} {Q : Frm → Heap → Prop} :
    WOps E all (⟨dst, .load1 x, none⟩ :: os) a H Q ↔ ∃ v, rd (.load1 x) a H = some v ∧ WOps E all os (put a dst v) H Q := WOps_rd rfl

variable {ops : List AOper} {base i : Nat} {is : List (Nat × AOper)} {dst : Option Nat} {a : Frm} {H : Heap} {hs : List Heap} {Q : Frm → List Heap → Prop} {x y : AX}
theorem l_mov : WL E ops base ((i, ⟨dst, .mov x, none⟩) :: is) a H hs Q ↔ WL E ops base is (put a dst (evalX a x)) H hs Q := by
  rw [WL_rd rfl]; simp only [rd, Option.some.injEq, exists_eq_left']
theorem l_ibin {o : BinOp} : WL E ops base ((i, ⟨dst, .ibin o x y, none⟩) :: is) a H hs Q ↔ ∃ v, ibin o (evalX a x) (evalX a y) = some v ∧ WL E ops base is (put a dst v) H hs Q := WL_rd rfl
theorem l_load1 : WL E ops base ((i, ⟨dst, .load1 x, none⟩) :: is) a H hs Q ↔ ∃ v, rd (.load1 x) a H = some v ∧ WL E ops base is (put a dst v) H hs Q := WL_rd rfl
theorem l_nilCheck : WL E ops base ((i, ⟨dst, .nilCheck x, none⟩) :: is) a H hs Q ↔ ∃ v, rd (.nilCheck x) a H = some v ∧ WL E ops base is (put a dst v) H hs Q := WL_rd rfl
theorem l_indexArr {n s : Nat} : WL E ops base ((i, ⟨dst, .indexArr n s x y, none⟩) :: is) a H hs Q ↔ ∃ v, rd (.indexArr n s x y) a H = some v ∧ WL E ops base is (put a dst v) H hs Q := WL_rd rfl
theorem l_store {n : Nat} : WL E ops base ((i, ⟨dst, .store n x y, none⟩) :: is) a H hs Q ↔ ∃ v H', wr0 (.store n x y) a H = some (v, H') ∧ WL E ops base is (put a dst v) H' (H :: hs) Q := WL_wr rfl rfl

/-- the cells of bytes -/
def bs (l : List UInt8) : List AV := l.map by'

theorem cells_by (b : UInt8) : (by' b).cells = [by' b] := rfl
theorem atom_by (b : UInt8) : (by' b).atom = true := rfl
theorem length_bs (l : List UInt8) : (bs l).length = l.length := by simp [bs]
theorem get_bs (l : List UInt8) (i : Nat) : (bs l)[i]? = l[i]?.map by' := by simp [bs]

theorem lay_one (v : AV) : ∀ (cs : List AV) (o : Nat), o < cs.length → lay cs o [v] = some (cs.set o v)
  | [], o, h => by simp at h
  | c :: cs, 0, h => by cases cs <;> simp [lay]
  | c :: cs, o + 1, h => by simp [lay, lay_one v cs o (by simpa using h)]

theorem load_blk {H : Heap} {b o : Nat} {cs : List AV} {e : TypeId} {op ro : Bool} (h : H.t.get b = some (.cells cs e op ro)) : H.load b o = cs[o]? := by
  simp only [Heap.load, Heap.cellsAt, h]

/-- a store, its place and its value known -/
def wst (n : Nat) (p v : AV) (H : Heap) : Option (AV × Heap) := match p with
    | .ptr (some (b, o)) =>
      bif Nat.beq v.cells.length n then
        match H.store b o v.cells with
        | some H' => some (aundef, H')
        | none => none
      else none
    | _ => none
theorem wr0_store (n : Nat) (x y : AX) (a : Frm) (H : Heap) : wr0 (.store n x y) a H = wst n (evalX a x) (evalX a y) H := rfl
theorem set_bs (l : List UInt8) (i : Nat) (v : UInt8) : (bs l).set i (by' v) = bs (l.set i v) := by simp [bs, List.map_set]
theorem wst_by {T0 : T ABlk} {nx b o : Nat} {S : List UInt8} {e : TypeId} {op : Bool} (h : T0.get b = some (.cells (bs S) e op false)) (ho : o < S.length) (v : UInt8) :
    wst 1 (.ptr (some (b, o))) (by' v) ⟨T0, nx⟩ = some (aundef, ⟨T0.set b (.cells (bs (S.set o v)) e op false), nx⟩) := by
  simp only [wst, cells_by, Heap.store, h]
  rw [lay_one _ _ _ (by rw [length_bs]; exact ho)]
  simp only [set_bs]
  rfl

theorem stable_cons (d : ADraw) (a0 afin : Frm) (base : Nat) (hs : List Heap) (o : AOper) (os : List AOper) (l h : Nat) (ls : List (Nat × Nat)) (i : Nat) :
    stable d a0 afin base hs (o :: os) ((l, h) :: ls) i = (sameAt d a0 afin base i o ((hs.drop l).take (Nat.succ h - l)) && stable d a0 afin base hs os ls (Nat.succ i)) := rfl
theorem stable_nil (d : ADraw) (a0 afin : Frm) (base : Nat) (hs : List Heap) (ls : List (Nat × Nat)) (i : Nat) : stable d a0 afin base hs [] ls i = true := rfl
theorem same_rd {d : ADraw} {a0 afin : Frm} {base i : Nat} {o : AOper} {hs : List Heap} (hk : kindOf o.op = .rd) (hl : looks o.op = false) : sameAt d a0 afin base i o hs = true := by
  simp only [sameAt, hk, hl, cond_false]
theorem same_wr {d : ADraw} {a0 afin : Frm} {base i : Nat} {o : AOper} {hs : List Heap} (hk : kindOf o.op = .wr) : sameAt d a0 afin base i o hs = true := by
  simp only [sameAt, hk]
theorem sm_mov {d : ADraw} {a0 afin : Frm} {base i : Nat} {dst : Option Nat} {g : Option (Nat × Bool)} {hs : List Heap} {x : AX} : sameAt d a0 afin base i ⟨dst, .mov x, g⟩ hs = true := same_rd rfl rfl
theorem sm_ibin {d : ADraw} {a0 afin : Frm} {base i : Nat} {dst : Option Nat} {g : Option (Nat × Bool)} {hs : List Heap} {o : BinOp} {x y : AX} : sameAt d a0 afin base i ⟨dst, .ibin o x y, g⟩ hs = true := same_rd rfl rfl
theorem sm_nilCheck {d : ADraw} {a0 afin : Frm} {base i : Nat} {dst : Option Nat} {g : Option (Nat × Bool)} {hs : List Heap} {x : AX} : sameAt d a0 afin base i ⟨dst, .nilCheck x, g⟩ hs = true := same_rd rfl rfl
theorem sm_indexArr {d : ADraw} {a0 afin : Frm} {base i : Nat} {dst : Option Nat} {g : Option (Nat × Bool)} {hs : List Heap} {n s : Nat} {x y : AX} : sameAt d a0 afin base i ⟨dst, .indexArr n s x y, g⟩ hs = true := same_rd rfl rfl
theorem sm_store {d : ADraw} {a0 afin : Frm} {base i : Nat} {dst : Option Nat} {g : Option (Nat × Bool)} {hs : List Heap} {n : Nat} {x y : AX} : sameAt d a0 afin base i ⟨dst, .store n x y, g⟩ hs = true := same_wr rfl
theorem sm_call {d : ADraw} {a0 afin : Frm} {base i : Nat} {dst : Option Nat} {g : Option (Nat × Bool)} {hs : List Heap} {f : AX} {xs : List AX} : sameAt d a0 afin base i ⟨dst, .call f xs, g⟩ hs = true := same_wr rfl
/-- a load of one cell: the same at each of the heaps -/
theorem sm_load1 {d : ADraw} {a0 afin : Frm} {base i e : Nat} {hs : List Heap} {x : AX} (hw : d.war = false) {b o : Nat} (hx : evalX afin x = .ptr (some (b, o))) {v : AV} (hv : afin.get e = some v)
    (hl : ∀ H ∈ hs, H.load b o = some v) (hb : AV.beq v v = true) : sameAt d a0 afin base i ⟨some e, .load1 x, none⟩ hs = true := by
  simp only [sameAt, kindOf, looks, cond_true, frameFor, hw, cond_false, wantedA, List.all_eq_true]
  intro H hH
  simp only [rd, hx, hl H hH, hv, hb]
theorem nil_ptr {a : Frm} {H : Heap} {x : AX} {p : Nat × Nat} (h : evalX a x = .ptr (some p)) : rd (.nilCheck x) a H = some (.ptr (some p)) := by simp only [rd, h]
theorem idx_arr {a : Frm} {H : Heap} {n s : Nat} {x y : AX} {b o i : Nat} (h : evalX a x = .ptr (some (b, o))) (hy : evalX a y = nn i) (hi : i < n) : rd (.indexArr n s x y) a H = some (.ptr (some (b, o + i * s))) := by
  have : Nat.ble (Nat.succ i) n = true := by rw [Nat.ble_eq]; omega
  simp only [rd, h, hy, natOf_nn, this, cond_true]
theorem ld1 {a : Frm} {H : Heap} {x : AX} {b o : Nat} (h : evalX a x = .ptr (some (b, o))) : rd (.load1 x) a H = H.load b o := by simp only [rd, h]

theorem w_loadN {all os : List AOper} {dst : Option Nat} {n : Nat} {x : AX} {a : Frm} {H : Heap} {Q : Frm → Heap → Prop} :
    WOps E all (⟨dst, .loadN n x, none⟩ :: os) a H Q ↔ ∃ v, rd (.loadN n x) a H = some v ∧ WOps E all os (put a dst v) H Q := WOps_rd rfl
theorem w_nilCheck {all os : List AOper} {dst : Option Nat} {x : AX} {a : Frm} {H : Heap} {Q : Frm → Heap → Prop} :
    WOps E all (⟨dst, .nilCheck x, none⟩ :: os) a H Q ↔ ∃ v, rd (.nilCheck x) a H = some v ∧ WOps E all os (put a dst v) H Q := WOps_rd rfl
theorem w_indexArr {all os : List AOper} {dst : Option Nat} {n s : Nat} {x y : AX} {a : Frm} {H : Heap} {Q : Frm → Heap → Prop} :
    WOps E all (⟨dst, .indexArr n s x y, none⟩ :: os) a H Q ↔ ∃ v, rd (.indexArr n s x y) a H = some v ∧ WOps E all os (put a dst v) H Q := WOps_rd rfl
theorem w_indexSl {all os : List AOper} {dst : Option Nat} {s : Nat} {x y : AX} {a : Frm} {H : Heap} {Q : Frm → Heap → Prop} :
    WOps E all (⟨dst, .indexSl s x y, none⟩ :: os) a H Q ↔ ∃ v, rd (.indexSl s x y) a H = some v ∧ WOps E all os (put a dst v) H Q := WOps_rd rfl
theorem w_indexVal {all os : List AOper} {dst : Option Nat} {n s : Nat} {x y : AX} {a : Frm} {H : Heap} {Q : Frm → Heap → Prop} :
    WOps E all (⟨dst, .indexVal n s x y, none⟩ :: os) a H Q ↔ ∃ v, rd (.indexVal n s x y) a H = some v ∧ WOps E all os (put a dst v) H Q := WOps_rd rfl
theorem w_indexStr {all os : List AOper} {dst : Option Nat} {x y : AX} {a : Frm} {H : Heap} {Q : Frm → Heap → Prop} :
    WOps E all (⟨dst, .indexStr x y, none⟩ :: os) a H Q ↔ ∃ v, rd (.indexStr x y) a H = some v ∧ WOps E all os (put a dst v) H Q := WOps_rd rfl
theorem w_lenStr {all os : List AOper} {dst : Option Nat} {x : AX} {a : Frm} {H : Heap} {Q : Frm → Heap → Prop} :
    WOps E all (⟨dst, .lenStr x, none⟩ :: os) a H Q ↔ ∃ v, rd (.lenStr x) a H = some v ∧ WOps E all os (put a dst v) H Q := WOps_rd rfl
theorem w_lenSl {all os : List AOper} {dst : Option Nat} {x : AX} {a : Frm} {H : Heap} {Q : Frm → Heap → Prop} :
    WOps E all (⟨dst, .lenSl x, none⟩ :: os) a H Q ↔ ∃ v, rd (.lenSl x) a H = some v ∧ WOps E all os (put a dst v) H Q := WOps_rd rfl
theorem w_build {all os : List AOper} {dst : Option Nat} {z : List AV} {ps : List (Nat × Nat × AX)} {a : Frm} {H : Heap} {Q : Frm → Heap → Prop} :
    WOps E all (⟨dst, .build z ps, none⟩ :: os) a H Q ↔ ∃ v, rd (.build z ps) a H = some v ∧ WOps E all os (put a dst v) H Q := WOps_rd rfl
theorem w_sliceArr {all os : List AOper} {dst : Option Nat} {n s : Nat} {x : AX} {l h m : Option AX} {a : Frm} {H : Heap} {Q : Frm → Heap → Prop} :
    WOps E all (⟨dst, .sliceArr n s x l h m, none⟩ :: os) a H Q ↔ ∃ v, rd (.sliceArr n s x l h m) a H = some v ∧ WOps E all os (put a dst v) H Q := WOps_rd rfl
theorem w_bytesToStr {all os : List AOper} {dst : Option Nat} {x : AX} {a : Frm} {H : Heap} {Q : Frm → Heap → Prop} :
    WOps E all (⟨dst, .bytesToStr x, none⟩ :: os) a H Q ↔ ∃ v, rd (.bytesToStr x) a H = some v ∧ WOps E all os (put a dst v) H Q := WOps_rd rfl
theorem w_pick {all os : List AOper} {dst : Option Nat} {c x y : AX} {a : Frm} {H : Heap} {Q : Frm → Heap → Prop} :
    WOps E all (⟨dst, .pick c x y, none⟩ :: os) a H Q ↔ ∃ v, rd (.pick c x y) a H = some v ∧ WOps E all os (put a dst v) H Q := WOps_rd rfl
theorem w_store {all os : List AOper} {dst : Option Nat} {n : Nat} {x y : AX} {a : Frm} {H : Heap} {Q : Frm → Heap → Prop} :
    WOps E all (⟨dst, .store n x y, none⟩ :: os) a H Q ↔ ∃ v H', wst n (evalX a x) (evalX a y) H = some (v, H') ∧ WOps E all os (put a dst v) H' Q := WOps_wr rfl rfl
theorem w_alloc {all os : List AOper} {dst : Option Nat} {e : TypeId} {z : List AV} {a : Frm} {H : Heap} {Q : Frm → Heap → Prop} :
    WOps E all (⟨dst, .alloc e z, none⟩ :: os) a H Q ↔ WOps E all os (put a dst (.ptr (some (H.next, 0)))) (H.push (.cells z e false false)) Q := by
  rw [WOps_al rfl]
  constructor
  · intro ⟨x, f, h, q⟩
    simp only [al, Option.some.injEq, Prod.mk.injEq] at h
    obtain ⟨rfl, rfl⟩ := h
    exact q
  · intro q
    exact ⟨_, _, rfl, q⟩
theorem w_box {all os : List AOper} {dst : Option Nat} {e : TypeId} {x : AX} {a : Frm} {H : Heap} {Q : Frm → Heap → Prop} :
    WOps E all (⟨dst, .box e x, none⟩ :: os) a H Q ↔ WOps E all os (put a dst (.ptr (some (H.next, 0)))) (H.push (.cells (evalX a x).cells e false false)) Q := by
  rw [WOps_al rfl]
  constructor
  · intro ⟨x, f, h, q⟩
    simp only [al, Option.some.injEq, Prod.mk.injEq] at h
    obtain ⟨rfl, rfl⟩ := h
    exact q
  · intro q
    exact ⟨_, _, rfl, q⟩
theorem natOf_by (b : UInt8) : natOf (by' b) = some b.toNat := rfl
theorem sub_nn {a b : Nat} (h : b ≤ a) (h2 : a < 9223372036854775808) : ibin .sub (nn a) (nn b) = some (nn (a - b)) := by
  have e : (Int.ofNat a - Int.ofNat b) = Int.ofNat (a - b) := (Int.ofNat_sub h).symm
  simp only [nn, ibin, kindEq, cond_true, wrapK, e, fits_nn (show a - b < 9223372036854775808 by omega)]
theorem ieq_nat (a b : Nat) : ieq (.ofNat a) (.ofNat b) = decide (a = b) := by
  show Nat.beq a b = decide (a = b)
  cases h : Nat.beq a b with
  | true => have := Nat.eq_of_beq_eq_true h; simp [this]
  | false => have := Nat.ne_of_beq_eq_false h; simp [this]
theorem eql_nn (a b : Nat) : ibin .eql (nn a) (nn b) = some (.bool (decide (a = b))) := by
  simp only [nn, ibin, kindEq, cond_true, ieq_nat]
theorem neq_nn (a b : Nat) : ibin .neq (nn a) (nn b) = some (.bool (decide (a ≠ b))) := by
  simp only [nn, ibin, kindEq, cond_true, ieq_nat, decide_not]
theorem k13 : AV.int .i64 13 = nn 13 := rfl
theorem k32 : AV.int .i64 32 = nn 32 := rfl
/-- cells laid over cells -/
theorem lay_bs : ∀ (x y : List UInt8), x.length = y.length → lay (bs x) 0 (bs y) = some (bs y)
  | [], [], _ => rfl
  | a :: x, b :: y, h => by
    have := lay_bs x y (by simpa using h)
    simp only [bs] at this
    simp only [bs, List.map_cons, lay, this]
theorem all_atom_bs (l : List UInt8) : (bs l).all AV.atom = true := by simp [bs, atom_by]
theorem cells_agg (l : List AV) : (AV.agg l).cells = l := rfl
theorem wst_agg {T0 : T ABlk} {nx b n : Nat} {S S' : List UInt8} {e : TypeId} {op : Bool} (h : T0.get b = some (.cells (bs S) e op false)) (hl : S.length = n) (hl' : S'.length = n) :
    wst n (.ptr (some (b, 0))) (.agg (bs S')) ⟨T0, nx⟩ = some (aundef, ⟨T0.set b (.cells (bs S') e op false), nx⟩) := by
  have e1 : Nat.beq S'.length n = true := by rw [hl']; exact Nat.beq_refl n
  simp only [wst, cells_agg, length_bs, e1, cond_true, Heap.store, h, all_atom_bs, Bool.not_true, Bool.or_false, cond_false, lay_bs _ _ (hl.trans hl'.symm)]
theorem grab_bs {S : List UInt8} {n : Nat} (h : S.length = n) : grab n 0 (bs S) = some (bs S) := by
  have : (bs S).length = n := by rw [length_bs, h]
  simp only [grab, List.drop_zero, ← this, List.take_length, Nat.beq_refl, cond_true]
theorem loadN_bs {T0 : T ABlk} {nx b n : Nat} {S : List UInt8} {e : TypeId} {op ro : Bool} (h : T0.get b = some (.cells (bs S) e op ro)) (hl : S.length = n) : Heap.loadN ⟨T0, nx⟩ b 0 n = some (bs S) := by
  simp only [Heap.loadN, Heap.cellsAt, h, grab_bs hl]
theorem l_loadN {ops : List AOper} {base i : Nat} {is : List (Nat × AOper)} {dst : Option Nat} {a : Frm} {H : Heap} {hs : List Heap} {Q : Frm → List Heap → Prop} {n : Nat} {x : AX} :
    WL E ops base ((i, ⟨dst, .loadN n x, none⟩) :: is) a H hs Q ↔ ∃ v, rd (.loadN n x) a H = some v ∧ WL E ops base is (put a dst v) H hs Q := WL_rd rfl
theorem l_indexSl {ops : List AOper} {base i : Nat} {is : List (Nat × AOper)} {dst : Option Nat} {a : Frm} {H : Heap} {hs : List Heap} {Q : Frm → List Heap → Prop} {s : Nat} {x y : AX} :
    WL E ops base ((i, ⟨dst, .indexSl s x y, none⟩) :: is) a H hs Q ↔ ∃ v, rd (.indexSl s x y) a H = some v ∧ WL E ops base is (put a dst v) H hs Q := WL_rd rfl
theorem l_indexVal {ops : List AOper} {base i : Nat} {is : List (Nat × AOper)} {dst : Option Nat} {a : Frm} {H : Heap} {hs : List Heap} {Q : Frm → List Heap → Prop} {n s : Nat} {x y : AX} :
    WL E ops base ((i, ⟨dst, .indexVal n s x y, none⟩) :: is) a H hs Q ↔ ∃ v, rd (.indexVal n s x y) a H = some v ∧ WL E ops base is (put a dst v) H hs Q := WL_rd rfl
theorem l_indexStr {ops : List AOper} {base i : Nat} {is : List (Nat × AOper)} {dst : Option Nat} {a : Frm} {H : Heap} {hs : List Heap} {Q : Frm → List Heap → Prop} {x y : AX} :
    WL E ops base ((i, ⟨dst, .indexStr x y, none⟩) :: is) a H hs Q ↔ ∃ v, rd (.indexStr x y) a H = some v ∧ WL E ops base is (put a dst v) H hs Q := WL_rd rfl
theorem l_lenStr {ops : List AOper} {base i : Nat} {is : List (Nat × AOper)} {dst : Option Nat} {a : Frm} {H : Heap} {hs : List Heap} {Q : Frm → List Heap → Prop} {x : AX} :
    WL E ops base ((i, ⟨dst, .lenStr x, none⟩) :: is) a H hs Q ↔ ∃ v, rd (.lenStr x) a H = some v ∧ WL E ops base is (put a dst v) H hs Q := WL_rd rfl
theorem l_lenSl {ops : List AOper} {base i : Nat} {is : List (Nat × AOper)} {dst : Option Nat} {a : Frm} {H : Heap} {hs : List Heap} {Q : Frm → List Heap → Prop} {x : AX} :
    WL E ops base ((i, ⟨dst, .lenSl x, none⟩) :: is) a H hs Q ↔ ∃ v, rd (.lenSl x) a H = some v ∧ WL E ops base is (put a dst v) H hs Q := WL_rd rfl
theorem l_build {ops : List AOper} {base i : Nat} {is : List (Nat × AOper)} {dst : Option Nat} {a : Frm} {H : Heap} {hs : List Heap} {Q : Frm → List Heap → Prop} {z : List AV} {ps : List (Nat × Nat × AX)} :
    WL E ops base ((i, ⟨dst, .build z ps, none⟩) :: is) a H hs Q ↔ ∃ v, rd (.build z ps) a H = some v ∧ WL E ops base is (put a dst v) H hs Q := WL_rd rfl
theorem l_sliceArr {ops : List AOper} {base i : Nat} {is : List (Nat × AOper)} {dst : Option Nat} {a : Frm} {H : Heap} {hs : List Heap} {Q : Frm → List Heap → Prop} {n s : Nat} {x : AX} {l h m : Option AX} :
    WL E ops base ((i, ⟨dst, .sliceArr n s x l h m, none⟩) :: is) a H hs Q ↔ ∃ v, rd (.sliceArr n s x l h m) a H = some v ∧ WL E ops base is (put a dst v) H hs Q := WL_rd rfl
theorem l_bytesToStr {ops : List AOper} {base i : Nat} {is : List (Nat × AOper)} {dst : Option Nat} {a : Frm} {H : Heap} {hs : List Heap} {Q : Frm → List Heap → Prop} {x : AX} :
    WL E ops base ((i, ⟨dst, .bytesToStr x, none⟩) :: is) a H hs Q ↔ ∃ v, rd (.bytesToStr x) a H = some v ∧ WL E ops base is (put a dst v) H hs Q := WL_rd rfl
theorem l_pick {ops : List AOper} {base i : Nat} {is : List (Nat × AOper)} {dst : Option Nat} {a : Frm} {H : Heap} {hs : List Heap} {Q : Frm → List Heap → Prop} {c x y : AX} :
    WL E ops base ((i, ⟨dst, .pick c x y, none⟩) :: is) a H hs Q ↔ ∃ v, rd (.pick c x y) a H = some v ∧ WL E ops base is (put a dst v) H hs Q := WL_rd rfl
theorem sm_indexSl {d : ADraw} {a0 afin : Frm} {base i : Nat} {dst : Option Nat} {g : Option (Nat × Bool)} {hs : List Heap} {s : Nat} {x y : AX} : sameAt d a0 afin base i ⟨dst, .indexSl s x y, g⟩ hs = true := same_rd rfl rfl
theorem sm_indexVal {d : ADraw} {a0 afin : Frm} {base i : Nat} {dst : Option Nat} {g : Option (Nat × Bool)} {hs : List Heap} {n s : Nat} {x y : AX} : sameAt d a0 afin base i ⟨dst, .indexVal n s x y, g⟩ hs = true := same_rd rfl rfl
theorem sm_indexStr {d : ADraw} {a0 afin : Frm} {base i : Nat} {dst : Option Nat} {g : Option (Nat × Bool)} {hs : List Heap} {x y : AX} : sameAt d a0 afin base i ⟨dst, .indexStr x y, g⟩ hs = true := same_rd rfl rfl
theorem sm_lenStr {d : ADraw} {a0 afin : Frm} {base i : Nat} {dst : Option Nat} {g : Option (Nat × Bool)} {hs : List Heap} {x : AX} : sameAt d a0 afin base i ⟨dst, .lenStr x, g⟩ hs = true := same_rd rfl rfl
theorem sm_lenSl {d : ADraw} {a0 afin : Frm} {base i : Nat} {dst : Option Nat} {g : Option (Nat × Bool)} {hs : List Heap} {x : AX} : sameAt d a0 afin base i ⟨dst, .lenSl x, g⟩ hs = true := same_rd rfl rfl
theorem sm_build {d : ADraw} {a0 afin : Frm} {base i : Nat} {dst : Option Nat} {g : Option (Nat × Bool)} {hs : List Heap} {z : List AV} {ps : List (Nat × Nat × AX)} : sameAt d a0 afin base i ⟨dst, .build z ps, g⟩ hs = true := same_rd rfl rfl
theorem sm_sliceArr {d : ADraw} {a0 afin : Frm} {base i : Nat} {dst : Option Nat} {g : Option (Nat × Bool)} {hs : List Heap} {n s : Nat} {x : AX} {l h m : Option AX} : sameAt d a0 afin base i ⟨dst, .sliceArr n s x l h m, g⟩ hs = true := same_rd rfl rfl
theorem sm_pick {d : ADraw} {a0 afin : Frm} {base i : Nat} {dst : Option Nat} {g : Option (Nat × Bool)} {hs : List Heap} {c x y : AX} : sameAt d a0 afin base i ⟨dst, .pick c x y, g⟩ hs = true := same_rd rfl rfl
end Go.AE
end
-- More steps of the machine.
section
set_option linter.unusedVariables false
set_option linter.unusedSimpArgs false
set_option maxRecDepth 100000
noncomputable section
namespace Go.AE
variable {E : Env}
theorem ble_t {α : Type} {i n : Nat} (h : i < n) (x y : α) : (bif Nat.ble (Nat.succ i) n then x else y) = x := by
  have : Nat.ble (Nat.succ i) n = true := by rw [Nat.ble_eq]; omega
  rw [this, cond_true]
theorem load_blk' {T0 : T ABlk} {nx b o : Nat} {cs : List AV} {e : TypeId} {op ro : Bool} (h : T0.get b = some (.cells cs e op ro)) : Heap.load ⟨T0, nx⟩ b o = cs[o]? := load_blk h
theorem get_push (H : Heap) (x : ABlk) (j : Nat) : (H.push x).t.get j = if H.next = j then some x else H.t.get j := by simp only [Heap.push, T.get_set]
theorem next_push (H : Heap) (x : ABlk) : (H.push x).next = H.next + 1 := rfl
theorem bytesOf_bs : ∀ l : List UInt8, bytesOf (bs l) = some l
  | [] => rfl
  | b :: l => by
    have := bytesOf_bs l
    simp only [bs] at this
    show (match bytesOf (List.map by' l) with | some r => some (UInt8.ofNat (Int.ofNat b.toNat).toNat :: r) | none => none) = _
    rw [this]
    show some (UInt8.ofNat b.toNat :: l) = _
    rw [UInt8.ofNat_toNat]
theorem WOps_want {all os : List AOper} {dst : Option Nat} {op : AOp} {g : Option (Nat × Bool)} {a : Frm} {H : Heap} {Q : Frm → Heap → Prop} (hw : wantedA all a g = true) (h : WOps E all (⟨dst, op, none⟩ :: os) a H Q) : WOps E all (⟨dst, op, g⟩ :: os) a H Q := by
  obtain ⟨n, a', H', h, q⟩ := h
  refine ⟨n, a', H', fun m hm => ?_, q⟩
  have := h m hm
  rw [runOps_cons] at this ⊢
  simp only [hw, cond_true]
  simp only [wantedA, cond_true] at this
  exact this
theorem WOps_skip {all os : List AOper} {dst : Option Nat} {op : AOp} {g : Option (Nat × Bool)} {a : Frm} {H : Heap} {Q : Frm → Heap → Prop} (hw : wantedA all a g = false) (h : WOps E all os (put a dst aundef) H Q) : WOps E all (⟨dst, op, g⟩ :: os) a H Q := by
  obtain ⟨n, a', H', h, q⟩ := h
  refine ⟨n, a', H', fun m hm => ?_, q⟩
  have := h m hm
  rw [runOps_cons]
  simp only [cond_false, hw]
  exact this
theorem w_minI {all os : List AOper} {dst : Option Nat} {xs : List AX} {a : Frm} {H : Heap} {Q : Frm → Heap → Prop} :
    WOps E all (⟨dst, .minI xs, none⟩ :: os) a H Q ↔ ∃ v, rd (.minI xs) a H = some v ∧ WOps E all os (put a dst v) H Q := WOps_rd rfl
theorem w_sliceStr {all os : List AOper} {dst : Option Nat} {x : AX} {l h : Option AX} {a : Frm} {H : Heap} {Q : Frm → Heap → Prop} :
    WOps E all (⟨dst, .sliceStr x l h, none⟩ :: os) a H Q ↔ ∃ v, rd (.sliceStr x l h) a H = some v ∧ WOps E all os (put a dst v) H Q := WOps_rd rfl
theorem w_sliceSl {all os : List AOper} {dst : Option Nat} {s : Nat} {x : AX} {l h m : Option AX} {a : Frm} {H : Heap} {Q : Frm → Heap → Prop} :
    WOps E all (⟨dst, .sliceSl s x l h m, none⟩ :: os) a H Q ↔ ∃ v, rd (.sliceSl s x l h m) a H = some v ∧ WOps E all os (put a dst v) H Q := WOps_rd rfl
theorem w_convI {all os : List AOper} {dst : Option Nat} {k : IntKind} {x : AX} {a : Frm} {H : Heap} {Q : Frm → Heap → Prop} :
    WOps E all (⟨dst, .convInt k x, none⟩ :: os) a H Q ↔ ∃ v, rd (.convInt k x) a H = some v ∧ WOps E all os (put a dst v) H Q := WOps_rd rfl
theorem w_eqv {all os : List AOper} {dst : Option Nat} {n : Bool} {k : EqKind} {x y : AX} {a : Frm} {H : Heap} {Q : Frm → Heap → Prop} :
    WOps E all (⟨dst, .eqv n k x y, none⟩ :: os) a H Q ↔ ∃ v, rd (.eqv n k x y) a H = some v ∧ WOps E all os (put a dst v) H Q := WOps_rd rfl
theorem w_extract {all os : List AOper} {dst : Option Nat} {i : Nat} {x : AX} {a : Frm} {H : Heap} {Q : Frm → Heap → Prop} :
    WOps E all (⟨dst, .extract i x, none⟩ :: os) a H Q ↔ ∃ v, rd (.extract i x) a H = some v ∧ WOps E all os (put a dst v) H Q := WOps_rd rfl
theorem w_sbin {all os : List AOper} {dst : Option Nat} {o : BinOp} {x y : AX} {a : Frm} {H : Heap} {Q : Frm → Heap → Prop} :
    WOps E all (⟨dst, .sbin o x y, none⟩ :: os) a H Q ↔ ∃ v, sbin o (evalX a x) (evalX a y) = some v ∧ WOps E all os (put a dst v) H Q := WOps_rd rfl
theorem wantedA_some {ops : List AOper} {a : Frm} {j d : Nat} {want b : Bool} (h : dstOf ops j = some d) (hb : a.get d = some (.bool b)) : wantedA ops a (some (j, want)) = (b == want) := by
  simp only [wantedA, h, hb]
theorem sbin_eql (x y : List UInt8) : sbin .eql (.str x) (.str y) = some (.bool (x == y)) := by simp only [sbin, beqBytes_eq]
theorem sbin_neq (x y : List UInt8) : sbin .neq (.str x) (.str y) = some (.bool !(x == y)) := by simp only [sbin, beqBytes_eq]
theorem sbin_add {x y : List UInt8} (h : x.length + y.length ≤ 9223372036854775807) : sbin .add (.str x) (.str y) = some (.str (x ++ y)) := by
  simp only [sbin, (Nat.ble_eq.mpr h), cond_true]
theorem WCall.told {f : Nat} {args : List AV} {H H' : Heap} {v : AV} {Q : AV → Heap → Prop} (h : E.sums f args H = some (v, H')) (q : Q v H') : WCall E f args H Q :=
  ⟨0, v, H', fun m _ => by rw [acall_run]; simp only [h], q⟩
theorem min_nn (a b : Nat) : minI2 (nn a) [nn b] = some (nn (min a b)) := by
  simp only [nn, minI2, fits.Int.ble']
  cases h : Nat.ble a b with
  | true => rw [Nat.ble_eq] at h; simp only [cond_true, Nat.min_eq_left h]
  | false =>
    have : ¬ a ≤ b := fun h' => by rw [← Nat.ble_eq, h] at h'; exact nomatch h'
    simp only [cond_false, Nat.min_eq_right (show b ≤ a by omega)]
theorem bounds_hi {a : Frm} {x : AX} {len cap h : Nat} (hx : evalX a x = nn h) (hc : h ≤ cap) : bounds a len cap none (some x) none = some (0, h, cap) := by
  delta bounds
  simp only [bound, hx, natOf_nn, Nat.ble_eq.mpr hc, cond_true]
theorem bounds_lo {a : Frm} {x : AX} {len cap l : Nat} (hx : evalX a x = nn l) (hl : l ≤ len) : bounds a len cap (some x) none none = some (l, len, cap) := by
  delta bounds
  simp only [bound, hx, natOf_nn, Nat.ble_eq.mpr hl, cond_true]
theorem bounds_lh {a : Frm} {x y : AX} {len cap l h : Nat} (hx : evalX a x = nn l) (hy : evalX a y = nn h) (hl : l ≤ h) (hc : h ≤ cap) : bounds a len cap (some x) (some y) none = some (l, h, cap) := by
  delta bounds
  simp only [bound, hx, hy, natOf_nn, Nat.ble_eq.mpr hl, Nat.ble_eq.mpr hc, cond_true]
theorem gtr_nn (a b : Nat) : ibin .gtr (nn a) (nn b) = some (.bool (decide (b < a))) := by
  simp only [nn, ibin, kindEq, cond_true, fits.Int.ble']
  congr 2
  cases h : Nat.ble a b with
  | true => rw [Nat.ble_eq] at h; simp; omega
  | false => have : ¬ a ≤ b := fun h' => by rw [← Nat.ble_eq, h] at h'; exact nomatch h'
             simp; omega
theorem ofBytes_bs (x : List UInt8) : ofBytes x = bs x := rfl
theorem bs_append (x y : List UInt8) : bs x ++ bs y = bs (x ++ y) := by simp [bs]
theorem bs_drop (x : List UInt8) (n : Nat) : (bs x).drop n = bs (x.drop n) := by simp [bs]
theorem w_strToBytes {all os : List AOper} {dst : Option Nat} {e : TypeId} {x : AX} {a : Frm} {H : Heap} {Q : Frm → Heap → Prop} {S : List UInt8} (hx : evalX a x = .str S)
    (h : WOps E all os (put a dst (.slice (some (H.next, 0)) S.length (.unk 1))) (H.push (.cells (bs S) e true false)) Q) : WOps E all (⟨dst, .strToBytes e x, none⟩ :: os) a H Q := by
  rw [WOps_al rfl]
  refine ⟨.cells (bs S) e true false, fun i => .slice (some (i, 0)) S.length (.unk 1), ?_, h⟩
  simp only [al, hx]
  rfl
theorem toStr {a : Frm} {x : AX} {b L : Nat} {cap : ACap} {S : List UInt8} {T0 : T ABlk} {nx : Nat} {e : TypeId} {op ro : Bool} (hx : evalX a x = .slice (some (b, 0)) L cap) (hl : S.length = L) (hb : T0.get b = some (.cells (bs S) e op ro)) :
    rd (.bytesToStr x) a ⟨T0, nx⟩ = some (.str S) := by
  simp only [rd, hx]
  cases L with
  | zero => obtain rfl := List.eq_nil_of_length_eq_zero hl; rfl
  | succ L => simp only [loadN_bs (nx := nx) hb hl, bytesOf_bs]
theorem w_maxI {all os : List AOper} {dst : Option Nat} {xs : List AX} {a : Frm} {H : Heap} {Q : Frm → Heap → Prop} :
    WOps E all (⟨dst, .maxI xs, none⟩ :: os) a H Q ↔ ∃ v, rd (.maxI xs) a H = some v ∧ WOps E all os (put a dst v) H Q := WOps_rd rfl
/-- a number without sign -/
def nu (n : Nat) : AV := .int .u64 (.ofNat n)
theorem shr_uu {a b : Nat} (h : b < 64) : ibin .shr (nu a) (nn b) = some (nu (a / 2 ^ b)) := by
  have e1 : Nat.ble b 64 = true := by rw [Nat.ble_eq]; omega
  show (let n := bif Nat.ble b 64 then b else 64; some (AV.int .u64 (.ofNat (Nat.div a (Nat.pow 2 n))))) = _
  rw [e1]; rfl
theorem geq_nn (a b : Nat) : ibin .geq (nn a) (nn b) = some (.bool (decide (b ≤ a))) := by
  simp only [nn, ibin, kindEq, cond_true, fits.Int.ble']
  congr 2
  cases h : Nat.ble b a with
  | true => rw [Nat.ble_eq] at h; simp [h]
  | false => have : ¬ b ≤ a := fun h' => by rw [← Nat.ble_eq, h] at h'; exact nomatch h'
             simp [this]
end Go.AE
end
