/- The abstract machine: values, heap, operations, code; and its run. -/
import Derived.Orders
import Derived.LoopN
set_option linter.unusedVariables false
set_option linter.unusedSimpArgs false
section
namespace Go.AE

/-! Trees keyed by numbers. -/
inductive T (α : Type) where
  | nil
  | node (l : T α) (v : Option α) (r : T α)
  deriving Inhabited

namespace T
variable {α : Type}
/-- what stands at a place (by the recursor: the kernel runs it faster) -/
noncomputable def get (t : T α) : Nat → Option α :=
  T.rec (motive := fun _ => Nat → Option α) (fun _ => .none) (fun _ v _ ihl ihr i => Nat.rec (motive := fun _ => Option α) v (fun j _ => cond (Nat.beq (Nat.mod j 2) 0) (ihl (Nat.div j 2)) (ihr (Nat.div j 2))) i) t
theorem get_nil (i : Nat) : (nil : T α).get i = none := rfl
theorem get_zero (l : T α) (v : Option α) (r : T α) : (node l v r).get 0 = v := rfl
theorem get_succ (l : T α) (v : Option α) (r : T α) (i : Nat) : (node l v r).get (i + 1) = bif Nat.beq (Nat.mod i 2) 0 then l.get (Nat.div i 2) else r.get (Nat.div i 2) := rfl

/-- a leaf at a place, in an empty tree -/
noncomputable def single (v : α) (f : Nat) : Nat → T α :=
  Nat.rec (motive := fun _ => Nat → T α) (fun _ => .nil) (fun _ ih i => Nat.rec (motive := fun _ => T α) (.node .nil (some v) .nil) (fun j _ => cond (Nat.beq (Nat.mod j 2) 0) (.node (ih (Nat.div j 2)) none .nil) (.node .nil none (ih (Nat.div j 2)))) i) f
theorem single_z (v : α) (i : Nat) : single v 0 i = .nil := rfl
theorem single_zero (v : α) (f : Nat) : single v (f + 1) 0 = .node .nil (some v) .nil := rfl
theorem single_succ (v : α) (f i : Nat) : single v (f + 1) (i + 1) = bif Nat.beq (Nat.mod i 2) 0 then .node (single v f (Nat.div i 2)) none .nil else .node .nil none (single v f (Nat.div i 2)) := rfl

noncomputable def set (t : T α) (i : Nat) (v : α) : T α :=
  T.rec (motive := fun _ => Nat → T α) (fun i => single v (Nat.succ i) i) (fun l x r ihl ihr i => Nat.rec (motive := fun _ => T α) (.node l (some v) r) (fun j _ => cond (Nat.beq (Nat.mod j 2) 0) (.node (ihl (Nat.div j 2)) x r) (.node l x (ihr (Nat.div j 2)))) i) t i
theorem set_nil (i : Nat) (v : α) : (nil : T α).set i v = single v (i + 1) i := rfl
theorem set_zero (l : T α) (x : Option α) (r : T α) (v : α) : (node l x r).set 0 v = node l (some v) r := rfl
theorem set_succ (l : T α) (x : Option α) (r : T α) (i : Nat) (v : α) : (node l x r).set (i + 1) v = bif Nat.beq (Nat.mod i 2) 0 then .node (l.set (Nat.div i 2) v) x r else .node l x (r.set (Nat.div i 2) v) := rfl

/-- nothing at a place -/
noncomputable def del (t : T α) : Nat → T α :=
  T.rec (motive := fun _ => Nat → T α) (fun _ => .nil) (fun l x r ihl ihr i => Nat.rec (motive := fun _ => T α) (.node l .none r) (fun j _ => cond (Nat.beq (Nat.mod j 2) 0) (.node (ihl (Nat.div j 2)) x r) (.node l x (ihr (Nat.div j 2)))) i) t
theorem del_nil (i : Nat) : (nil : T α).del i = nil := rfl
theorem del_zero (l : T α) (x : Option α) (r : T α) : (node l x r).del 0 = node l none r := rfl
theorem del_succ (l : T α) (x : Option α) (r : T α) (i : Nat) : (node l x r).del (i + 1) = bif Nat.beq (Nat.mod i 2) 0 then .node (l.del (Nat.div i 2)) x r else .node l x (r.del (Nat.div i 2)) := rfl

theorem half_eq {i j : Nat} (h : Nat.beq (i % 2) 0 = Nat.beq (j % 2) 0) (h' : i / 2 = j / 2) : i = j := by
  have := Nat.div_add_mod i 2
  have := Nat.div_add_mod j 2
  have h1 : i % 2 = 0 ∨ i % 2 = 1 := by omega
  have h2 : j % 2 = 0 ∨ j % 2 = 1 := by omega
  rcases h1 with h1 | h1 <;> rcases h2 with h2 | h2 <;> simp [h1, h2] at h <;> omega

theorem get_single (v : α) : ∀ (f i j : Nat), i < f → (single v f i).get j = if i = j then some v else none := by
  intro f
  induction f with
  | zero => intro i j h; omega
  | succ f ih =>
    intro i j h
    cases i with
    | zero =>
      cases j with
      | zero => rfl
      | succ j =>
        simp only [single_zero, single_succ, get_zero, get_succ, get_nil]
        cases Nat.beq (Nat.mod j 2) 0 <;> simp [get_nil]
    | succ i =>
      have hi : i / 2 < f := by omega
      simp only [single_succ]
      cases hb : Nat.beq (Nat.mod i 2) 0 with
      | true =>
        simp only [cond_true]
        cases j with
        | zero => rfl
        | succ j =>
          simp only [get_succ]
          cases hj : Nat.beq (Nat.mod j 2) 0 with
          | true =>
            simp only [cond_true]
            rw [show Nat.div i 2 = i / 2 from rfl, show Nat.div j 2 = j / 2 from rfl, ih _ _ hi]
            by_cases e : i = j
            · subst e; simp
            · have : i / 2 ≠ j / 2 := fun h' => e (half_eq (by rw [show i % 2 = Nat.mod i 2 from rfl, show j % 2 = Nat.mod j 2 from rfl, hb, hj]) h')
              simp [e, this]
          | false =>
            have : i ≠ j := fun e => by subst e; rw [hb] at hj; cases hj
            simp [get_nil, this]
      | false =>
        simp only [cond_false]
        cases j with
        | zero => rfl
        | succ j =>
          simp only [get_succ]
          cases hj : Nat.beq (Nat.mod j 2) 0 with
          | false =>
            simp only [cond_false]
            rw [show Nat.div i 2 = i / 2 from rfl, show Nat.div j 2 = j / 2 from rfl, ih _ _ hi]
            by_cases e : i = j
            · subst e; simp
            · have : i / 2 ≠ j / 2 := fun h' => e (half_eq (by rw [show i % 2 = Nat.mod i 2 from rfl, show j % 2 = Nat.mod j 2 from rfl, hb, hj]) h')
              simp [e, this]
          | true =>
            have : i ≠ j := fun e => by subst e; rw [hb] at hj; cases hj
            simp [get_nil, this]

theorem get_set (t : T α) : ∀ (i j : Nat) (v : α), (t.set i v).get j = if i = j then some v else t.get j := by
  induction t with
  | nil => intro i j v; simp only [set_nil, get_nil]; exact get_single v _ _ _ (by omega)
  | node l x r ihl ihr =>
    intro i j v
    cases i with
    | zero =>
      cases j with
      | zero => rfl
      | succ j => simp [set_zero, set_succ, get_zero, get_succ]
    | succ i =>
      simp only [set_succ]
      cases hb : Nat.beq (Nat.mod i 2) 0 with
      | true =>
        simp only [cond_true]
        cases j with
        | zero => rfl
        | succ j =>
          simp only [get_succ]
          cases hj : Nat.beq (Nat.mod j 2) 0 with
          | true =>
            simp only [cond_true]
            rw [show Nat.div i 2 = i / 2 from rfl, show Nat.div j 2 = j / 2 from rfl, ihl]
            by_cases e : i = j
            · subst e; simp
            · have : i / 2 ≠ j / 2 := fun h' => e (half_eq (by rw [show i % 2 = Nat.mod i 2 from rfl, show j % 2 = Nat.mod j 2 from rfl, hb, hj]) h')
              simp [e, this]
          | false =>
            have : i ≠ j := fun e => by subst e; rw [hb] at hj; cases hj
            simp [this]
      | false =>
        simp only [cond_false]
        cases j with
        | zero => rfl
        | succ j =>
          simp only [get_succ]
          cases hj : Nat.beq (Nat.mod j 2) 0 with
          | false =>
            simp only [cond_false]
            rw [show Nat.div i 2 = i / 2 from rfl, show Nat.div j 2 = j / 2 from rfl, ihr]
            by_cases e : i = j
            · subst e; simp
            · have : i / 2 ≠ j / 2 := fun h' => e (half_eq (by rw [show i % 2 = Nat.mod i 2 from rfl, show j % 2 = Nat.mod j 2 from rfl, hb, hj]) h')
              simp [e, this]
          | true =>
            have : i ≠ j := fun e => by subst e; rw [hb] at hj; cases hj
            simp [this]

theorem get_del (t : T α) : ∀ (i j : Nat), (t.del i).get j = if i = j then none else t.get j := by
  induction t with
  | nil => intro i j; simp [del_nil, del_zero, del_succ, get_nil, get_zero, get_succ]
  | node l x r ihl ihr =>
    intro i j
    cases i with
    | zero =>
      cases j with
      | zero => rfl
      | succ j => simp [del_nil, del_zero, del_succ, get_nil, get_zero, get_succ]
    | succ i =>
      simp only [del_succ]
      cases hb : Nat.beq (Nat.mod i 2) 0 with
      | true =>
        simp only [cond_true]
        cases j with
        | zero => rfl
        | succ j =>
          simp only [get_succ]
          cases hj : Nat.beq (Nat.mod j 2) 0 with
          | true =>
            simp only [cond_true]
            rw [show Nat.div i 2 = i / 2 from rfl, show Nat.div j 2 = j / 2 from rfl, ihl]
            by_cases e : i = j
            · subst e; simp
            · have : i / 2 ≠ j / 2 := fun h' => e (half_eq (by rw [show i % 2 = Nat.mod i 2 from rfl, show j % 2 = Nat.mod j 2 from rfl, hb, hj]) h')
              simp [e, this]
          | false =>
            have : i ≠ j := fun e => by subst e; rw [hb] at hj; cases hj
            simp [this]
      | false =>
        simp only [cond_false]
        cases j with
        | zero => rfl
        | succ j =>
          simp only [get_succ]
          cases hj : Nat.beq (Nat.mod j 2) 0 with
          | false =>
            simp only [cond_false]
            rw [show Nat.div i 2 = i / 2 from rfl, show Nat.div j 2 = j / 2 from rfl, ihr]
            by_cases e : i = j
            · subst e; simp
            · have : i / 2 ≠ j / 2 := fun h' => e (half_eq (by rw [show i % 2 = Nat.mod i 2 from rfl, show j % 2 = Nat.mod j 2 from rfl, hb, hj]) h')
              simp [e, this]
          | true =>
            have : i ≠ j := fun e => by subst e; rw [hb] at hj; cases hj
            simp [this]

end T
end Go.AE
end
-- The abstract machine: values, heap, operations, code; and its run.
section
noncomputable section
namespace Go.AE

/-- how much room a slice has: just so much; or as much as its row, of elements of so many cells -/
inductive ACap where
  | known (n : Nat)
  | unk (size : Nat)
  deriving DecidableEq, Inhabited, Repr

inductive AV where
  | bool (b : Bool)
  | int (k : IntKind) (n : Int)
  | str (s : List UInt8)
  | ptr (a : Option (Nat × Nat))
  | slice (a : Option (Nat × Nat)) (len : Nat) (cap : ACap)
  | map (r : Option Nat)
  | func (fn : Fn) (first captured : List AV)
  | nilFunc
  | iface (t : TypeId) (v : AV)
  | nilIface
  | agg (cells : List AV)
  | tuple (vs : List AV)
  deriving Inhabited

def aundef : AV := .tuple []

def AV.cells : AV → List AV
  | .agg cs => cs
  | v => [v]

/-- may it stand in one cell? -/
def AV.atom : AV → Bool
  | .agg _ | .tuple _ => false
  | _ => true

inductive ABlk where
  | cells (cs : List AV) (elem : TypeId) (opn ro : Bool)
  | map (es : List (AV × AV × Nat)) (clock : Nat)
  deriving Inhabited

structure Heap where
  t : T ABlk
  next : Nat
  deriving Inhabited

inductive AX where
  | tmp (t : Nat)
  | const (v : AV)
  deriving Inhabited

/-- what an equality asks -/
inductive EqKind where
  | bool | ptr | iface | slice | map | func
  deriving Inhabited, DecidableEq, Repr

/-- what a map is keyed by -/
inductive KeyKind where
  | int | str | bool
  deriving Inhabited, DecidableEq, Repr

inductive AOp where
  | mov (x : AX)
  | pick (c a b : AX)
  | alloc (elem : TypeId) (zero : List AV)
  | box (elem : TypeId) (x : AX)
  | build (zero : List AV) (parts : List (Nat × Nat × AX))
  | buildSlice (elem : TypeId) (zeros : List AV) (len : Nat) (parts : List (Nat × Nat × AX))
  | load1 (a : AX)
  | loadN (n : Nat) (a : AX)
  | store (n : Nat) (a x : AX)
  | nilCheck (x : AX)
  | ibin (op : BinOp) (x y : AX)
  | sbin (op : BinOp) (x y : AX)
  | eqv (neg : Bool) (kind : EqKind) (x y : AX)
  | un (op : UnOp) (x : AX)
  | convInt (k : IntKind) (x : AX)
  | strToStr (x : AX)
  | strToBytes (elem : TypeId) (x : AX)
  | bytesToStr (x : AX)
  | arrPtr (n : Nat) (x : AX)
  | mkIface (t : TypeId) (x : AX)
  | mkFunc (fn : Fn) (first captured : List AX)
  | makeSlice (elem : TypeId) (bytes : Nat) (zero : List AV) (l c : AX)
  | makeMap (hint : Option AX)
  | sliceStr (x : AX) (lo hi : Option AX)
  | sliceSl (size : Nat) (x : AX) (lo hi mx : Option AX)
  | sliceArr (n size : Nat) (x : AX) (lo hi mx : Option AX)
  | fieldAddr (off : Nat) (x : AX)
  | part (off : Nat) (x : AX)
  | partN (off n : Nat) (x : AX)
  | indexArr (n size : Nat) (x i : AX)
  | indexSl (size : Nat) (x i : AX)
  | indexVal (n size : Nat) (x i : AX)
  | indexValN (n size : Nat) (x i : AX)
  | indexStr (x i : AX)
  | lookup (kk : KeyKind) (zero : AV) (commaOk : Bool) (m k : AX)
  | mapUpdate (kk : KeyKind) (m k v : AX)
  | assert (t : TypeId) (zero : AV) (commaOk : Bool) (x : AX)
  | extract (i : Nat) (x : AX)
  | call (f : AX) (args : List AX)
  | callM (recv : AX) (name : String) (args : List AX)
  | lenStr (x : AX)
  | lenArr (n : Nat)
  | lenSl (x : AX)
  | lenMap (x : AX)
  | append (elem : TypeId) (size bytes : Nat) (s x : AX)
  | copy (size : Nat) (d s : AX)
  | minI (args : List AX)
  | maxI (args : List AX)
  | delete (kk : KeyKind) (m k : AX)
  | bad
  deriving Inhabited

structure AOper where
  dst : Option Nat
  op : AOp
  guard : Option (Nat × Bool)
  deriving Inhabited

/-- of a statement that draws its order: the operations; one order of them; of each: all that must have been done ahead of it (a bit each), and the stages (so many writers are done) at which it may be done -/
structure ADraw where
  ops : List AOper
  ord : List Nat
  pre : List Nat
  lohi : List (Nat × Nat)
  /-- is a slot written that an operation ahead of it looks at? -/
  war : Bool
  deriving Inhabited

inductive ACode where
  | skip
  | region (ops : List AOper)
  | draw (d : ADraw)
  | seq (a b : ACode)
  | cond (c : AX) (thn els : ACode)
  | block (id : Nat) (body : ACode)
  | loop (body : ACode)
  | exit (id : Nat)
  | ret
  deriving Inhabited

inductive ARes where
  | tmp (t : Nat)
  | cell (t : Nat)
  | cellN (t n : Nat)
  deriving Inhabited

structure AFunc where
  code : ACode
  results : List ARes
  deriving Inhabited

abbrev Frm := T AV

def evalX (a : Frm) : AX → AV
  | .tmp t => (a.get t).getD aundef
  | .const v => v

def put (a : Frm) : Option Nat → AV → Frm
  | some d, v => a.set d v
  | none, _ => a

/-! numbers -/

def lo : IntKind → Int
  | .i8 => -128 | .i16 => -32768 | .i32 => -2147483648 | .i64 => -9223372036854775808
  | .u8 | .u16 | .u32 | .u64 => 0

def hi : IntKind → Int
  | .i8 => 127 | .i16 => 32767 | .i32 => 2147483647 | .i64 => 9223372036854775807
  | .u8 => 255 | .u16 => 65535 | .u32 => 4294967295 | .u64 => 18446744073709551615

/-- lo ≤ n ≤ hi, as the kernel reckons it fast -/
def fits (k : IntKind) (n : Int) : Bool := Int.ble' (lo k) n && Int.ble' n (hi k)
where
  Int.ble' : Int → Int → Bool
    | .ofNat a, .ofNat b => Nat.ble a b
    | .ofNat _, .negSucc _ => false
    | .negSucc _, .ofNat _ => true
    | .negSucc a, .negSucc b => Nat.ble b a

def wrapK (k : IntKind) (n : Int) : Int := bif fits k n then n else k.wrap n

/-- & | ^ of two numbers that are not negative -/
def natBits (op : BinOp) (a b : Nat) : Option Nat :=
  match op with
  | .and => some (Nat.land a b)
  | .or => some (Nat.lor a b)
  | .xor => some (Nat.xor a b)
  | _ => none

/-- the model's own, by way of bit vectors -/
def slowBits (op : BinOp) (k : IntKind) (x y : Int) : Option Int :=
  let a := BitVec.ofInt k.bits x
  let b := BitVec.ofInt k.bits y
  match op with
  | .and => some (k.wrap (a &&& b).toNat)
  | .or => some (k.wrap (a ||| b).toNat)
  | .xor => some (k.wrap (a ^^^ b).toNat)
  | .andNot => some (k.wrap (a &&& ~~~b).toNat)
  | _ => none

def ibits (op : BinOp) (k : IntKind) (x y : Int) : Option Int :=
  bif fits k x && fits k y then
    match x, y with
    | .ofNat a, .ofNat b => match natBits op a b with
      | some c => some (.ofNat c)
      | none => slowBits op k x y
    | _, _ => slowBits op k x y
  else slowBits op k x y

def ishift (op : BinOp) (k : IntKind) (x y : Int) : Option AV :=
  match y with
  | .negSucc _ => none
  | .ofNat s =>
    let n := bif Nat.ble s k.bits then s else k.bits
    match op, x with
    | .shl, _ => some (.int k (wrapK k (x * (2 ^ n : Nat))))
    | .shr, .ofNat a => some (.int k (.ofNat (Nat.div a (Nat.pow 2 n))))
    | .shr, _ => some (.int k (x.fdiv (2 ^ n)))
    | _, _ => none

def ieq : Int → Int → Bool
  | .ofNat a, .ofNat b => Nat.beq a b
  | .negSucc a, .negSucc b => Nat.beq a b
  | _, _ => false

def kindEq : IntKind → IntKind → Bool
  | .i8, .i8 | .i16, .i16 | .i32, .i32 | .i64, .i64 | .u8, .u8 | .u16, .u16 | .u32, .u32 | .u64, .u64 => true
  | _, _ => false

def ibin (op : BinOp) : AV → AV → Option AV
  | .int k x, .int k' y =>
    match op with
    | .shl | .shr => ishift op k x y
    | _ =>
      bif kindEq k k' then
        match op with
        | .add => some (.int k (wrapK k (x + y)))
        | .sub => some (.int k (wrapK k (x - y)))
        | .mul => some (.int k (wrapK k (x * y)))
        | .quo => bif ieq y 0 then none else some (.int k (wrapK k (x.tdiv y)))
        | .rem => bif ieq y 0 then none else some (.int k (x.tmod y))
        | .and | .or | .xor | .andNot => match ibits op k x y with
          | some n => some (.int k n)
          | none => none
        | .eql => some (.bool (ieq x y))
        | .neq => some (.bool !(ieq x y))
        | .lss => some (.bool !(fits.Int.ble' y x))
        | .leq => some (.bool (fits.Int.ble' x y))
        | .gtr => some (.bool !(fits.Int.ble' x y))
        | .geq => some (.bool (fits.Int.ble' y x))
        | _ => none
      else none
  | _, _ => none

def beqBytes : List UInt8 → List UInt8 → Bool
  | [], [] => true
  | a :: x, b :: y => bif Nat.beq a.toNat b.toNat then beqBytes x y else false
  | _, _ => false

def lessBytes : List UInt8 → List UInt8 → Bool
  | _, [] => false
  | [], _ :: _ => true
  | a :: x, b :: y => bif Nat.beq a.toNat b.toNat then lessBytes x y else Nat.ble a.toNat b.toNat

def sbin (op : BinOp) : AV → AV → Option AV
  | .str x, .str y =>
    match op with
    | .add => bif Nat.ble (x.length + y.length) 9223372036854775807 then some (.str (x ++ y)) else none
    | .eql => some (.bool (beqBytes x y))
    | .neq => some (.bool !(beqBytes x y))
    | .lss => some (.bool (lessBytes x y))
    | .leq => some (.bool (lessBytes x y || beqBytes x y))
    | .gtr => some (.bool !(lessBytes x y || beqBytes x y))
    | .geq => some (.bool !(lessBytes x y))
    | _ => none
  | _, _ => none

def eqv (kind : EqKind) : AV → AV → Option Bool
  | .bool a, .bool b => match kind with | .bool => some (a == b) | _ => none
  | .ptr none, .ptr b => match kind with | .ptr => some b.isNone | _ => none
  | .ptr (some _), .ptr none => match kind with | .ptr => some false | _ => none
  | .nilIface, .nilIface => match kind with | .iface => some true | _ => none
  | .nilIface, .iface _ _ | .iface _ _, .nilIface => match kind with | .iface => some false | _ => none
  | .slice none _ _, .slice b _ _ => match kind with | .slice => some b.isNone | _ => none
  | .slice (some _) _ _, .slice none _ _ => match kind with | .slice => some false | _ => none
  | .map none, .map b => match kind with | .map => some b.isNone | _ => none
  | .map (some _), .map none => match kind with | .map => some false | _ => none
  | .nilFunc, .nilFunc => match kind with | .func => some true | _ => none
  | .nilFunc, .func _ _ _ | .func _ _ _, .nilFunc => match kind with | .func => some false | _ => none
  | _, _ => none

def unop (op : UnOp) : AV → Option AV
  | .int k n => match op with
    | .neg => some (.int k (wrapK k (0 - n)))
    | .xor => match slowBits .xor k (if k.signed then -1 else k.max) n with
      | some m => some (.int k m)
      | none => none
    | _ => none
  | .bool b => match op with
    | .not => some (.bool !b)
    | _ => none
  | _ => none

/-! memory -/

def Heap.cellsAt (H : Heap) (b : Nat) : Option (List AV) :=
  match H.t.get b with
  | some (.cells cs _ _ _) => some cs
  | _ => none

def Heap.load (H : Heap) (b o : Nat) : Option AV :=
  match H.cellsAt b with
  | some cs => cs[o]?
  | none => none

/-- n elements from a place on -/
def grab (n o : Nat) (cs : List AV) : Option (List AV) :=
  let l := (cs.drop o).take n
  bif Nat.beq l.length n then some l else none

def Heap.loadN (H : Heap) (b o n : Nat) : Option (List AV) :=
  match H.cellsAt b with
  | some cs => grab n o cs
  | none => none

/-- a list with another one laid over it -/
def lay : List AV → Nat → List AV → Option (List AV)
  | cs, 0, [] => some cs
  | _ :: cs, 0, x :: xs => match lay cs 0 xs with
    | some r => some (x :: r)
    | none => none
  | c :: cs, o + 1, xs => match lay cs o xs with
    | some r => some (c :: r)
    | none => none
  | [], _, _ => none

def Heap.store (H : Heap) (b o : Nat) (xs : List AV) : Option Heap :=
  match H.t.get b with
  | some (.cells cs e op ro) =>
    bif ro || !(xs.all AV.atom) then none
    else match lay cs o xs with
      | some cs' => some { H with t := H.t.set b (.cells cs' e op ro) }
      | none => none
  | _ => none

def Heap.push (H : Heap) (x : ABlk) : Heap := { t := H.t.set H.next x, next := Nat.succ H.next }

def natOf : AV → Option Nat
  | .int _ (.ofNat n) => some n
  | _ => none

/-- a bound of a slice expression, at most m -/
def bound (a : Frm) (x : AX) (m : Nat) : Option Nat :=
  match natOf (evalX a x) with
  | some n => bif Nat.ble n m then some n else none
  | none => none

/-- lo, hi, max of a slice expression at length len and room cap -/
def bounds (a : Frm) (len cap : Nat) (lo hi mx : Option AX) : Option (Nat × Nat × Nat) :=
  match (match mx with | some x => bound a x cap | none => some cap) with
  | none => none
  | some m =>
    match (match hi, mx with | some x, _ => bound a x m | none, none => some len | none, some _ => none) with
    | none => none
    | some h =>
      match (match lo with | some x => bound a x h | none => some 0) with
      | none => none
      | some l => some (l, h, m)

def fillA : List AV → List (Nat × Nat × AV) → Option (List AV)
  | cs, [] => some cs
  | cs, (o, n, v) :: rest =>
    bif Nat.beq v.cells.length n then
      match lay cs o v.cells with
      | some cs' => fillA cs' rest
      | none => none
    else none

def bytesOf : List AV → Option (List UInt8)
  | [] => some []
  | .int .u8 n :: l => match bytesOf l with
    | some r => some (UInt8.ofNat n.toNat :: r)
    | none => none
  | _ => none

def ofBytes (s : List UInt8) : List AV := s.map fun b => .int .u8 (.ofNat b.toNat)

def repl : Nat → List AV → List AV
  | 0, _ => []
  | n + 1, z => z ++ repl n z

def keyEq : AV → AV → Option Bool
  | .int k a, .int k' b => bif kindEq k k' then some (ieq a b) else none
  | .str a, .str b => some (beqBytes a b)
  | .bool a, .bool b => some (a == b)
  | _, _ => none

def findKey (k : AV) : List (AV × AV × Nat) → Nat → Option (Option (Nat × AV))
  | [], _ => some none
  | (k', v, _) :: es, i =>
    match keyEq k k' with
    | some true => some (some (i, v))
    | some false => findKey k es (Nat.succ i)
    | none => none

def isKey : KeyKind → AV → Bool
  | .int, .int _ _ | .str, .str _ | .bool, .bool _ => true
  | _, _ => false

def modAt (f : AV × AV × Nat → AV × AV × Nat) : List (AV × AV × Nat) → Nat → List (AV × AV × Nat)
  | [], _ => []
  | e :: es, 0 => f e :: es
  | e :: es, i + 1 => e :: modAt f es i

def minI2 : AV → List AV → Option AV
  | v, [] => some v
  | .int k n, .int _ m :: rest => minI2 (.int k (bif fits.Int.ble' n m then n else m)) rest
  | _, _ :: _ => none

def maxI2 : AV → List AV → Option AV
  | v, [] => some v
  | .int k n, .int _ m :: rest => maxI2 (.int k (bif fits.Int.ble' m n then n else m)) rest
  | _, _ :: _ => none

/-- the value of an operation that leaves the heap alone -/
def rd (op : AOp) (a : Frm) (H : Heap) : Option AV :=
  match op with
  | .mov x => some (evalX a x)
  | .pick c x y => match evalX a c with
    | .bool b => some (bif b then evalX a x else evalX a y)
    | _ => none
  | .build zero parts => match fillA zero (parts.map fun (o, n, x) => (o, n, evalX a x)) with
    | some cs => some (.agg cs)
    | none => none
  | .load1 x => match evalX a x with
    | .ptr (some (b, o)) => H.load b o
    | _ => none
  | .loadN n x => match evalX a x with
    | .ptr (some (b, o)) => match H.loadN b o n with
      | some l => some (.agg l)
      | none => none
    | _ => none
  | .nilCheck x => match evalX a x with
    | .ptr (some p) => some (.ptr (some p))
    | .iface t v => some (.iface t v)
    | .func (.func f) x y => some (.func (.func f) x y)
    | _ => none
  | .ibin op x y => ibin op (evalX a x) (evalX a y)
  | .sbin op x y => sbin op (evalX a x) (evalX a y)
  | .eqv neg kind x y => match eqv kind (evalX a x) (evalX a y) with
    | some b => some (.bool (bif neg then !b else b))
    | none => none
  | .un op x => unop op (evalX a x)
  | .convInt k x => match evalX a x with
    | .int _ n => some (.int k (wrapK k n))
    | _ => none
  | .strToStr x => match evalX a x with
    | .str s => some (.str s)
    | _ => none
  | .bytesToStr x => match evalX a x with
    | .slice none _ _ => some (.str [])
    | .slice (some (b, o)) l _ => match l with
      | 0 => some (.str [])
      | l + 1 => match H.loadN b o (l + 1) with
        | some cs => match bytesOf cs with
          | some s => some (.str s)
          | none => none
        | none => none
    | _ => none
  | .arrPtr n x => match evalX a x with
    | .slice (some p) l _ => bif Nat.ble (Nat.succ 0) n && Nat.ble n l then some (.ptr (some p)) else none
    | _ => none
  | .mkIface t x => some (.iface t (evalX a x))
  | .mkFunc fn first captured => some (.func fn (first.map (evalX a)) (captured.map (evalX a)))
  | .sliceStr x lo hi => match evalX a x with
    | .str s => match bounds a s.length s.length lo hi none with
      | some (l, h, _) => some (.str ((s.take h).drop l))
      | none => none
    | _ => none
  | .sliceSl size x lo hi mx => match evalX a x with
    | .slice p len (.known cap) => match bounds a len cap lo hi mx with
      | some (l, h, m) => some (.slice (bif Nat.beq m l then p else match p with | some (b, o) => some (b, o + l * size) | none => none) (h - l) (.known (m - l)))
      | none => none
    | .slice (some (b, o)) len (.unk s) => bif Nat.beq s size then
        match mx, bounds a len len lo hi mx with
        | none, some (l, h, _) => some (.slice (some (b, o + l * size)) (h - l) (.unk s))
        | some _, some (0, h, m) => some (.slice (some (b, o)) h (.known m))
        | _, _ => none
      else none
    | _ => none
  | .sliceArr n size x lo hi mx => match evalX a x with
    | .ptr (some (b, o)) => match bounds a n n lo hi mx with
      | some (l, h, m) => some (.slice (some (b, bif Nat.beq m l then o else o + l * size)) (h - l) (.known (m - l)))
      | none => none
    | _ => none
  | .fieldAddr off x => match evalX a x with
    | .ptr (some (b, o)) => some (.ptr (some (b, o + off)))
    | _ => none
  | .part off x => match evalX a x with
    | .agg cs => cs[off]?
    | _ => none
  | .partN off n x => match evalX a x with
    | .agg cs => match grab n off cs with
      | some l => some (.agg l)
      | none => none
    | _ => none
  | .indexArr n size x i => match evalX a x, natOf (evalX a i) with
    | .ptr (some (b, o)), some i => bif Nat.ble (Nat.succ i) n then some (.ptr (some (b, o + i * size))) else none
    | _, _ => none
  | .indexSl size x i => match evalX a x, natOf (evalX a i) with
    | .slice (some (b, o)) len _, some i => bif Nat.ble (Nat.succ i) len then some (.ptr (some (b, o + i * size))) else none
    | _, _ => none
  | .indexVal n size x i => match evalX a x, natOf (evalX a i) with
    | .agg cs, some i => bif Nat.ble (Nat.succ i) n then cs[i * size]? else none
    | _, _ => none
  | .indexValN n size x i => match evalX a x, natOf (evalX a i) with
    | .agg cs, some i => bif Nat.ble (Nat.succ i) n then (match grab size (i * size) cs with | some l => some (.agg l) | none => none) else none
    | _, _ => none
  | .indexStr x i => match evalX a x, natOf (evalX a i) with
    | .str s, some i => match s[i]? with
      | some b => some (.int .u8 (.ofNat b.toNat))
      | none => none
    | _, _ => none
  | .lookup kk zero ok m k =>
    let key := evalX a k
    bif isKey kk key then
      match (match evalX a m with
        | .map none => some []
        | .map (some b) => (match H.t.get b with | some (.map es _) => some es | _ => none)
        | _ => none) with
      | some es => match findKey key es 0 with
        | some (some (_, v)) => some (bif ok then .tuple [v, .bool true] else v)
        | some none => some (bif ok then .tuple [zero, .bool false] else zero)
        | none => none
      | none => none
    else none
  | .assert t zero ok x => match evalX a x with
    | .iface t' v => bif Nat.beq t' t then some (bif ok then .tuple [v, .bool true] else v)
      else bif ok then some (.tuple [zero, .bool false]) else none
    | .nilIface => bif ok then some (.tuple [zero, .bool false]) else none
    | _ => none
  | .extract i x => match evalX a x with
    | .tuple vs => vs[i]?
    | _ => none
  | .lenStr x => match evalX a x with
    | .str s => some (.int .i64 (.ofNat s.length))
    | _ => none
  | .lenArr n => some (.int .i64 (.ofNat n))
  | .lenSl x => match evalX a x with
    | .slice _ n _ => some (.int .i64 (.ofNat n))
    | _ => none
  | .lenMap x => match evalX a x with
    | .map none => some (.int .i64 (.ofNat 0))
    | .map (some b) => match H.t.get b with
      | some (.map es _) => some (.int .i64 (.ofNat es.length))
      | _ => none
    | _ => none
  | .minI xs => match xs.map (evalX a) with
    | v :: rest => minI2 v rest
    | [] => none
  | .maxI xs => match xs.map (evalX a) with
    | v :: rest => maxI2 v rest
    | [] => none
  | _ => none

/-- an operation that makes a block and touches nothing else: the block, and the value at its number -/
def al (op : AOp) (a : Frm) : Option (ABlk × (Nat → AV)) :=
  match op with
  | .alloc elem zero => some (.cells zero elem false false, fun i => .ptr (some (i, 0)))
  | .box elem x => some (.cells (evalX a x).cells elem false false, fun i => .ptr (some (i, 0)))
  | .buildSlice elem zeros len parts => match fillA zeros (parts.map fun (o, n, x) => (o, n, evalX a x)) with
    | some cs => some (.cells cs elem false false, fun i => .slice (some (i, 0)) len (.known len))
    | none => none
  | .strToBytes elem x => match evalX a x with
    | .str s => some (.cells (ofBytes s) elem true false, fun i => .slice (some (i, 0)) s.length (.unk 1))
    | _ => none
  | .makeSlice elem bytes zero l c => match natOf (evalX a l), natOf (evalX a c) with
    | some l, some c => bif Nat.ble l c && Nat.ble (c * bytes) 281474976710656 && Nat.ble c 9223372036854775807 then
        some (.cells (repl c zero) elem false false, fun i => .slice (some (i, 0)) l (.known c))
      else none
    | _, _ => none
  | .makeMap hint => match hint with
    | none => some (.map [] 0, fun i => .map (some i))
    | some x => match evalX a x with
      | .int _ _ => some (.map [] 0, fun i => .map (some i))
      | _ => none
  | _ => none

/-- what a call comes to -/
abbrev CallF := Nat → List AV → Heap → Option (AV × Heap)

/-- the methods of dynamic types: by type and name -/
abbrev Methods := List (TypeId × String × Nat)

def findM : Methods → TypeId → String → Option Nat
  | [], _, _ => none
  | (t, n, f) :: l, t', n' => bif Nat.beq t t' && n == n' then some f else findM l t' n'

/-- the new cells of append, copy -/
def source (size : Nat) (H : Heap) (n : Nat) : AV → Option (List AV)
  | .slice none _ _ => some []
  | .slice (some (b, o)) _ _ => match n with
    | 0 => some []
    | n + 1 => H.loadN b o ((n + 1) * size)
  | .str s => some (ofBytes (s.take n))
  | _ => none

def lenOfA : AV → Option Nat
  | .slice _ n _ => some n
  | .str s => some s.length
  | _ => none

def appendA (elem : TypeId) (size bytes : Nat) (H : Heap) (s x : AV) : Option (AV × Heap) :=
  match s, lenOfA x with
  | .slice base len cap, some n =>
    bif Nat.beq n 0 then (match cap with | .known c => bif Nat.ble len c then some (s, H) else none | .unk _ => some (s, H)) else
    let need := len + n
    bif !(Nat.ble (need * bytes) 140737488355328) || Nat.beq bytes 0 || Nat.beq size 0 then none else
    match source size H n x with
    | none => none
    | some new =>
      match cap with
      | .known c =>
        bif Nat.ble need c then
          match base with
          | some (b, o) => match H.store b (o + len * size) new with
            | some H' => some (.slice base need cap, H')
            | none => none
          | none => none
        else
          match source size H len s with
          | some old => bif Nat.beq (old.length + new.length) (need * size) then some (.slice (some (H.next, 0)) need (.unk size), H.push (.cells (old ++ new) elem true false)) else none
          | none => none
      | .unk s' =>
        match base with
        | some (b, 0) => bif Nat.beq s' size && new.all AV.atom then
            match H.t.get b with
            | some (.cells cs e true false) => match grab (len * size) 0 cs with
              | some old => bif !(Nat.beq (old.length + new.length) (need * size) && Nat.beq e elem) then none else some (.slice (some (H.next, 0)) need (.unk size), { t := (H.t.del b).set H.next (.cells (old ++ new) e true false), next := Nat.succ H.next })
              | none => none
            | _ => none
          else none
        | _ => none
  | _, _ => none

/-- an operation that writes, or calls -/
def wr (ms : Methods) (call : CallF) (op : AOp) (a : Frm) (H : Heap) : Option (AV × Heap) :=
  match op with
  | .store n p x => match evalX a p with
    | .ptr (some (b, o)) =>
      let cs := (evalX a x).cells
      bif Nat.beq cs.length n then
        match H.store b o cs with
        | some H' => some (aundef, H')
        | none => none
      else none
    | _ => none
  | .append elem size bytes s x => appendA elem size bytes H (evalX a s) (evalX a x)
  | .copy size d s => match evalX a d, lenOfA (evalX a s) with
    | .slice base dl _, some sl =>
      let n := bif Nat.ble sl dl then sl else dl
      match n, base with
      | 0, _ => some (.int .i64 (.ofNat 0), H)
      | n + 1, some (b, o) => match source size H (n + 1) (evalX a s) with
        | some cs => match H.store b o cs with
          | some H' => some (.int .i64 (.ofNat (n + 1)), H')
          | none => none
        | none => none
      | _, none => none
    | _, _ => none
  | .mapUpdate kk m k v => match evalX a m with
    | .map (some b) => match H.t.get b with
      | some (.map es clock) =>
        let key := evalX a k
        bif isKey kk key then
          match findKey key es 0 with
          | some (some (i, _)) => some (aundef, { H with t := H.t.set b (.map (modAt (fun e => (key, evalX a v, e.2.2)) es i) clock) })
          | some none => some (aundef, { H with t := H.t.set b (.map (es ++ [(key, evalX a v, clock)]) (Nat.succ clock)) })
          | none => none
        else none
      | _ => none
    | _ => none
  | .delete kk m k => match evalX a m with
    | .map none => bif isKey kk (evalX a k) then some (.tuple [], H) else none
    | .map (some b) => match H.t.get b with
      | some (.map es clock) =>
        bif isKey kk (evalX a k) then
          match findKey (evalX a k) es 0 with
          | some (some (i, _)) => some (.tuple [], { H with t := H.t.set b (.map (es.eraseIdx i) clock) })
          | some none => some (.tuple [], { H with t := H.t.set b (.map es clock) })
          | none => none
        else none
      | _ => none
    | _ => none
  | .call f args => match evalX a f with
    | .func (.func g) first captured => call g (first ++ args.map (evalX a) ++ captured) H
    | _ => none
  | .callM recv name args => match evalX a recv with
    | .iface t v => match findM ms t name with
      | some g => call g (v :: args.map (evalX a)) H
      | none => none
    | _ => none
  | _ => none

inductive Kind where
  | rd | al | wr
  deriving DecidableEq, Inhabited

def kindOf : AOp → Kind
  | .store .. | .append .. | .copy .. | .mapUpdate .. | .delete .. | .call .. | .callM .. => .wr
  | .alloc .. | .box .. | .buildSlice .. | .strToBytes .. | .makeSlice .. | .makeMap .. => .al
  | _ => .rd

/-- does it look at the heap? -/
def looks : AOp → Bool
  | .load1 .. | .loadN .. | .bytesToStr .. | .lookup .. | .lenMap .. => true
  | _ => false

def stepOp (ms : Methods) (call : CallF) (op : AOp) (a : Frm) (H : Heap) : Option (AV × Heap) :=
  match kindOf op with
  | .rd => match rd op a H with
    | some v => some (v, H)
    | none => none
  | .al => match al op a with
    | some (x, f) => some (f H.next, H.push x)
    | none => none
  | .wr => wr ms call op a H

def dstOf (ops : List AOper) (j : Nat) : Option Nat :=
  match ops[j]? with
  | some o => o.dst
  | none => none

/-- is an operation wanted? -/
def wantedA (ops : List AOper) (a : Frm) : Option (Nat × Bool) → Bool
  | none => true
  | some (j, want) => match dstOf ops j with
    | some d => match a.get d with
      | some (.bool b) => b == want
      | _ => false
    | none => false

/-- operations in the order of the text -/
def runOps (ms : Methods) (call : CallF) (all : List AOper) : List AOper → Frm → Heap → Option (Frm × Heap)
  | [], a, H => some (a, H)
  | o :: os, a, H =>
    bif wantedA all a o.guard then
      match stepOp ms call o.op a H with
      | some (v, H') => runOps ms call all os (put a o.dst v) H'
      | none => none
    else runOps ms call all os (put a o.dst aundef) H

inductive AExit where
  | normal
  | exit (id : Nat)
  | ret
  deriving DecidableEq, Inhabited


/-! a statement that draws its order -/

def AX.tmps : AX → List Nat
  | .tmp t => [t]
  | .const _ => []

def optTmps : Option AX → List Nat
  | some x => x.tmps
  | none => []

def AOp.opnds : AOp → List Nat
  | .mov x | .box _ x | .load1 x | .loadN _ x | .nilCheck x | .un _ x | .convInt _ x | .strToStr x | .strToBytes _ x | .bytesToStr x | .arrPtr _ x
  | .mkIface _ x | .fieldAddr _ x | .part _ x | .partN _ _ x | .assert _ _ _ x | .extract _ x | .lenStr x | .lenSl x | .lenMap x => x.tmps
  | .pick c a b => c.tmps ++ (a.tmps ++ b.tmps)
  | .build _ ps | .buildSlice _ _ _ ps => ps.flatMap fun p => p.2.2.tmps
  | .store _ x y | .ibin _ x y | .sbin _ x y | .eqv _ _ x y | .makeSlice _ _ _ x y | .indexArr _ _ x y | .indexSl _ x y | .indexVal _ _ x y | .indexValN _ _ x y | .indexStr x y
  | .lookup _ _ _ x y | .append _ _ _ x y | .copy _ x y | .delete _ x y => x.tmps ++ y.tmps
  | .mapUpdate _ x y z => x.tmps ++ (y.tmps ++ z.tmps)
  | .mkFunc _ f c => f.flatMap AX.tmps ++ c.flatMap AX.tmps
  | .makeMap h => optTmps h
  | .sliceStr x l h => x.tmps ++ (optTmps l ++ optTmps h)
  | .sliceSl _ x l h m | .sliceArr _ _ x l h m => x.tmps ++ (optTmps l ++ (optTmps h ++ optTmps m))
  | .call f as => f.tmps ++ as.flatMap AX.tmps
  | .callM r _ as => r.tmps ++ as.flatMap AX.tmps
  | .minI as | .maxI as => as.flatMap AX.tmps
  | .alloc .. | .lenArr .. | .bad => []

def guardTmps (ops : List AOper) : Option (Nat × Bool) → List Nat
  | none => []
  | some (j, _) => match dstOf ops j with
    | some d => [d]
    | none => []

/-- along an order: the state at the end, and the heap ahead of each writer (the last one first), and the last heap -/
def runOrd (ms : Methods) (call : CallF) (ops : List AOper) (base : Nat) : List Nat → Frm → Heap → List Heap → Option (Frm × List Heap)
  | [], a, H, hs => some (a, H :: hs)
  | i :: is, a, H, hs =>
    match ops[i]? with
    | none => none
    | some o =>
      match kindOf o.op with
      | .rd =>
        bif wantedA ops a o.guard then
          match rd o.op a H with
          | some v => runOrd ms call ops base is (put a o.dst v) H hs
          | none => none
        else runOrd ms call ops base is (put a o.dst aundef) H hs
      | .al =>
        bif wantedA ops a o.guard then
          match al o.op a with
          | some (x, f) => runOrd ms call ops base is (put a o.dst (f (base + i))) { H with t := H.t.set (base + i) x } hs
          | none => none
        else runOrd ms call ops base is (put a o.dst aundef) H hs
      | .wr =>
        bif wantedA ops a o.guard then
          match wr ms call o.op a H with
          | some (v, H') => runOrd ms call ops base is (put a o.dst v) H' (H :: hs)
          | none => none
        else runOrd ms call ops base is (put a o.dst aundef) H (H :: hs)

mutual
def AV.beq : AV → AV → Bool
  | .bool a, .bool b => a == b
  | .int k a, .int k' b => kindEq k k' && ieq a b
  | .str a, .str b => beqBytes a b
  | .ptr none, .ptr none => true
  | .ptr (some (a, b)), .ptr (some (c, d)) => Nat.beq a c && Nat.beq b d
  | .slice none l (.known n), .slice none l' (.known n') => Nat.beq l l' && Nat.beq n n'
  | .slice (some (a, b)) l (.known n), .slice (some (c, d)) l' (.known n') => Nat.beq a c && Nat.beq b d && (Nat.beq l l' && Nat.beq n n')
  | .slice (some (a, b)) l (.unk n), .slice (some (c, d)) l' (.unk n') => Nat.beq a c && Nat.beq b d && (Nat.beq l l' && Nat.beq n n')
  | .map none, .map none => true
  | .map (some a), .map (some b) => Nat.beq a b
  | .func (.func f) x y, .func (.func g) x' y' => Nat.beq f g && AV.beqs x x' && AV.beqs y y'
  | .nilFunc, .nilFunc => true
  | .iface t v, .iface t' v' => Nat.beq t t' && AV.beq v v'
  | .nilIface, .nilIface => true
  | .agg x, .agg y => AV.beqs x y
  | .tuple x, .tuple y => AV.beqs x y
  | _, _ => false
def AV.beqs : List AV → List AV → Bool
  | [], [] => true
  | x :: xs, y :: ys => AV.beq x y && AV.beqs xs ys
  | _, _ => false
end

/-- does a block stand at a number just so? -/
def blkIs (H : Heap) (i : Nat) : ABlk → Bool
  | .cells cs e op ro => match H.t.get i with
    | some (.cells cs' e' op' ro') => AV.beqs cs cs' && Nat.beq e e' && (op == op') && (ro == ro')
    | _ => false
  | .map [] c => match H.t.get i with
    | some (.map [] c') => Nat.beq c c'
    | _ => false
  | _ => false

def get2 {α : Type} (d : α) (l : List α) (i : Nat) : α := (l[i]?).getD d

/-- slots that an operation looks at -/
def looksOf (xs : List AOper) (x : AOper) : List Nat := x.op.opnds ++ guardTmps xs x.guard

/-- is a slot written by one that the operation waits for? -/
def ahead (d : ADraw) (i t : Nat) : Bool := (List.range d.ops.length).any fun j => (match dstOf d.ops j with | some e => Nat.beq e t | none => false) && Nat.testBit (get2 0 d.pre i) j

def mixSet (d : ADraw) (a0 afin : Frm) (i : Nat) (f : Frm) (t : Nat) : Frm :=
  match (bif ahead d i t then afin.get t else a0.get t) with
  | some v => f.set t v
  | none => f

/-- the frame that an operation sees, as far as it looks -/
def frameFor (d : ADraw) (a0 afin : Frm) (i : Nat) (x : AOper) : Frm :=
  bif d.war then (looksOf d.ops x).foldl (mixSet d a0 afin i) .nil else afin

/-- is what an operation comes to the same at these heaps? -/
def sameAt (d : ADraw) (a0 afin : Frm) (base i : Nat) (o : AOper) (hs : List Heap) : Bool :=
  match kindOf o.op with
  | .rd => bif looks o.op then
      let a := frameFor d a0 afin i o
      bif wantedA d.ops a o.guard then
        match o.dst with
        | some e => hs.all fun H => (match rd o.op a H, afin.get e with | some v, some v' => AV.beq v v' | _, _ => false)
        | none => hs.all fun H => (rd o.op a H).isSome
      else true
    else true
  | .al =>
    let a := frameFor d a0 afin i o
    bif wantedA d.ops a o.guard then
      match al o.op a with
      | some (x, _) => hs.all fun H => blkIs H (base + i) x
      | none => false
    else true
  | .wr => true

def stable (d : ADraw) (a0 afin : Frm) (base : Nat) (hs : List Heap) : List AOper → List (Nat × Nat) → Nat → Bool
  | [], _, _ => true
  | o :: os, (lo, hi) :: ls, i => sameAt d a0 afin base i o ((hs.drop lo).take (Nat.succ hi - lo)) && stable d a0 afin base hs os ls (Nat.succ i)
  | _, _, _ => false

def runDraw (ms : Methods) (call : CallF) (d : ADraw) (a : Frm) (H : Heap) : Option (Frm × Heap) :=
  match runOrd ms call d.ops H.next d.ord a { H with next := H.next + d.ops.length } [] with
  | some (a', hs) => bif stable d a a' H.next hs.reverse d.ops d.lohi 0 then
      match hs with
      | H' :: _ => some (a', H')
      | [] => none
    else none
  | none => none

/-! code -/

structure Env where
  funcs : Nat → Option AFunc
  sums : CallF
  ms : Methods

def resOf (a : Frm) (H : Heap) : ARes → Option AV
  | .tmp t => some ((a.get t).getD aundef)
  | .cell t => match (a.get t).getD aundef with
    | .ptr (some (b, o)) => H.load b o
    | _ => none
  | .cellN t n => match (a.get t).getD aundef with
    | .ptr (some (b, o)) => match H.loadN b o n with
      | some l => some (.agg l)
      | none => none
    | _ => none

def resultsOf (a : Frm) (H : Heap) : List ARes → Option (List AV)
  | [] => some []
  | r :: rs => match resOf a H r with
    | some v => match resultsOf a H rs with
      | some vs => some (v :: vs)
      | none => none
    | none => none

def oneOf : List AV → AV
  | [v] => v
  | vs => .tuple vs

def frameOf : List AV → Nat → Frm → Frm
  | [], _, a => a
  | v :: vs, i, a => frameOf vs (Nat.succ i) (a.set i v)

def exec (E : Env) : Nat → ACode → Frm → Heap → Option (AExit × Frm × Heap)
  | 0, _, _, _ => none
  | n + 1, c, a, H =>
    match c with
    | .skip => some (.normal, a, H)
    | .ret => some (.ret, a, H)
    | .exit id => some (.exit id, a, H)
    | .seq x y => match exec E n x a H with
      | some (.normal, a', H') => exec E n y a' H'
      | r => r
    | .cond c x y => match evalX a c with
      | .bool b => bif b then exec E n x a H else exec E n y a H
      | _ => none
    | .block id x => match exec E n x a H with
      | some (.exit id', a', H') => some (bif Nat.beq id' id then .normal else .exit id', a', H')
      | r => r
    | .loop x => match exec E n x a H with
      | some (.normal, a', H') => exec E n (.loop x) a' H'
      | r => r
    | .region ops => match runOps E.ms (fun f args H => match E.sums f args H with
        | some r => some r
        | none => match E.funcs f with
          | none => none
          | some fn => match exec E n fn.code (frameOf args 0 .nil) H with
            | some (.normal, a', H') | some (.ret, a', H') => match resultsOf a' H' fn.results with
              | some vs => some (oneOf vs, H')
              | none => none
            | _ => none) ops ops a H with
      | some (a', H') => some (.normal, a', H')
      | none => none
    | .draw d => match runDraw E.ms (fun f args H => match E.sums f args H with
        | some r => some r
        | none => match E.funcs f with
          | none => none
          | some fn => match exec E n fn.code (frameOf args 0 .nil) H with
            | some (.normal, a', H') | some (.ret, a', H') => match resultsOf a' H' fn.results with
              | some vs => some (oneOf vs, H')
              | none => none
            | _ => none) d a H with
      | some (a', H') => some (.normal, a', H')
      | none => none

/-- a call -/
def acall (E : Env) (n : Nat) : CallF := fun f args H =>
  match E.sums f args H with
  | some r => some r
  | none => match E.funcs f with
    | none => none
    | some fn => match exec E n fn.code (frameOf args 0 .nil) H with
      | some (.normal, a', H') | some (.ret, a', H') => match resultsOf a' H' fn.results with
        | some vs => some (oneOf vs, H')
        | none => none
      | _ => none

end Go.AE
end
