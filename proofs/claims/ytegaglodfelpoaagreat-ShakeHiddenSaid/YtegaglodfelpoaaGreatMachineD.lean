/- The same machine, told so that the kernel runs it faster. -/
import Derived.Test.YtegaglodfelpoaaGreatMachineC
import Derived.Maps.RangeRun
set_option linter.unusedVariables false
set_option linter.unusedSimpArgs false
section
set_option linter.unusedVariables false
noncomputable section
namespace Go.AE

def rdF : AOp → Frm → Heap → Option AV
  | .mov x => fun a _ => some (evalX a x)
  | .pick c x y => fun a H => match evalX a c with
    | .bool b => some (bif b then evalX a x else evalX a y)
    | _ => none
  | .build zero parts => fun a H => match fillA zero (parts.map fun (o, n, x) => (o, n, evalX a x)) with
    | some cs => some (.agg cs)
    | none => none
  | .load1 x => fun a H => match evalX a x with
    | .ptr (some (b, o)) => H.load b o
    | _ => none
  | .loadN n x => fun a H => match evalX a x with
    | .ptr (some (b, o)) => match H.loadN b o n with
      | some l => some (.agg l)
      | none => none
    | _ => none
  | .nilCheck x => fun a H => match evalX a x with
    | .ptr (some p) => some (.ptr (some p))
    | .iface t v => some (.iface t v)
    | .func (.func f) x y => some (.func (.func f) x y)
    | _ => none
  | .ibin op x y => fun a H => ibin op (evalX a x) (evalX a y)
  | .sbin op x y => fun a H => sbin op (evalX a x) (evalX a y)
  | .eqv neg kind x y => fun a H => match eqv kind (evalX a x) (evalX a y) with
    | some b => some (.bool (bif neg then !b else b))
    | none => none
  | .un op x => fun a H => unop op (evalX a x)
  | .convInt k x => fun a H => match evalX a x with
    | .int _ n => some (.int k (wrapK k n))
    | _ => none
  | .strToStr x => fun a H => match evalX a x with
    | .str s => some (.str s)
    | _ => none
  | .bytesToStr x => fun a H => match evalX a x with
    | .slice none _ _ => some (.str [])
    | .slice (some (b, o)) l _ => match l with
      | 0 => some (.str [])
      | l + 1 => match H.loadN b o (l + 1) with
        | some cs => match bytesOf cs with
          | some s => some (.str s)
          | none => none
        | none => none
    | _ => none
  | .arrPtr n x => fun a H => match evalX a x with
    | .slice (some p) l _ => bif Nat.ble (Nat.succ 0) n && Nat.ble n l then some (.ptr (some p)) else none
    | _ => none
  | .mkIface t x => fun a H => some (.iface t (evalX a x))
  | .mkFunc fn first captured => fun a H => some (.func fn (first.map (evalX a)) (captured.map (evalX a)))
  | .sliceStr x lo hi => fun a H => match evalX a x with
    | .str s => match bounds a s.length s.length lo hi none with
      | some (l, h, _) => some (.str ((s.take h).drop l))
      | none => none
    | _ => none
  | .sliceSl size x lo hi mx => fun a H => match evalX a x with
    | .slice p len (.known cap) => match bounds a len cap lo hi mx with
      | some (l, h, m) => some (.slice (bif Nat.beq m l then p else match p with | some (b, o) => some (b, o + l * size) | none => none) (h - l) (.known (m - l)))
      | none => none
    | .slice (some (b, o)) len (.unk s) => bif Nat.beq s size then
        match mx, bounds a len len lo hi mx with
        | none, some (l, h, _) => some (.slice (some (b, o + l * size)) (h - l) (.unk s))
        | some _, some (0, h, m) => some (.slice (some (b, o)) h (.known m))
        | _, _ => none
      else none
    | _ => none
  | .sliceArr n size x lo hi mx => fun a H => match evalX a x with
    | .ptr (some (b, o)) => match bounds a n n lo hi mx with
      | some (l, h, m) => some (.slice (some (b, bif Nat.beq m l then o else o + l * size)) (h - l) (.known (m - l)))
      | none => none
    | _ => none
  | .fieldAddr off x => fun a H => match evalX a x with
    | .ptr (some (b, o)) => some (.ptr (some (b, o + off)))
    | _ => none
  | .part off x => fun a H => match evalX a x with
    | .agg cs => cs[off]?
    | _ => none
  | .partN off n x => fun a H => match evalX a x with
    | .agg cs => match grab n off cs with
      | some l => some (.agg l)
      | none => none
    | _ => none
  | .indexArr n size x i => fun a H => match evalX a x, natOf (evalX a i) with
    | .ptr (some (b, o)), some i => bif Nat.ble (Nat.succ i) n then some (.ptr (some (b, o + i * size))) else none
    | _, _ => none
  | .indexSl size x i => fun a H => match evalX a x, natOf (evalX a i) with
    | .slice (some (b, o)) len _, some i => bif Nat.ble (Nat.succ i) len then some (.ptr (some (b, o + i * size))) else none
    | _, _ => none
  | .indexVal n size x i => fun a H => match evalX a x, natOf (evalX a i) with
    | .agg cs, some i => bif Nat.ble (Nat.succ i) n then cs[i * size]? else none
    | _, _ => none
  | .indexValN n size x i => fun a H => match evalX a x, natOf (evalX a i) with
    | .agg cs, some i => bif Nat.ble (Nat.succ i) n then (match grab size (i * size) cs with | some l => some (.agg l) | none => none) else none
    | _, _ => none
  | .indexStr x i => fun a H => match evalX a x, natOf (evalX a i) with
    | .str s, some i => match s[i]? with
      | some b => some (.int .u8 (.ofNat b.toNat))
      | none => none
    | _, _ => none
  | .lookup kk zero ok m k => fun a H =>
    let key := evalX a k
    bif isKey kk key then
      match (match evalX a m with
        | .map none => some []
        | .map (some b) => (match H.t.get b with | some (.map es _) => some es | _ => none)
        | _ => none) with
      | some es => match findKey key es 0 with
        | some (some (_, v)) => some (bif ok then .tuple [v, .bool true] else v)
        | some none => some (bif ok then .tuple [zero, .bool false] else zero)
        | none => none
      | none => none
    else none
  | .assert t zero ok x => fun a H => match evalX a x with
    | .iface t' v => bif Nat.beq t' t then some (bif ok then .tuple [v, .bool true] else v)
      else bif ok then some (.tuple [zero, .bool false]) else none
    | .nilIface => bif ok then some (.tuple [zero, .bool false]) else none
    | _ => none
  | .extract i x => fun a H => match evalX a x with
    | .tuple vs => vs[i]?
    | _ => none
  | .lenStr x => fun a H => match evalX a x with
    | .str s => some (.int .i64 (.ofNat s.length))
    | _ => none
  | .lenArr n => fun a H => some (.int .i64 (.ofNat n))
  | .lenSl x => fun a H => match evalX a x with
    | .slice _ n _ => some (.int .i64 (.ofNat n))
    | _ => none
  | .lenMap x => fun a H => match evalX a x with
    | .map none => some (.int .i64 (.ofNat 0))
    | .map (some b) => match H.t.get b with
      | some (.map es _) => some (.int .i64 (.ofNat es.length))
      | _ => none
    | _ => none
  | .minI xs => fun a H => match xs.map (evalX a) with
    | v :: rest => minI2 v rest
    | [] => none
  | .maxI xs => fun a H => match xs.map (evalX a) with
    | v :: rest => maxI2 v rest
    | [] => none
  | _ => fun a H => none

def alF : AOp → Frm → Option (ABlk × (Nat → AV))
  | .alloc elem zero => fun a => some (.cells zero elem false false, fun i => .ptr (some (i, 0)))
  | .box elem x => fun a => some (.cells (evalX a x).cells elem false false, fun i => .ptr (some (i, 0)))
  | .buildSlice elem zeros len parts => fun a => match fillA zeros (parts.map fun (o, n, x) => (o, n, evalX a x)) with
    | some cs => some (.cells cs elem false false, fun i => .slice (some (i, 0)) len (.known len))
    | none => none
  | .strToBytes elem x => fun a => match evalX a x with
    | .str s => some (.cells (ofBytes s) elem true false, fun i => .slice (some (i, 0)) s.length (.unk 1))
    | _ => none
  | .makeSlice elem bytes zero l c => fun a => match natOf (evalX a l), natOf (evalX a c) with
    | some l, some c => bif Nat.ble l c && Nat.ble (c * bytes) 281474976710656 && Nat.ble c 9223372036854775807 then
        some (.cells (repl c zero) elem false false, fun i => .slice (some (i, 0)) l (.known c))
      else none
    | _, _ => none
  | .makeMap hint => fun a => match hint with
    | none => some (.map [] 0, fun i => .map (some i))
    | some x => match evalX a x with
      | .int _ _ => some (.map [] 0, fun i => .map (some i))
      | _ => none
  | _ => fun a => none

def wrF (ms : Methods) (call : CallF) : AOp → Frm → Heap → Option (AV × Heap)
  | .store n p x => fun a H => match evalX a p with
    | .ptr (some (b, o)) =>
      let cs := (evalX a x).cells
      bif Nat.beq cs.length n then
        match H.store b o cs with
        | some H' => some (aundef, H')
        | none => none
      else none
    | _ => none
  | .append elem size bytes s x => fun a H => appendA elem size bytes H (evalX a s) (evalX a x)
  | .copy size d s => fun a H => match evalX a d, lenOfA (evalX a s) with
    | .slice base dl _, some sl =>
      let n := bif Nat.ble sl dl then sl else dl
      match n, base with
      | 0, _ => some (.int .i64 (.ofNat 0), H)
      | n + 1, some (b, o) => match source size H (n + 1) (evalX a s) with
        | some cs => match H.store b o cs with
          | some H' => some (.int .i64 (.ofNat (n + 1)), H')
          | none => none
        | none => none
      | _, none => none
    | _, _ => none
  | .mapUpdate kk m k v => fun a H => match evalX a m with
    | .map (some b) => match H.t.get b with
      | some (.map es clock) =>
        let key := evalX a k
        bif isKey kk key then
          match findKey key es 0 with
          | some (some (i, _)) => some (aundef, { H with t := H.t.set b (.map (modAt (fun e => (key, evalX a v, e.2.2)) es i) clock) })
          | some none => some (aundef, { H with t := H.t.set b (.map (es ++ [(key, evalX a v, clock)]) (Nat.succ clock)) })
          | none => none
        else none
      | _ => none
    | _ => none
  | .delete kk m k => fun a H => match evalX a m with
    | .map none => bif isKey kk (evalX a k) then some (.tuple [], H) else none
    | .map (some b) => match H.t.get b with
      | some (.map es clock) =>
        bif isKey kk (evalX a k) then
          match findKey (evalX a k) es 0 with
          | some (some (i, _)) => some (.tuple [], { H with t := H.t.set b (.map (es.eraseIdx i) clock) })
          | some none => some (.tuple [], { H with t := H.t.set b (.map es clock) })
          | none => none
        else none
      | _ => none
    | _ => none
  | .call f args => fun a H => match evalX a f with
    | .func (.func g) first captured => call g (first ++ args.map (evalX a) ++ captured) H
    | _ => none
  | .callM recv name args => fun a H => match evalX a recv with
    | .iface t v => match findM ms t name with
      | some g => call g (v :: args.map (evalX a)) H
      | none => none
    | _ => none
  | _ => fun a H => none

theorem rdF_eq (op : AOp) (a : Frm) (H : Heap) : rdF op a H = rd op a H := by cases op <;> rfl
theorem alF_eq (op : AOp) (a : Frm) : alF op a = al op a := by cases op <;> rfl
theorem wrF_eq (ms : Methods) (call : CallF) (op : AOp) (a : Frm) (H : Heap) : wrF ms call op a H = wr ms call op a H := by cases op <;> rfl

def rdStep (op : AOp) (a : Frm) (H : Heap) : Option (AV × Heap) :=
  match rdF op a H with
  | some v => some (v, H)
  | none => none

def alStep (op : AOp) (a : Frm) (H : Heap) : Option (AV × Heap) :=
  match alF op a with
  | some (x, f) => some (f H.next, H.push x)
  | none => none

def stepF (ms : Methods) (call : CallF) (op : AOp) : Frm → Heap → Option (AV × Heap) :=
  match kindOf op with
  | .rd => rdStep op
  | .al => alStep op
  | .wr => wrF ms call op

theorem stepF_eq (ms : Methods) (call : CallF) (op : AOp) (a : Frm) (H : Heap) : stepF ms call op a H = stepOp ms call op a H := by
  unfold stepF stepOp
  cases kindOf op
  · simp only [rdStep, rdF_eq]
    cases rd op a H <;> rfl
  · simp only [alStep, alF_eq]
    cases al op a <;> rfl
  · simp only [wrF_eq]

def opF (all : List AOper) (dst : Option Nat) (g : Option (Nat × Bool)) (st : Frm → Heap → Option (AV × Heap)) (k : Frm → Heap → Option (Frm × Heap)) (a : Frm) (H : Heap) : Option (Frm × Heap) :=
  bif wantedA all a g then
    match st a H with
    | some (v, H') => k (put a dst v) H'
    | none => none
  else k (put a dst aundef) H

def opF1 (ms : Methods) (call : CallF) (all : List AOper) (o : AOper) (k : Frm → Heap → Option (Frm × Heap)) : Frm → Heap → Option (Frm × Heap) :=
  match o with
  | ⟨dst, op, g⟩ => opF all dst g (stepF ms call op) k

noncomputable def runOpsF (ms : Methods) (call : CallF) (all : List AOper) (l : List AOper) : Frm → Heap → Option (Frm × Heap) :=
  List.rec (motive := fun _ => Frm → Heap → Option (Frm × Heap)) (fun a H => some (a, H)) (fun o _ ih => opF1 ms call all o ih) l

theorem runOpsF_eq (ms : Methods) (call : CallF) (all : List AOper) : ∀ (l : List AOper) (a : Frm) (H : Heap), runOpsF ms call all l a H = runOps ms call all l a H
  | [], a, H => rfl
  | ⟨dst, op, g⟩ :: os, a, H => by
    have e : runOpsF ms call all (⟨dst, op, g⟩ :: os) a H = opF all dst g (stepF ms call op) (runOpsF ms call all os) a H := rfl
    rw [e]
    unfold opF
    simp only [runOps, stepF_eq, runOpsF_eq ms call all os]
    cases wantedA all a g with
    | false => rfl
    | true => simp only [cond_true]; cases stepOp ms call op a H <;> rfl

abbrev Res := Option (AExit × Frm × Heap)

def seqF (x y : Frm → Heap → Res) (a : Frm) (H : Heap) : Res :=
  match x a H with
  | some (.normal, a', H') => y a' H'
  | r => r

def condF (c : AX) (x y : Frm → Heap → Res) (a : Frm) (H : Heap) : Res :=
  match evalX a c with
  | .bool b => bif b then x a H else y a H
  | _ => none

def blockF (id : Nat) (x : Frm → Heap → Res) (a : Frm) (H : Heap) : Res :=
  match x a H with
  | some (.exit id', a', H') => some (bif Nat.beq id' id then .normal else .exit id', a', H')
  | r => r

def regionF (x : Frm → Heap → Option (Frm × Heap)) (a : Frm) (H : Heap) : Res :=
  match x a H with
  | some (a', H') => some (.normal, a', H')
  | none => none

def callBody (ih : ACode → Frm → Heap → Res) (code : ACode) (results : List ARes) (args : List AV) (H : Heap) : Option (AV × Heap) :=
  match ih code (frameOf args 0 .nil) H with
  | some (.normal, a', H') | some (.ret, a', H') => match resultsOf a' H' results with
    | some vs => some (oneOf vs, H')
    | none => none
  | _ => none

def callFn (ih : ACode → Frm → Heap → Res) (fn : Option AFunc) (args : List AV) (H : Heap) : Option (AV × Heap) :=
  match fn with
  | none => none
  | some ⟨code, results⟩ => callBody ih code results args H

def callF (E : Env) (ih : ACode → Frm → Heap → Res) (f : Nat) (args : List AV) (H : Heap) : Option (AV × Heap) :=
  match E.sums f args H with
  | some r => some r
  | none => callFn ih (E.funcs f) args H

noncomputable def codeF (E : Env) (ih : ACode → Frm → Heap → Res) (c : ACode) : Frm → Heap → Res :=
  match c with
  | .skip => fun a H => some (.normal, a, H)
  | .ret => fun a H => some (.ret, a, H)
  | .exit id => fun a H => some (.exit id, a, H)
  | .seq x y => seqF (ih x) (ih y)
  | .cond c x y => condF c (ih x) (ih y)
  | .block id x => blockF id (ih x)
  | .loop x => seqF (ih x) (ih (.loop x))
  | .region ops => regionF (runOpsF E.ms (callF E ih) ops ops)
  | .draw d => regionF (runDraw E.ms (callF E ih) d)

noncomputable def execF (E : Env) (n : Nat) : ACode → Frm → Heap → Res :=
  Nat.rec (motive := fun _ => ACode → Frm → Heap → Res) (fun _ _ _ => none) (fun _ ih => codeF E ih) n

theorem callF_eq {E : Env} {n : Nat} (h : ∀ c a H, execF E n c a H = exec E n c a H) : callF E (execF E n) = acall E n := by
  funext f args H
  unfold callF acall
  cases E.sums f args H with
  | some r => rfl
  | none =>
    simp only
    unfold callFn
    cases E.funcs f with
    | none => rfl
    | some fn =>
      obtain ⟨code, results⟩ := fn
      simp only [callBody, h]
      rfl

theorem seqF_eq {f g : ACode → Frm → Heap → Res} {x y : ACode} (h : ∀ c a H, f c a H = g c a H) (_ : ∀ c a H, f c a H = g c a H) (a : Frm) (H : Heap) :
    seqF (f x) (f y) a H = match g x a H with | some (.normal, a', H') => g y a' H' | r => r := by
  have e : f = g := by funext c a H; exact h c a H
  rw [e]; rfl

theorem condF_eq {f g : ACode → Frm → Heap → Res} {c : AX} {x y : ACode} (h : ∀ c a H, f c a H = g c a H) (_ : ∀ c a H, f c a H = g c a H) (a : Frm) (H : Heap) :
    condF c (f x) (f y) a H = match evalX a c with | .bool b => bif b then g x a H else g y a H | _ => none := by
  have e : f = g := by funext c a H; exact h c a H
  rw [e]; rfl

theorem blockF_eq {f g : ACode → Frm → Heap → Res} {id : Nat} {x : ACode} (h : ∀ c a H, f c a H = g c a H) (a : Frm) (H : Heap) :
    blockF id (f x) a H = match g x a H with | some (.exit id', a', H') => some (bif Nat.beq id' id then .normal else .exit id', a', H') | r => r := by
  have e : f = g := by funext c a H; exact h c a H
  rw [e]; rfl

theorem execF_eq (E : Env) : ∀ (n : Nat) (c : ACode) (a : Frm) (H : Heap), execF E n c a H = exec E n c a H
  | 0, _, _, _ => rfl
  | n + 1, c, a, H => by
    have ih := execF_eq E n
    have e : execF E (n + 1) c a H = codeF E (execF E n) c a H := rfl
    rw [e, exec_succ]
    cases c with
    | skip => rfl
    | ret => rfl
    | exit id => rfl
    | seq x y => exact seqF_eq ih ih a H
    | cond c x y => exact condF_eq ih ih a H
    | block id x => exact blockF_eq ih a H
    | loop x => exact seqF_eq ih ih a H
    | region ops =>
      have e : codeF E (execF E n) (.region ops) a H = regionF (runOpsF E.ms (callF E (execF E n)) ops ops) a H := rfl
      rw [e, callF_eq ih]
      unfold regionF
      rw [runOpsF_eq]
      rfl
    | draw d =>
      have e : codeF E (execF E n) (.draw d) a H = regionF (runDraw E.ms (callF E (execF E n)) d) a H := rfl
      rw [e, callF_eq ih]
      rfl

/-- a call, run by the fast twin -/
noncomputable def acallF (E : Env) (n : Nat) : CallF := callF E (execF E n)

theorem acallF_eq (E : Env) (n : Nat) : acallF E n = acall E n := callF_eq (execF_eq E n)

end Go.AE
end
-- Reasoning about runs of the machine on values that are not known: a run comes to an end of which a property holds.
section
set_option linter.unusedVariables false
noncomputable section
namespace Go.AE

/-- what a run of code comes to -/
def W (E : Env) (c : ACode) (a : Frm) (H : Heap) (Q : AExit → Frm → Heap → Prop) : Prop :=
  ∃ n x a' H', (∀ m, n ≤ m → exec E m c a H = some (x, a', H')) ∧ Q x a' H'

/-- what a call comes to -/
def WCall (E : Env) (f : Nat) (args : List AV) (H : Heap) (Q : AV → Heap → Prop) : Prop :=
  ∃ n v H', (∀ m, n ≤ m → acall E m f args H = some (v, H')) ∧ Q v H'

/-- what operations come to -/
def WOps (E : Env) (all ops : List AOper) (a : Frm) (H : Heap) (Q : Frm → Heap → Prop) : Prop :=
  ∃ n a' H', (∀ m, n ≤ m → runOps E.ms (acall E m) all ops a H = some (a', H')) ∧ Q a' H'

/-- what operations in a drawn order come to -/
def WOrd (E : Env) (ops : List AOper) (base : Nat) (ord : List Nat) (a : Frm) (H : Heap) (hs : List Heap) (Q : Frm → List Heap → Prop) : Prop :=
  ∃ n a' hs', (∀ m, n ≤ m → runOrd E.ms (acall E m) ops base ord a H hs = some (a', hs')) ∧ Q a' hs'

variable {E : Env}

theorem W.mono {c : ACode} {a : Frm} {H : Heap} {Q R : AExit → Frm → Heap → Prop} (h : W E c a H Q) (hq : ∀ x a' H', Q x a' H' → R x a' H') : W E c a H R := by
  obtain ⟨n, x, a', H', h, q⟩ := h
  exact ⟨n, x, a', H', h, hq _ _ _ q⟩

theorem WCall.mono {f : Nat} {args : List AV} {H : Heap} {Q R : AV → Heap → Prop} (h : WCall E f args H Q) (hq : ∀ v H', Q v H' → R v H') : WCall E f args H R := by
  obtain ⟨n, v, H', h, q⟩ := h
  exact ⟨n, v, H', h, hq _ _ q⟩

theorem W.skip {a : Frm} {H : Heap} {Q : AExit → Frm → Heap → Prop} (h : Q .normal a H) : W E .skip a H Q :=
  ⟨1, .normal, a, H, fun m hm => by obtain ⟨k, rfl⟩ : ∃ k, m = k + 1 := ⟨m - 1, by omega⟩; rw [exec_succ], h⟩

theorem W.ret {a : Frm} {H : Heap} {Q : AExit → Frm → Heap → Prop} (h : Q .ret a H) : W E .ret a H Q :=
  ⟨1, .ret, a, H, fun m hm => by obtain ⟨k, rfl⟩ : ∃ k, m = k + 1 := ⟨m - 1, by omega⟩; rw [exec_succ], h⟩

theorem W.exit {id : Nat} {a : Frm} {H : Heap} {Q : AExit → Frm → Heap → Prop} (h : Q (.exit id) a H) : W E (.exit id) a H Q :=
  ⟨1, .exit id, a, H, fun m hm => by obtain ⟨k, rfl⟩ : ∃ k, m = k + 1 := ⟨m - 1, by omega⟩; rw [exec_succ], h⟩

/-- what is behind the first half of a sequence -/
def thenQ (E : Env) (y : ACode) (Q : AExit → Frm → Heap → Prop) : AExit → Frm → Heap → Prop
  | .normal, a, H => W E y a H Q
  | x, a, H => Q x a H

@[simp] theorem thenQ_normal {y : ACode} {Q : AExit → Frm → Heap → Prop} {a : Frm} {H : Heap} : thenQ E y Q .normal a H = W E y a H Q := rfl
@[simp] theorem thenQ_ret {y : ACode} {Q : AExit → Frm → Heap → Prop} {a : Frm} {H : Heap} : thenQ E y Q .ret a H = Q .ret a H := rfl
@[simp] theorem thenQ_exit {y : ACode} {Q : AExit → Frm → Heap → Prop} {i : Nat} {a : Frm} {H : Heap} : thenQ E y Q (.exit i) a H = Q (.exit i) a H := rfl

theorem W.seq {x y : ACode} {a : Frm} {H : Heap} {Q : AExit → Frm → Heap → Prop} (h : W E x a H (thenQ E y Q)) : W E (.seq x y) a H Q := by
  obtain ⟨n, e, a', H', h, q⟩ := h
  cases e with
  | normal =>
    obtain ⟨n2, e2, a2, H2, h2, q2⟩ := q
    refine ⟨n + n2 + 1, e2, a2, H2, fun m hm => ?_, q2⟩
    obtain ⟨k, rfl⟩ : ∃ k, m = k + 1 := ⟨m - 1, by omega⟩
    rw [exec_succ]
    simp only [h k (by omega), h2 k (by omega)]
  | exit id =>
    refine ⟨n + 1, .exit id, a', H', fun m hm => ?_, q⟩
    obtain ⟨k, rfl⟩ : ∃ k, m = k + 1 := ⟨m - 1, by omega⟩
    rw [exec_succ]
    simp only [h k (by omega)]
  | ret =>
    refine ⟨n + 1, .ret, a', H', fun m hm => ?_, q⟩
    obtain ⟨k, rfl⟩ : ∃ k, m = k + 1 := ⟨m - 1, by omega⟩
    rw [exec_succ]
    simp only [h k (by omega)]

theorem W.cond {c : AX} {x y : ACode} {a : Frm} {H : Heap} {Q : AExit → Frm → Heap → Prop} {b : Bool} (e : evalX a c = .bool b) (h : W E (bif b then x else y) a H Q) : W E (.cond c x y) a H Q := by
  obtain ⟨n, e', a', H', h, q⟩ := h
  refine ⟨n + 1, e', a', H', fun m hm => ?_, q⟩
  obtain ⟨k, rfl⟩ : ∃ k, m = k + 1 := ⟨m - 1, by omega⟩
  rw [exec_succ]
  simp only [e]
  cases b
  · exact h k (by omega)
  · exact h k (by omega)

/-- what is behind a block -/
def blockQ (id : Nat) (Q : AExit → Frm → Heap → Prop) : AExit → Frm → Heap → Prop
  | .exit id', a, H => Q (bif Nat.beq id' id then .normal else .exit id') a H
  | x, a, H => Q x a H

@[simp] theorem blockQ_normal {id : Nat} {Q : AExit → Frm → Heap → Prop} {a : Frm} {H : Heap} : blockQ id Q .normal a H = Q .normal a H := rfl
@[simp] theorem blockQ_ret {id : Nat} {Q : AExit → Frm → Heap → Prop} {a : Frm} {H : Heap} : blockQ id Q .ret a H = Q .ret a H := rfl
@[simp] theorem blockQ_exit {id id' : Nat} {Q : AExit → Frm → Heap → Prop} {a : Frm} {H : Heap} : blockQ id Q (.exit id') a H = Q (bif Nat.beq id' id then .normal else .exit id') a H := rfl

theorem W.block {id : Nat} {x : ACode} {a : Frm} {H : Heap} {Q : AExit → Frm → Heap → Prop} (h : W E x a H (blockQ id Q)) : W E (.block id x) a H Q := by
  obtain ⟨n, e, a', H', h, q⟩ := h
  cases e with
  | normal =>
    refine ⟨n + 1, .normal, a', H', fun m hm => ?_, q⟩
    obtain ⟨k, rfl⟩ : ∃ k, m = k + 1 := ⟨m - 1, by omega⟩
    rw [exec_succ]
    simp only [h k (by omega)]
  | exit i =>
    refine ⟨n + 1, _, a', H', fun m hm => ?_, q⟩
    obtain ⟨k, rfl⟩ : ∃ k, m = k + 1 := ⟨m - 1, by omega⟩
    rw [exec_succ]
    simp only [h k (by omega)]
  | ret =>
    refine ⟨n + 1, .ret, a', H', fun m hm => ?_, q⟩
    obtain ⟨k, rfl⟩ : ∃ k, m = k + 1 := ⟨m - 1, by omega⟩
    rw [exec_succ]
    simp only [h k (by omega)]

theorem W.loop {x : ACode} {a : Frm} {H : Heap} {Q : AExit → Frm → Heap → Prop} (h : W E x a H (thenQ E (.loop x) Q)) : W E (.loop x) a H Q := by
  obtain ⟨n, e, a', H', h, q⟩ := h
  cases e with
  | normal =>
    obtain ⟨n2, e2, a2, H2, h2, q2⟩ := q
    refine ⟨n + n2 + 1, e2, a2, H2, fun m hm => ?_, q2⟩
    obtain ⟨k, rfl⟩ : ∃ k, m = k + 1 := ⟨m - 1, by omega⟩
    rw [exec_succ]
    simp only [h k (by omega), h2 k (by omega)]
  | exit id =>
    refine ⟨n + 1, .exit id, a', H', fun m hm => ?_, q⟩
    obtain ⟨k, rfl⟩ : ∃ k, m = k + 1 := ⟨m - 1, by omega⟩
    rw [exec_succ]
    simp only [h k (by omega)]
  | ret =>
    refine ⟨n + 1, .ret, a', H', fun m hm => ?_, q⟩
    obtain ⟨k, rfl⟩ : ∃ k, m = k + 1 := ⟨m - 1, by omega⟩
    rw [exec_succ]
    simp only [h k (by omega)]

/-- a loop that counts: an invariant, kept by each round, up to the last one that leaves -/
theorem W.count {x : ACode} {Q : AExit → Frm → Heap → Prop} (N : Nat) (I : Nat → Frm → Heap → Prop)
    (step : ∀ i a H, i < N → I i a H → W E x a H (fun e a' H' => e = .normal ∧ I (i + 1) a' H'))
    (last : ∀ a H, I N a H → W E x a H (fun e a' H' => e ≠ .normal ∧ Q e a' H')) :
    ∀ (i : Nat) (a : Frm) (H : Heap), i ≤ N → I i a H → W E (.loop x) a H Q := by
  intro i
  generalize hk : N - i = k
  induction k generalizing i with
  | zero =>
    intro a H hi h
    obtain rfl : i = N := by omega
    refine W.loop ((last a H h).mono fun e a' H' q => ?_)
    cases e with
    | normal => exact absurd rfl q.1
    | exit id => exact q.2
    | ret => exact q.2
  | succ k ih =>
    intro a H hi h
    refine W.loop ((step i a H (by omega) h).mono fun e a' H' q => ?_)
    obtain ⟨rfl, q⟩ := q
    exact ih (i + 1) (by omega) a' H' (by omega) q

theorem acall_run (n f : Nat) : acall E n f = fun args H => (match E.sums f args H with
        | some r => some r
        | none => match E.funcs f with
          | none => none
          | some fn => match exec E n fn.code (frameOf args 0 .nil) H with
            | some (.normal, a', H') | some (.ret, a', H') => match resultsOf a' H' fn.results with
              | some vs => some (oneOf vs, H')
              | none => none
            | _ => none) := rfl

theorem exec_region (n : Nat) (ops : List AOper) (a : Frm) (H : Heap) : exec E (n + 1) (.region ops) a H = (match runOps E.ms (acall E n) ops ops a H with
      | some (a', H') => some (.normal, a', H')
      | none => none) := rfl

theorem exec_draw (n : Nat) (d : ADraw) (a : Frm) (H : Heap) : exec E (n + 1) (.draw d) a H = (match runDraw E.ms (acall E n) d a H with
      | some (a', H') => some (.normal, a', H')
      | none => none) := rfl

theorem W.region {ops : List AOper} {a : Frm} {H : Heap} {Q : AExit → Frm → Heap → Prop} (h : WOps E ops ops a H (Q .normal)) : W E (.region ops) a H Q := by
  obtain ⟨n, a', H', h, q⟩ := h
  refine ⟨n + 1, .normal, a', H', fun m hm => ?_, q⟩
  obtain ⟨k, rfl⟩ : ∃ k, m = k + 1 := ⟨m - 1, by omega⟩
  rw [exec_region, h k (by omega)]

/-- the last of the heaps -/
def lastH : List Heap → Heap → Heap
  | H :: _, _ => H
  | [], H => H

theorem W.draw {d : ADraw} {a : Frm} {H : Heap} {Q : AExit → Frm → Heap → Prop}
    (h : WOrd E d.ops H.next d.ord a { H with next := H.next + d.ops.length } [] (fun a' hs => stable d a a' H.next hs.reverse d.ops d.lohi 0 = true ∧ ∃ H' l, hs = H' :: l ∧ Q .normal a' H')) : W E (.draw d) a H Q := by
  obtain ⟨n, a', hs, h, hst, H', l, rfl, q⟩ := h
  refine ⟨n + 1, .normal, a', H', fun m hm => ?_, q⟩
  obtain ⟨k, rfl⟩ : ∃ k, m = k + 1 := ⟨m - 1, by omega⟩
  rw [exec_draw]
  unfold runDraw
  simp only [h k (by omega), hst, cond_true]

theorem WOps.nil {all : List AOper} {a : Frm} {H : Heap} {Q : Frm → Heap → Prop} (h : Q a H) : WOps E all [] a H Q := ⟨0, a, H, fun _ _ => rfl, h⟩

theorem runOps_cons (ms : Methods) (call : CallF) (all os : List AOper) (o : AOper) (a : Frm) (H : Heap) : runOps ms call all (o :: os) a H =
    bif wantedA all a o.guard then
      match stepOp ms call o.op a H with
      | some (v, H') => runOps ms call all os (put a o.dst v) H'
      | none => none
    else runOps ms call all os (put a o.dst aundef) H := rfl

theorem WOps.rd {all os : List AOper} {dst : Option Nat} {op : AOp} {a : Frm} {H : Heap} {Q : Frm → Heap → Prop} (hk : kindOf op = .rd) {v : AV} (e : rd op a H = some v) (h : WOps E all os (put a dst v) H Q) :
    WOps E all (⟨dst, op, none⟩ :: os) a H Q := by
  obtain ⟨n, a', H', h, q⟩ := h
  refine ⟨n, a', H', fun m hm => ?_, q⟩
  rw [runOps_cons]
  simp only [wantedA, cond_true, stepOp, hk, e, h m hm]

theorem WOps.al {all os : List AOper} {dst : Option Nat} {op : AOp} {a : Frm} {H : Heap} {Q : Frm → Heap → Prop} (hk : kindOf op = .al) {x : ABlk} {f : Nat → AV} (e : al op a = some (x, f)) (h : WOps E all os (put a dst (f H.next)) (H.push x) Q) :
    WOps E all (⟨dst, op, none⟩ :: os) a H Q := by
  obtain ⟨n, a', H', h, q⟩ := h
  refine ⟨n, a', H', fun m hm => ?_, q⟩
  rw [runOps_cons]
  simp only [wantedA, cond_true, stepOp, hk, e, h m hm]

theorem WOps.wr {all os : List AOper} {dst : Option Nat} {op : AOp} {a : Frm} {H H1 : Heap} {Q : Frm → Heap → Prop} (hk : kindOf op = .wr) {v : AV} (e : ∀ call, wr E.ms call op a H = some (v, H1)) (h : WOps E all os (put a dst v) H1 Q) :
    WOps E all (⟨dst, op, none⟩ :: os) a H Q := by
  obtain ⟨n, a', H', h, q⟩ := h
  refine ⟨n, a', H', fun m hm => ?_, q⟩
  rw [runOps_cons]
  simp only [wantedA, cond_true, stepOp, hk, e, h m hm]

theorem WOps.call {all os : List AOper} {dst : Option Nat} {f : AX} {args : List AX} {a : Frm} {H : Heap} {Q : Frm → Heap → Prop} {g : Nat} {first captured : List AV}
    (e : evalX a f = .func (.func g) first captured) (h : WCall E g (first ++ args.map (evalX a) ++ captured) H (fun v H' => WOps E all os (put a dst v) H' Q)) :
    WOps E all (⟨dst, .call f args, none⟩ :: os) a H Q := by
  obtain ⟨n, v, H1, h1, n2, a', H', h, q⟩ := h
  refine ⟨n + n2, a', H', fun m hm => ?_, q⟩
  rw [runOps_cons]
  simp only [wantedA, cond_true, stepOp, kindOf, Go.AE.wr, e, h1 m (by omega), h m (by omega)]

theorem WOrd.nil {ops : List AOper} {base : Nat} {a : Frm} {H : Heap} {hs : List Heap} {Q : Frm → List Heap → Prop} (h : Q a (H :: hs)) : WOrd E ops base [] a H hs Q := ⟨0, a, H :: hs, fun _ _ => rfl, h⟩

theorem runOrd_cons (ms : Methods) (call : CallF) (ops : List AOper) (base i : Nat) (is : List Nat) (a : Frm) (H : Heap) (hs : List Heap) : runOrd ms call ops base (i :: is) a H hs =
    match ops[i]? with
    | none => none
    | some o =>
      match kindOf o.op with
      | .rd =>
        bif wantedA ops a o.guard then
          match Go.AE.rd o.op a H with
          | some v => runOrd ms call ops base is (put a o.dst v) H hs
          | none => none
        else runOrd ms call ops base is (put a o.dst aundef) H hs
      | .al =>
        bif wantedA ops a o.guard then
          match al o.op a with
          | some (x, f) => runOrd ms call ops base is (put a o.dst (f (base + i))) { H with t := H.t.set (base + i) x } hs
          | none => none
        else runOrd ms call ops base is (put a o.dst aundef) H hs
      | .wr =>
        bif wantedA ops a o.guard then
          match wr ms call o.op a H with
          | some (v, H') => runOrd ms call ops base is (put a o.dst v) H' (H :: hs)
          | none => none
        else runOrd ms call ops base is (put a o.dst aundef) H (H :: hs) := rfl

theorem WOrd.rd {ops : List AOper} {base i : Nat} {is : List Nat} {dst : Option Nat} {op : AOp} {a : Frm} {H : Heap} {hs : List Heap} {Q : Frm → List Heap → Prop} (ho : ops[i]? = some ⟨dst, op, none⟩) (hk : kindOf op = .rd) {v : AV}
    (e : Go.AE.rd op a H = some v) (h : WOrd E ops base is (put a dst v) H hs Q) : WOrd E ops base (i :: is) a H hs Q := by
  obtain ⟨n, a', H', h, q⟩ := h
  refine ⟨n, a', H', fun m hm => ?_, q⟩
  rw [runOrd_cons]
  simp only [ho, hk, wantedA, cond_true, e, h m hm]

theorem WOrd.al {ops : List AOper} {base i : Nat} {is : List Nat} {dst : Option Nat} {op : AOp} {a : Frm} {H : Heap} {hs : List Heap} {Q : Frm → List Heap → Prop} (ho : ops[i]? = some ⟨dst, op, none⟩) (hk : kindOf op = .al) {x : ABlk} {f : Nat → AV}
    (e : Go.AE.al op a = some (x, f)) (h : WOrd E ops base is (put a dst (f (base + i))) { H with t := H.t.set (base + i) x } hs Q) : WOrd E ops base (i :: is) a H hs Q := by
  obtain ⟨n, a', H', h, q⟩ := h
  refine ⟨n, a', H', fun m hm => ?_, q⟩
  rw [runOrd_cons]
  simp only [ho, hk, wantedA, cond_true, e, h m hm]

theorem WOrd.wr {ops : List AOper} {base i : Nat} {is : List Nat} {dst : Option Nat} {op : AOp} {a : Frm} {H H1 : Heap} {hs : List Heap} {Q : Frm → List Heap → Prop} (ho : ops[i]? = some ⟨dst, op, none⟩) (hk : kindOf op = .wr) {v : AV}
    (e : ∀ call, Go.AE.wr E.ms call op a H = some (v, H1)) (h : WOrd E ops base is (put a dst v) H1 (H :: hs) Q) : WOrd E ops base (i :: is) a H hs Q := by
  obtain ⟨n, a', H', h, q⟩ := h
  refine ⟨n, a', H', fun m hm => ?_, q⟩
  rw [runOrd_cons]
  simp only [ho, hk, wantedA, cond_true, e, h m hm]

theorem WOrd.call {ops : List AOper} {base i : Nat} {is : List Nat} {dst : Option Nat} {f : AX} {args : List AX} {a : Frm} {H : Heap} {hs : List Heap} {Q : Frm → List Heap → Prop} (ho : ops[i]? = some ⟨dst, .call f args, none⟩) {g : Nat} {first captured : List AV}
    (e : evalX a f = .func (.func g) first captured) (h : WCall E g (first ++ args.map (evalX a) ++ captured) H (fun v H' => WOrd E ops base is (put a dst v) H' (H :: hs) Q)) : WOrd E ops base (i :: is) a H hs Q := by
  obtain ⟨n, v, H1, h1, n2, a', H', h, q⟩ := h
  refine ⟨n + n2, a', H', fun m hm => ?_, q⟩
  rw [runOrd_cons]
  simp only [ho, kindOf, wantedA, cond_true, Go.AE.wr, e, h1 m (by omega), h m (by omega)]

/-- what a function's text comes to is what a call comes to -/
def retQ (rs : List ARes) (Q : AV → Heap → Prop) : AExit → Frm → Heap → Prop := fun x a H => (x = .normal ∨ x = .ret) ∧ ∃ vs, resultsOf a H rs = some vs ∧ Q (oneOf vs) H

theorem WCall.func {f : Nat} {args : List AV} {H : Heap} {Q : AV → Heap → Prop} (hs : E.sums f args H = none) {code : ACode} {rs : List ARes} (hf : E.funcs f = some ⟨code, rs⟩)
    (h : W E code (frameOf args 0 .nil) H (retQ rs Q)) : WCall E f args H Q := by
  obtain ⟨n, x, a', H', h, hx, vs, e, q⟩ := h
  refine ⟨n, oneOf vs, H', fun m hm => ?_, q⟩
  rw [acall_run]
  simp only [hs, hf, h m hm]
  rcases hx with rfl | rfl <;> simp only [e]


/-! for the simplifier -/

theorem WOps_nil {all : List AOper} {a : Frm} {H : Heap} {Q : Frm → Heap → Prop} : WOps E all [] a H Q ↔ Q a H :=
  ⟨fun ⟨n, a', H', h, q⟩ => by have := h n (Nat.le_refl _); simp only [runOps, Option.some.injEq, Prod.mk.injEq] at this; obtain ⟨rfl, rfl⟩ := this; exact q, WOps.nil⟩

theorem WOps_rd {all os : List AOper} {dst : Option Nat} {op : AOp} {a : Frm} {H : Heap} {Q : Frm → Heap → Prop} (hk : kindOf op = .rd) :
    WOps E all (⟨dst, op, none⟩ :: os) a H Q ↔ ∃ v, rd op a H = some v ∧ WOps E all os (put a dst v) H Q := by
  constructor
  · intro ⟨n, a', H', h, q⟩
    cases e : rd op a H with
    | none => have := h n (Nat.le_refl _); rw [runOps_cons] at this; simp only [wantedA, cond_true, stepOp, hk, e] at this; exact nomatch this
    | some v =>
      refine ⟨v, rfl, n, a', H', fun m hm => ?_, q⟩
      have := h m hm
      rw [runOps_cons] at this
      simpa only [wantedA, cond_true, stepOp, hk, e] using this
  · intro ⟨v, e, h⟩
    exact WOps.rd hk e h

theorem WOrd_nil {ops : List AOper} {base : Nat} {a : Frm} {H : Heap} {hs : List Heap} {Q : Frm → List Heap → Prop} : WOrd E ops base [] a H hs Q ↔ Q a (H :: hs) :=
  ⟨fun ⟨n, a', H', h, q⟩ => by have := h n (Nat.le_refl _); simp only [runOrd, Option.some.injEq, Prod.mk.injEq] at this; obtain ⟨rfl, rfl⟩ := this; exact q, WOrd.nil⟩

/-- operations, each with its number -/
def runL (ms : Methods) (call : CallF) (ops : List AOper) (base : Nat) : List (Nat × AOper) → Frm → Heap → List Heap → Option (Frm × List Heap)
  | [], a, H, hs => some (a, H :: hs)
  | (i, o) :: is, a, H, hs =>
      match kindOf o.op with
      | .rd =>
        bif wantedA ops a o.guard then
          match Go.AE.rd o.op a H with
          | some v => runL ms call ops base is (put a o.dst v) H hs
          | none => none
        else runL ms call ops base is (put a o.dst aundef) H hs
      | .al =>
        bif wantedA ops a o.guard then
          match al o.op a with
          | some (x, f) => runL ms call ops base is (put a o.dst (f (base + i))) { H with t := H.t.set (base + i) x } hs
          | none => none
        else runL ms call ops base is (put a o.dst aundef) H hs
      | .wr =>
        bif wantedA ops a o.guard then
          match Go.AE.wr ms call o.op a H with
          | some (v, H') => runL ms call ops base is (put a o.dst v) H' (H :: hs)
          | none => none
        else runL ms call ops base is (put a o.dst aundef) H (H :: hs)

/-- the operations at these numbers -/
def listed (ops : List AOper) : List Nat → Option (List (Nat × AOper))
  | [] => some []
  | i :: is => match ops[i]? with
    | some o => match listed ops is with
      | some l => some ((i, o) :: l)
      | none => none
    | none => none

theorem runL_eq (ms : Methods) (call : CallF) (ops : List AOper) (base : Nat) : ∀ (is : List Nat) (l : List (Nat × AOper)) (a : Frm) (H : Heap) (hs : List Heap), listed ops is = some l → runOrd ms call ops base is a H hs = runL ms call ops base l a H hs := by
  intro is
  induction is with
  | nil => intro l a H hs h; simp only [listed, Option.some.injEq] at h; subst h; rfl
  | cons i is ih =>
    intro l a H hs h
    simp only [listed] at h
    cases ho : ops[i]? with
    | none => rw [ho] at h; exact nomatch h
    | some o =>
      rw [ho] at h
      cases hl : listed ops is with
      | none => rw [hl] at h; exact nomatch h
      | some l' =>
        rw [hl] at h
        simp only [Option.some.injEq] at h
        subst h
        rw [runOrd_cons]
        simp only [ho, runL, fun a H hs => ih l' a H hs hl]

/-- what operations, each with its number, come to -/
def WL (E : Env) (ops : List AOper) (base : Nat) (l : List (Nat × AOper)) (a : Frm) (H : Heap) (hs : List Heap) (Q : Frm → List Heap → Prop) : Prop :=
  ∃ n a' hs', (∀ m, n ≤ m → runL E.ms (acall E m) ops base l a H hs = some (a', hs')) ∧ Q a' hs'

theorem WOrd.listed {ops : List AOper} {base : Nat} {is : List Nat} {l : List (Nat × AOper)} (hl : Go.AE.listed ops is = some l) {a : Frm} {H : Heap} {hs : List Heap} {Q : Frm → List Heap → Prop} (h : WL E ops base l a H hs Q) : WOrd E ops base is a H hs Q := by
  obtain ⟨n, a', hs', h, q⟩ := h
  exact ⟨n, a', hs', fun m hm => by rw [runL_eq _ _ _ _ _ _ _ _ _ hl]; exact h m hm, q⟩

theorem WL_nil {ops : List AOper} {base : Nat} {a : Frm} {H : Heap} {hs : List Heap} {Q : Frm → List Heap → Prop} : WL E ops base [] a H hs Q ↔ Q a (H :: hs) :=
  ⟨fun ⟨n, a', H', h, q⟩ => by have := h n (Nat.le_refl _); simp only [runL, Option.some.injEq, Prod.mk.injEq] at this; obtain ⟨rfl, rfl⟩ := this; exact q, fun h => ⟨0, a, H :: hs, fun _ _ => rfl, h⟩⟩

theorem WL_rd {ops : List AOper} {base i : Nat} {is : List (Nat × AOper)} {dst : Option Nat} {op : AOp} {a : Frm} {H : Heap} {hs : List Heap} {Q : Frm → List Heap → Prop} (hk : kindOf op = .rd) :
    WL E ops base ((i, ⟨dst, op, none⟩) :: is) a H hs Q ↔ ∃ v, rd op a H = some v ∧ WL E ops base is (put a dst v) H hs Q := by
  constructor
  · intro ⟨n, a', H', h, q⟩
    cases e : Go.AE.rd op a H with
    | none => have := h n (Nat.le_refl _); simp only [runL, wantedA, cond_true, hk, e] at this; exact nomatch this
    | some v =>
      refine ⟨v, rfl, n, a', H', fun m hm => ?_, q⟩
      have := h m hm
      simpa only [runL, wantedA, cond_true, hk, e] using this
  · intro ⟨v, e, n, a', H', h, q⟩
    exact ⟨n, a', H', fun m hm => by simp only [runL, wantedA, cond_true, hk, e, h m hm], q⟩

theorem WL_call {ops : List AOper} {base i : Nat} {is : List (Nat × AOper)} {dst : Option Nat} {f : AX} {args : List AX} {a : Frm} {H : Heap} {hs : List Heap} {Q : Frm → List Heap → Prop} {g : Nat} {first captured : List AV}
    (e : evalX a f = .func (.func g) first captured) (h : WCall E g (first ++ args.map (evalX a) ++ captured) H (fun v H' => WL E ops base is (put a dst v) H' (H :: hs) Q)) : WL E ops base ((i, ⟨dst, .call f args, none⟩) :: is) a H hs Q := by
  obtain ⟨n, v, H1, h1, n2, a', H', h, q⟩ := h
  refine ⟨n + n2, a', H', fun m hm => ?_, q⟩
  simp only [runL, kindOf, wantedA, cond_true, Go.AE.wr, e, h1 m (by omega), h m (by omega)]

/-- what a writing operation that calls nothing comes to -/
def wr0 (op : AOp) (a : Frm) (H : Heap) : Option (AV × Heap) := wr [] (fun _ _ _ => none) op a H

def callsNot : AOp → Bool
  | .call .. | .callM .. => false
  | _ => true

theorem wr0_eq (ms : Methods) (call : CallF) (op : AOp) (h : callsNot op = true) (a : Frm) (H : Heap) : wr ms call op a H = wr0 op a H := by
  cases op <;> first | rfl | exact nomatch h

theorem WL_wr {ops : List AOper} {base i : Nat} {is : List (Nat × AOper)} {dst : Option Nat} {op : AOp} {a : Frm} {H : Heap} {hs : List Heap} {Q : Frm → List Heap → Prop} (hk : kindOf op = .wr) (hc : callsNot op = true) :
    WL E ops base ((i, ⟨dst, op, none⟩) :: is) a H hs Q ↔ ∃ v H', wr0 op a H = some (v, H') ∧ WL E ops base is (put a dst v) H' (H :: hs) Q := by
  constructor
  · intro ⟨n, a', H', h, q⟩
    cases e : wr0 op a H with
    | none => have := h n (Nat.le_refl _); simp only [runL, wantedA, cond_true, hk, wr0_eq _ _ _ hc, e] at this; exact nomatch this
    | some p =>
      obtain ⟨v, H1⟩ := p
      refine ⟨v, H1, rfl, n, a', H', fun m hm => ?_, q⟩
      have := h m hm
      simpa only [runL, wantedA, cond_true, hk, wr0_eq _ _ _ hc, e] using this
  · intro ⟨v, H1, e, n, a', H', h, q⟩
    exact ⟨n, a', H', fun m hm => by simp only [runL, wantedA, cond_true, hk, wr0_eq _ _ _ hc, e, h m hm], q⟩

theorem WOps_wr {all os : List AOper} {dst : Option Nat} {op : AOp} {a : Frm} {H : Heap} {Q : Frm → Heap → Prop} (hk : kindOf op = .wr) (hc : callsNot op = true) :
    WOps E all (⟨dst, op, none⟩ :: os) a H Q ↔ ∃ v H', wr0 op a H = some (v, H') ∧ WOps E all os (put a dst v) H' Q := by
  constructor
  · intro ⟨n, a', H', h, q⟩
    cases e : wr0 op a H with
    | none => have := h n (Nat.le_refl _); rw [runOps_cons] at this; simp only [wantedA, cond_true, stepOp, hk, wr0_eq _ _ _ hc, e] at this; exact nomatch this
    | some p =>
      obtain ⟨v, H1⟩ := p
      refine ⟨v, H1, rfl, n, a', H', fun m hm => ?_, q⟩
      have := h m hm
      rw [runOps_cons] at this
      simpa only [wantedA, cond_true, stepOp, hk, wr0_eq _ _ _ hc, e] using this
  · intro ⟨v, H1, e, h⟩
    exact WOps.wr hk (fun call => by rw [wr0_eq _ _ _ hc]; exact e) h

theorem WOps_al {all os : List AOper} {dst : Option Nat} {op : AOp} {a : Frm} {H : Heap} {Q : Frm → Heap → Prop} (hk : kindOf op = .al) :
    WOps E all (⟨dst, op, none⟩ :: os) a H Q ↔ ∃ x f, al op a = some (x, f) ∧ WOps E all os (put a dst (f H.next)) (H.push x) Q := by
  constructor
  · intro ⟨n, a', H', h, q⟩
    cases e : Go.AE.al op a with
    | none => have := h n (Nat.le_refl _); rw [runOps_cons] at this; simp only [wantedA, cond_true, stepOp, hk, e] at this; exact nomatch this
    | some p =>
      obtain ⟨x, f⟩ := p
      refine ⟨x, f, rfl, n, a', H', fun m hm => ?_, q⟩
      have := h m hm
      rw [runOps_cons] at this
      simpa only [wantedA, cond_true, stepOp, hk, e] using this
  · intro ⟨x, f, e, h⟩
    exact WOps.al hk e h

theorem W_draw {d : ADraw} {l : List (Nat × AOper)} (hl : listed d.ops d.ord = some l) {N : Nat} (hN : d.ops.length = N) {a : Frm} {H : Heap} {Q : AExit → Frm → Heap → Prop}
    (h : WL E d.ops H.next l a ⟨H.t, H.next + N⟩ [] (fun a' hs => stable d a a' H.next hs.reverse d.ops d.lohi 0 = true ∧ ∃ H' l, hs = H' :: l ∧ Q .normal a' H')) : W E (.draw d) a H Q :=
  W.draw (WOrd.listed hl (hN ▸ h))

end Go.AE
end
-- A call whose arguments and result lie nowhere in the heap: reckoned once, from an empty heap, it stands for every heap.
section
set_option linter.unusedVariables false
namespace Go.AE

mutual
/-- a value that points to nothing -/
def AV.flat : AV → Bool
  | .bool _ | .int _ _ | .str _ | .ptr none | .map none | .nilFunc | .nilIface => true
  | .agg cs => AV.flats cs
  | .tuple cs => AV.flats cs
  | .iface _ x => AV.flat x
  | _ => false
def AV.flats : List AV → Bool
  | [] => true
  | x :: xs => AV.flat x && AV.flats xs
end

mutual
theorem rel_flat {r r' : Ren} : ∀ (x : AV) (v : Value), AV.flat x = true → rel r x v → rel r' x v
  | .bool b, v, _, k => by simpa only [rel] using k
  | .int k n, v, _, hk => by simpa only [rel] using hk
  | .str s, v, _, k => by simpa only [rel] using k
  | .ptr none, v, _, k => by simpa only [rel] using k
  | .ptr (some (b, o)), v, h, k => by simp [AV.flat] at h
  | .slice none l c, v, h, k => by simp [AV.flat] at h
  | .slice (some (b, o)) l c, v, h, k => by simp [AV.flat] at h
  | .map none, v, _, k => by simpa only [rel] using k
  | .map (some b), v, h, k => by simp [AV.flat] at h
  | .func fn f c, v, h, k => by simp [AV.flat] at h
  | .nilFunc, v, _, k => by simpa only [rel] using k
  | .iface t x, v, h, k => by
    simp only [rel] at k ⊢
    obtain ⟨x', h1, h2⟩ := k
    exact ⟨x', h1, rel_flat x _ (by simpa [AV.flat] using h) h2⟩
  | .nilIface, v, _, k => by simpa only [rel] using k
  | .agg cs, v, h, k => by
    simp only [rel] at k ⊢
    obtain ⟨cs', h1, h2⟩ := k
    exact ⟨cs', h1, rels_flat cs _ (by simpa [AV.flat] using h) h2⟩
  | .tuple cs, v, h, k => by
    simp only [rel] at k ⊢
    obtain ⟨cs', h1, h2⟩ := k
    exact ⟨cs', h1, rels_flat cs _ (by simpa [AV.flat] using h) h2⟩
theorem rels_flat {r r' : Ren} : ∀ (x : List AV) (v : List Value), AV.flats x = true → rels r x v → rels r' x v
  | [], v, _, k => by simpa only [rels] using k
  | x :: xs, v, h, k => by
    simp only [rels] at k ⊢
    obtain ⟨y, ys, h1, h2, h3⟩ := k
    simp only [AV.flats, Bool.and_eq_true] at h
    exact ⟨y, ys, h1, rel_flat x _ h.1 h2, rels_flat xs _ h.2 h3⟩
end

def Ren.none : Ren := ⟨fun _ => .none, fun _ => False, fun _ => 0⟩

theorem Sim.none (w : World) (N : Nat) (hw : ∀ w' : World, (∀ c, c < w.heap.size → w'.heap[c]? = w.heap[c]?) → Fine w') : Sim w.heap.size Ren.none ⟨.nil, N⟩ w :=
  ⟨Nat.le_refl _, fun b c h => (nomatch h), fun b b' c h => (nomatch h), fun b h => False.elim h, hw⟩

/-- what was reckoned on the empty heap, on any heap -/
def liftF (call : CallF) (want : Nat → List AV → Bool) : CallF := fun f args H =>
  bif want f args && AV.flats args then
    match call f args ⟨.nil, 0⟩ with
    | some (v, _) => bif AV.flat v then some (v, H) else none
    | none => none
  else none

theorem lift_ok {P : Program} {call : CallF} (hc : CallOk P call) {f : Nat} {args : List AV} {v : AV} {H1 : Heap} (h : call f args ⟨.nil, 0⟩ = some (v, H1)) (ha : AV.flats args = true) (hv : AV.flat v = true) (H : Heap) :
    (∃ fn, P.funcs[f]? = some fn ∧ (fn.name == "runtime.NumGoroutine") = false ∧ fn.body.isNone = false) ∧ H.next ≤ H.next ∧
    ∀ B r w args', Sim B r H w → rels r args args'.toList → Calls P f args' w (fun e w' => ∃ r' v', e = .returned v' ∧ Sim B r' H w' ∧ Step B H.next r w r' w' ∧ rel r' v v') := by
  obtain ⟨g1, g2, g3⟩ := hc f args _ v H1 h
  refine ⟨g1, Nat.le_refl _, fun B r w args' hS hr => ?_⟩
  refine (g3 w.heap.size Ren.none w args' (Sim.none w 0 fun w' hw => hS.good w' fun c hc => hw c (Nat.lt_of_lt_of_le hc hS.low)) (rels_flat _ _ ha hr)).mono fun e w' he => ?_
  obtain ⟨r', v', rfl, hS', hT, hv'⟩ := he
  have hfr : ∀ c, c < w.heap.size → w'.heap[c]? = w.heap[c]? := fun c hcc => hT.frame c hcc (fun b hb => nomatch hb)
  refine ⟨r, v', rfl, ?_, ?_, rel_flat _ _ hv hv'⟩
  · refine ⟨Nat.le_trans hS.low hT.size, fun b c hm => ?_, hS.inj, hS.dead, fun w'' hw => hS.good w'' fun c hc => by rw [hw c hc, hfr c (Nat.lt_of_lt_of_le hc hS.low)]⟩
    obtain ⟨q1, ⟨x, o, q2, q3, q4, q5⟩, q6⟩ := hS.live b c hm
    exact ⟨q1, ⟨x, o, q2, by rw [hfr c (hS.lt hm)]; exact q3, q4, q5⟩, q6⟩
  · exact ⟨.refl r, fun b _ h => .inl ⟨b, h⟩, fun _ _ h1 h2 => ⟨h1, h2⟩, hT.os, hT.tape, hT.output, hT.size, fun c hcc _ => hfr c hcc⟩

end Go.AE
end
-- Blocks left aside: what a call leaves behind and nobody can reach is dropped.
section
set_option linter.unusedVariables false
noncomputable section
namespace Go.AE

/-- a renaming with the blocks dead that are not kept -/
def Ren.trim (r : Ren) (keep : Nat → Bool) : Ren :=
  ⟨fun b => bif keep b then r.m b else .none, fun b => r.dead b ∨ (keep b = false ∧ r.m b ≠ .none), r.sz⟩

theorem Ren.le_trim (r : Ren) (keep : Nat → Bool) : r.le (r.trim keep) where
  dead := fun b h => .inl h
  live := fun b c h => by
    cases hk : keep b with
    | true => left; exact ⟨by simp only [Ren.trim, hk, cond_true, h], rfl⟩
    | false => right; right; exact ⟨hk, by rw [h]; exact nofun⟩

theorem Sim.trim {B : Nat} {r : Ren} {H : Heap} {w : World} {keep : Nat → Bool} {t : T ABlk} (h : Sim B r H w) (ht : ∀ b, t.get b = bif keep b then H.t.get b else Option.none) : Sim B (r.trim keep) ⟨t, H.next⟩ w where
  low := h.low
  live := fun b c hm => by
    cases hk : keep b with
    | false => simp only [Ren.trim, hk, cond_false] at hm; exact nomatch hm
    | true =>
      simp only [Ren.trim, hk, cond_true] at hm
      obtain ⟨h1, ⟨x, o, h2, h3, h4, h5⟩, h6⟩ := h.live b c hm
      refine ⟨h1, ⟨x, o, by rw [ht, hk]; exact h2, h3, h4.mono (r.le_trim keep) rfl, h5⟩, ?_⟩
      rintro (hd | ⟨hd, _⟩)
      · exact h6 hd
      · rw [hk] at hd; exact nomatch hd
  inj := fun b b' c h1 h2 => by
    simp only [Ren.trim] at h1 h2
    cases hk : keep b with
    | false => rw [hk] at h1; exact nomatch h1
    | true =>
      cases hk' : keep b' with
      | false => rw [hk'] at h2; exact nomatch h2
      | true =>
        rw [hk, cond_true] at h1
        rw [hk', cond_true] at h2
        exact h.inj b b' c h1 h2
  dead := fun b hd => by
    rcases hd with hd | ⟨hk, hm⟩
    · obtain ⟨h1, h2⟩ := h.dead b hd
      refine ⟨h1, ?_⟩
      rw [ht, h2]
      cases keep b <;> rfl
    · cases hc : r.m b with
      | none => exact absurd hc hm
      | some c => exact ⟨(h.live b c hc).1, by rw [ht, hk]; rfl⟩
  good := h.good

theorem Step.trim {B N : Nat} {r r' : Ren} {w w' : World} (h : Step B N r w r' w') (keep : Nat → Bool) : Step B N r w (r'.trim keep) w' where
  le := h.le.trans (r'.le_trim keep)
  img := fun b c hm => by
    simp only [Ren.trim] at hm
    cases hk : keep b with
    | false => rw [hk] at hm; exact nomatch hm
    | true => rw [hk] at hm; exact h.img b c hm
  unborn := fun b hb h1 h2 => by
    obtain ⟨h3, h4⟩ := h.unborn b hb h1 h2
    refine ⟨?_, ?_⟩
    · simp only [Ren.trim, h3]
      cases keep b <;> rfl
    · rintro (hd | ⟨_, hd⟩)
      · exact h4 hd
      · exact hd h3
  os := h.os
  tape := h.tape
  output := h.output
  size := h.size
  frame := h.frame

/-- a node, none where it has nothing -/
def T.mk {α : Type} (l : T α) (v : Option α) (r : T α) : T α :=
  match v with
  | some x => .node l (some x) r
  | .none => match l with
    | .node a b c => .node (.node a b c) .none r
    | .nil => match r with
      | .nil => .nil
      | .node a b c => .node .nil .none (.node a b c)
theorem T.get_mk {α : Type} (l : T α) (v : Option α) (r : T α) (i : Nat) : (T.mk l v r).get i = (T.node l v r).get i := by
  cases v with
  | some x => rfl
  | none =>
    cases l with
    | node a b c => rfl
    | nil =>
      cases r with
      | node a b c => rfl
      | nil =>
        cases i with
        | zero => rfl
        | succ i =>
          simp only [T.mk, T.get_succ, T.get_nil]
          cases Nat.beq (Nat.mod i 2) 0 <;> rfl

/-- a tree without what is not kept -/
def T.filt {α : Type} : T α → (Nat → Bool) → T α
  | .nil, _ => .nil
  | .node l v r, p => T.mk (l.filt fun j => p (Nat.succ (Nat.mul 2 j))) (match v with | some x => bif p 0 then some x else .none | .none => .none) (r.filt fun j => p (Nat.succ (Nat.succ (Nat.mul 2 j))))

theorem T.get_filt {α : Type} (t : T α) : ∀ (p : Nat → Bool) (i : Nat), (t.filt p).get i = bif p i then t.get i else none := by
  induction t with
  | nil => intro p i; simp only [T.filt, T.get_nil]; cases p i <;> rfl
  | node l v r ihl ihr =>
    intro p i
    show (T.mk (l.filt fun j => p (Nat.succ (Nat.mul 2 j))) (match v with | some x => bif p 0 then some x else .none | .none => .none) (r.filt fun j => p (Nat.succ (Nat.succ (Nat.mul 2 j))))).get i = _
    rw [T.get_mk]
    cases i with
    | zero =>
      simp only [T.get_zero]
      cases v with
      | none => cases p 0 <;> rfl
      | some x => rfl
    | succ i =>
      simp only [T.get_succ]
      cases hb : Nat.beq (Nat.mod i 2) 0 with
      | true =>
        have e : Nat.mod i 2 = 0 := Nat.eq_of_beq_eq_true hb
        have e2 : Nat.succ (Nat.mul 2 (Nat.div i 2)) = i + 1 := by
          have := Nat.div_add_mod i 2
          have e' : i % 2 = 0 := e
          show 2 * (i / 2) + 1 = i + 1
          omega
        simp only [cond_true, ihl, e2]
      | false =>
        have e : i % 2 = 1 := by
          have h1 : i % 2 = 0 ∨ i % 2 = 1 := by omega
          rcases h1 with h1 | h1
          · have : Nat.beq (Nat.mod i 2) 0 = true := by show Nat.beq (i % 2) 0 = true; rw [h1]; rfl
            rw [this] at hb; exact nomatch hb
          · exact h1
        have e2 : Nat.succ (Nat.succ (Nat.mul 2 (Nat.div i 2))) = i + 1 := by
          have := Nat.div_add_mod i 2
          show 2 * (i / 2) + 1 + 1 = i + 1
          omega
        simp only [cond_false, ihr, e2]

mutual
/-- the blocks that a value points to -/
def AV.blocks : AV → List Nat → List Nat
  | .ptr (some (b, _)), l => b :: l
  | .slice (some (b, _)) _ _, l => b :: l
  | .map (some b), l => b :: l
  | .func _ x y, l => AV.blocksOf x (AV.blocksOf y l)
  | .iface _ v, l => AV.blocks v l
  | .agg cs, l => AV.blocksOf cs l
  | .tuple cs, l => AV.blocksOf cs l
  | _, l => l
def AV.blocksOf : List AV → List Nat → List Nat
  | [], l => l
  | x :: xs, l => AV.blocks x (AV.blocksOf xs l)
end

def entBlocks : List (AV × AV × Nat) → List Nat → List Nat
  | [], l => l
  | (_, v, _) :: es, l => v.blocks (entBlocks es l)

def ABlk.blocks : ABlk → List Nat → List Nat
  | .cells cs _ _ _, l => AV.blocksOf cs l
  | .map es _, l => entBlocks es l

/-- what can be reached from some blocks -/
def reach (H : Heap) : Nat → List Nat → T Unit → T Unit
  | 0, _, s => s
  | _ + 1, [], s => s
  | f + 1, b :: bs, s => match s.get b with
    | some _ => reach H f bs s
    | none => match H.t.get b with
      | some x => reach H f (x.blocks bs) (s.set b ())
      | none => reach H f bs s

def upto : Nat → List Nat → List Nat
  | 0, l => l
  | n + 1, l => upto n (n :: l)

/-- a heap without what was made since and cannot be reached from a value or from what was there -/
def Heap.gc (H : Heap) (N : Nat) (v : AV) : Heap :=
  let s := reach H 1000000 (v.blocks (upto N [])) .nil
  { t := H.t.filt fun b => match s.get b with | some _ => true | none => false, next := H.next }

/-- a call, and what is left behind dropped -/
def gcF (call : CallF) (want : Nat → Bool) : CallF := fun f args H =>
  bif want f then
    match call f args H with
    | some (v, H') => some (v, H'.gc H.next v)
    | none => none
  else none

theorem gc_ok {P : Program} {call : CallF} (hc : CallOk P call) (want : Nat → Bool) : CallOk P (gcF call want) := by
  intro f args H v H' h
  unfold gcF at h
  cases hw : want f with
  | false => rw [hw] at h; exact nomatch h
  | true =>
    rw [hw, cond_true] at h
    cases hcall : call f args H with
    | none => rw [hcall] at h; exact nomatch h
    | some p =>
      obtain ⟨v1, H1⟩ := p
      rw [hcall] at h
      simp only [Option.some.injEq, Prod.mk.injEq] at h
      obtain ⟨rfl, rfl⟩ := h
      obtain ⟨g1, g2, g3⟩ := hc f args H v1 H1 hcall
      refine ⟨g1, g2, fun B r w args' hS hr => (g3 B r w args' hS hr).mono fun e w' he => ?_⟩
      obtain ⟨r', v', rfl, hS', hT, hv⟩ := he
      exact ⟨_, v', rfl, hS'.trim (keep := fun b => match (reach H1 1000000 (v1.blocks (upto H.next [])) .nil).get b with | some _ => true | none => false) (fun b => T.get_filt _ _ _), hT.trim _, rel.mono (r'.le_trim _) _ _ hv⟩

end Go.AE
end
-- More fuel changes nothing; a run that was reckoned may stand in a reasoning.
section
set_option linter.unusedVariables false
set_option linter.unusedSimpArgs false
namespace Go.AE

/-- what one call comes to, another one comes to as well -/
def CallF.le (c c' : CallF) : Prop := ∀ f args H r, c f args H = some r → c' f args H = some r

theorem wr_mono {ms : Methods} {c c' : CallF} (hc : c.le c') {op : AOp} {a : Frm} {H : Heap} {r : AV × Heap} (h : wr ms c op a H = some r) : wr ms c' op a H = some r := by
  cases op with
  | call f args =>
    simp only [wr] at h ⊢
    generalize evalX a f = v at h ⊢
    split at h
    · exact hc _ _ _ _ h
    · exact nomatch h
  | callM recv name args =>
    simp only [wr] at h ⊢
    generalize evalX a recv = v at h ⊢
    split at h
    · rename_i t v
      generalize findM ms t name = g at h ⊢
      split at h
      · exact hc _ _ _ _ h
      · exact nomatch h
    · exact nomatch h
  | _ => exact h

theorem stepOp_mono {ms : Methods} {c c' : CallF} (hc : c.le c') {op : AOp} {a : Frm} {H : Heap} {r : AV × Heap} (h : stepOp ms c op a H = some r) : stepOp ms c' op a H = some r := by
  unfold stepOp at h ⊢
  cases hk : kindOf op with
  | rd => rw [hk] at h; exact h
  | al => rw [hk] at h; exact h
  | wr =>
    rw [hk] at h
    exact wr_mono hc h

theorem runOps_mono {ms : Methods} {c c' : CallF} (hc : c.le c') {all : List AOper} : ∀ {ops : List AOper} {a : Frm} {H : Heap} {r : Frm × Heap}, runOps ms c all ops a H = some r → runOps ms c' all ops a H = some r
  | [], _, _, _, h => h
  | o :: os, a, H, r, h => by
    unfold runOps at h ⊢
    cases hw : wantedA all a o.guard with
    | false =>
      rw [hw, cond_false] at h
      rw [cond_false]
      exact runOps_mono hc h
    | true =>
      rw [hw, cond_true] at h
      rw [cond_true]
      cases hs : stepOp ms c o.op a H with
      | none => rw [hs] at h; exact nomatch h
      | some p =>
        obtain ⟨v, H'⟩ := p
        rw [hs] at h
        rw [stepOp_mono hc hs]
        exact runOps_mono hc h

theorem runOrd_mono {ms : Methods} {c c' : CallF} (hc : c.le c') {ops : List AOper} {base : Nat} : ∀ {is : List Nat} {a : Frm} {H : Heap} {hs : List Heap} {r : Frm × List Heap}, runOrd ms c ops base is a H hs = some r → runOrd ms c' ops base is a H hs = some r
  | [], _, _, _, _, h => h
  | i :: is, a, H, hs, r, h => by
    unfold runOrd at h ⊢
    cases ho : ops[i]? with
    | none => rw [ho] at h; exact nomatch h
    | some o =>
      rw [ho] at h
      simp only at h ⊢
      cases hk : kindOf o.op with
      | rd =>
        rw [hk] at h
        simp only at h ⊢
        cases hw : wantedA ops a o.guard with
        | false => rw [hw, cond_false] at h; rw [cond_false]; exact runOrd_mono hc h
        | true =>
          rw [hw, cond_true] at h
          rw [cond_true]
          cases hr : rd o.op a H with
          | none => rw [hr] at h; exact nomatch h
          | some v => rw [hr] at h; exact runOrd_mono hc h
      | al =>
        rw [hk] at h
        simp only at h ⊢
        cases hw : wantedA ops a o.guard with
        | false => rw [hw, cond_false] at h; rw [cond_false]; exact runOrd_mono hc h
        | true =>
          rw [hw, cond_true] at h
          rw [cond_true]
          cases hr : al o.op a with
          | none => rw [hr] at h; exact nomatch h
          | some p => obtain ⟨x, f⟩ := p; rw [hr] at h; exact runOrd_mono hc h
      | wr =>
        rw [hk] at h
        simp only at h ⊢
        cases hw : wantedA ops a o.guard with
        | false => rw [hw, cond_false] at h; rw [cond_false]; exact runOrd_mono hc h
        | true =>
          rw [hw, cond_true] at h
          rw [cond_true]
          cases hr : wr ms c o.op a H with
          | none => rw [hr] at h; exact nomatch h
          | some p =>
            obtain ⟨v, H'⟩ := p
            rw [hr] at h
            rw [wr_mono hc hr]
            exact runOrd_mono hc h

theorem runDraw_mono {ms : Methods} {c c' : CallF} (hc : c.le c') {d : ADraw} {a : Frm} {H : Heap} {r : Frm × Heap} (h : runDraw ms c d a H = some r) : runDraw ms c' d a H = some r := by
  unfold runDraw at h ⊢
  cases ho : runOrd ms c d.ops H.next d.ord a { H with next := H.next + d.ops.length } [] with
  | none => rw [ho] at h; exact nomatch h
  | some p => rw [ho] at h; rw [runOrd_mono hc ho]; exact h

theorem acall_mono {E : Env} {n m : Nat} (ih : ∀ {c : ACode} {a : Frm} {H : Heap} {r : AExit × Frm × Heap}, exec E n c a H = some r → exec E m c a H = some r) : (acall E n).le (acall E m) := by
  intro f args H r h
  unfold acall at h ⊢
  cases hs : E.sums f args H with
  | some p => rw [hs] at h; exact h
  | none =>
    rw [hs] at h
    simp only at h ⊢
    cases hf : E.funcs f with
    | none => rw [hf] at h; exact nomatch h
    | some fn =>
      rw [hf] at h
      simp only at h ⊢
      cases he : exec E n fn.code (frameOf args 0 .nil) H with
      | none => rw [he] at h; exact nomatch h
      | some p => rw [he] at h; rw [ih he]; exact h

theorem exec_mono1 {E : Env} : ∀ (n : Nat) {c : ACode} {a : Frm} {H : Heap} {r : AExit × Frm × Heap}, exec E n c a H = some r → exec E (n + 1) c a H = some r
  | 0, _, _, _, _, h => nomatch h
  | n + 1, c, a, H, r, h => by
    have ih := @exec_mono1 E n
    have ic : (acall E n).le (acall E (n + 1)) := acall_mono ih
    rw [exec_succ] at h ⊢
    cases c with
    | skip => exact h
    | ret => exact h
    | exit id => exact h
    | seq x y =>
      simp only at h ⊢
      cases hx : exec E n x a H with
      | none => rw [hx] at h; exact nomatch h
      | some p =>
        obtain ⟨e, a', H'⟩ := p
        rw [hx] at h
        rw [ih hx]
        cases e with
        | normal => exact ih h
        | exit id => exact h
        | ret => exact h
    | cond k x y =>
      simp only at h ⊢
      generalize evalX a k = v at h ⊢
      split at h
      · rename_i b
        cases b with
        | true => exact ih h
        | false => exact ih h
      · exact nomatch h
    | block id x =>
      simp only at h ⊢
      cases hx : exec E n x a H with
      | none => rw [hx] at h; exact nomatch h
      | some p => rw [hx] at h; rw [ih hx]; exact h
    | loop x =>
      simp only at h ⊢
      cases hx : exec E n x a H with
      | none => rw [hx] at h; exact nomatch h
      | some p =>
        obtain ⟨e, a', H'⟩ := p
        rw [hx] at h
        rw [ih hx]
        cases e with
        | normal => exact ih h
        | exit id => exact h
        | ret => exact h
    | region ops =>
      simp only at h ⊢
      cases hx : runOps E.ms (acall E n) ops ops a H with
      | none => rw [hx] at h; exact nomatch h
      | some p => rw [hx] at h; rw [runOps_mono ic hx]; exact h
    | draw d =>
      simp only at h ⊢
      cases hx : runDraw E.ms (acall E n) d a H with
      | none => rw [hx] at h; exact nomatch h
      | some p => rw [hx] at h; rw [runDraw_mono ic hx]; exact h

theorem exec_mono {E : Env} {n m : Nat} (hm : n ≤ m) {c : ACode} {a : Frm} {H : Heap} {r : AExit × Frm × Heap} (h : exec E n c a H = some r) : exec E m c a H = some r := by
  induction hm with
  | refl => exact h
  | step _ ih => exact exec_mono1 _ ih

/-- a run that was reckoned -/
theorem W.ran {E : Env} {c : ACode} {a a' : Frm} {H H' : Heap} {x : AExit} {Q : AExit → Frm → Heap → Prop} (n : Nat) (h : exec E n c a H = some (x, a', H')) (q : Q x a' H') : W E c a H Q :=
  ⟨n, x, a', H', fun m hm => exec_mono hm h, q⟩

theorem WCall.ran {E : Env} {f : Nat} {args : List AV} {H H' : Heap} {v : AV} {Q : AV → Heap → Prop} (n : Nat) (h : acall E n f args H = some (v, H')) (q : Q v H') : WCall E f args H Q :=
  ⟨n, v, H', fun m hm => acall_mono (fun h => exec_mono hm h) _ _ _ _ h, q⟩

end Go.AE
end
-- A map copied entry by entry: whatever order the entries come in.
section
set_option linter.unusedVariables false
set_option linter.unusedSimpArgs false
noncomputable section
namespace Go.AE
variable {P : Program} {w : World}

/-- an operation that stands at a place of a region, unguarded -/
def OpAt (A : Array Oper) (i : Nat) (op : Op) (dst : Option Nat) : Prop := ∃ o, A[i]? = some o ∧ o.op = op ∧ o.dst = dst ∧ o.guard = none

theorem wpOps_value {A : Array Oper} {Q : Exit → Act → World → Prop} {is : List Nat} {a : Act} {w w' : World} {i : Nat} {op : Op} {dst : Option Nat} {v : Value} (h : OpAt A i op dst)
    (hx : ∀ o : Oper, o.op = op → (execOp a.eval o).run P w = .ok (.value v) w') (k : wpOps P A Q is (a.put dst v) w') : wpOps P A Q (i :: is) a w := by
  obtain ⟨o, ho, hop, rfl, hg⟩ := h
  simp only [wpOps, ho]
  have hw : Region.wanted o (yielded A a.tmps) = true := by unfold Region.wanted; rw [hg]
  simp only [hw, if_true]
  refine .inl ?_
  unfold Oper.wp
  rw [hx o hop]
  exact k

theorem wpOps_skip {A : Array Oper} {Q : Exit → Act → World → Prop} {is : List Nat} {a : Act} {w w' : World} {i : Nat} {op : Op} {dst : Option Nat} (h : OpAt A i op dst)
    (hx : ∀ o : Oper, o.op = op → (execOp a.eval o).run P w = .ok .skip w') (k : wpOps P A Q is (a.put dst undef) w') : wpOps P A Q (i :: is) a w := by
  obtain ⟨o, ho, hop, rfl, hg⟩ := h
  simp only [wpOps, ho]
  have hw : Region.wanted o (yielded A a.tmps) = true := by unfold Region.wanted; rw [hg]
  simp only [hw, if_true]
  refine .inl ?_
  unfold Oper.wp
  rw [hx o hop]
  exact k

theorem x_move {a : Act} {x : Operand} {o : Oper} (h : o.op = .move x ∨ o.op = .assign x) : (execOp a.eval o).run P w = .ok (.value (a.eval x)) w := by
  unfold execOp
  rcases h with h | h <;> rw [h] <;> simp
theorem x_nil {a : Act} {x : Operand} {p : Addr} {o : Oper} (h : o.op = .nilCheck x) (hx : a.eval x = .pointer (some p)) : (execOp a.eval o).run P w = .ok (.value (.pointer (some p))) w := by
  unfold execOp
  rw [h]
  simp [hx]
theorem x_extract {a : Act} {x : Operand} {vs : Array Value} {v : Value} {i : Nat} {o : Oper} (h : o.op = .extract x i) (hx : a.eval x = .tuple vs) (hv : vs[i]? = some v) : (execOp a.eval o).run P w = .ok (.value v) w := by
  unfold execOp
  rw [h]
  refine value_run ?_
  rw [hx]
  simp [Instr.extract, hv]
theorem x_field {a : Act} {x : Operand} {t : TypeId} {i b p : Nat} {fs : Array Field} {f : Field} {n : Nat} {o : Oper} (h : o.op = .fieldAddr t x i) (hu : P.underlying t = some (.struct fs)) (hf : fs[i]? = some f) (hn : sizeP P f.type = some (n + 1))
    (hx : a.eval x = .pointer (some ⟨b, p, none⟩)) : (execOp a.eval o).run P w = .ok (.value (.pointer (some ⟨b, p + f.offset, none⟩))) w := by
  unfold execOp
  rw [h]
  refine value_run ?_
  unfold Instr.fieldAt
  simp only [Sem.run_bind, run_underlying hu, Result.andThen_ok, hf, hx, Instr.sureAddr, Sem.run_pure, fieldPlace, run_sizeOf hn]
  rw [if_neg (Nat.succ_ne_zero n)]
  simp [Addr.add_eq]
theorem x_load {a : Act} {x : Operand} {t : TypeId} {b p : Nat} {v : Value} {o : Oper} (h : o.op = .load t x) (hg : aggP P t = some false) (hx : a.eval x = .pointer (some ⟨b, p, none⟩)) (hv : w.cell? ⟨b, p, none⟩ = some v) : (execOp a.eval o).run P w = .ok (.value v) w := by
  unfold execOp
  rw [h]
  simp [Instr.loadAt, Instr.sureAddr, hx, loadVar, run_isAgg hg, hv]
theorem x_next {a : Act} {x : Operand} {ty : TypeId} {v : Value} {p : Value} {w' : World} {o : Oper} (h : o.op = .next x false) (hx : a.eval x = p) (hr : ∀ ty, (Instr.next p false ty).run P w = .ok v w') : (execOp a.eval o).run P w = .ok (.value v) w' := by
  unfold execOp
  rw [h]
  exact value_run (by rw [hx]; exact hr _)
theorem x_entry {a : Act} {x : Operand} {v : Value} {p : Value} {w' : World} {o : Oper} (h : o.op = .entry x) (hx : a.eval x = p) (hr : (Instr.entry p).run P w = .ok v w') : (execOp a.eval o).run P w = .ok (.value v) w' := by
  unfold execOp
  rw [h]
  exact value_run (by rw [hx]; exact hr)
theorem x_range {a : Act} {x : Operand} {t : TypeId} {v : Value} {p : Value} {w' : World} {o : Oper} (h : o.op = .range t x) (hx : a.eval x = p) (hr : (Instr.range t p).run P w = .ok v w') : (execOp a.eval o).run P w = .ok (.value v) w' := by
  unfold execOp
  rw [h]
  exact value_run (by rw [hx]; exact hr)

theorem x_update {a : Act} {m k x : Operand} {t kt e : TypeId} {d : TypeDesc} {kk : KeyKind} {b clock : Nat} {es : Array MapEntry} {o : Oper} (h : o.op = .mapUpdate t m k x) (hu : P.underlying t = some (.map kt e)) (hud : P.underlying kt = some d) (hd : keyTy d kk)
    (hm : a.eval m = .map (some b)) (hb : w.heap[b]? = some (.map es clock)) (hf : Instr.findNow d (a.eval k) es.toList 0 = some none) :
    (execOp a.eval o).run P w = .ok .skip (AE.setBlk w b (.map (es.push { key := a.eval k, val := a.eval x, born := clock }) (clock + 1))) := by
  have find : (Instr.findKey kt (a.eval k) es.toList).run P w = .ok none w := by
    simp [Instr.findKey, run_underlying hud, hf]
  unfold execOp
  rw [h]
  refine skip_run ?_
  unfold Instr.mapUpdate
  simp only [Sem.run_bind, run_underlying hu, Result.andThen_ok, hm, run_getObj_map hb, checkKey_run hud hd, find, setObj_run hb]

end Go.AE
end
-- A map copied entry by entry: the loop.
section
set_option linter.unusedVariables false
set_option linter.unusedSimpArgs false
noncomputable section
namespace Go.AE
variable {P : Program}

theorem eval_put {a : Act} {d : Nat} {v : Value} (hd : d < a.tmps.size) (t : Nat) : (a.put (some d) v).eval (.tmp t) = if t = d then v else a.eval (.tmp t) := by
  show (a.tmps.setIfInBounds d v).getD t undef = if t = d then v else a.tmps.getD t undef
  rw [Array.getD_eq_getD_getElem?, Array.getD_eq_getD_getElem?]
  by_cases h : t = d
  · subst h; rw [Array.getElem?_setIfInBounds_self_of_lt hd]; simp
  · rw [Array.getElem?_setIfInBounds_ne (Ne.symm h), if_neg h]
theorem size_put {a : Act} {d : Nat} {v : Value} : (a.put (some d) v).tmps.size = a.tmps.size := by simp [Act.put]
theorem defers_put {a : Act} {d : Nat} {v : Value} : (a.put (some d) v).defers = a.defers := rfl

theorem Act.put_none {a : Act} {v : Value} : a.put none v = a := rfl

/-- an entry as both have it -/
abbrev Both := (AV × AV × Nat) × MapEntry

theorem both_of {r : Ren} {l : List (AV × AV × Nat)} {l' : List MapEntry} (h : entsRel r l l') : ∃ Z : List Both, Z.map (·.1) = l ∧ Z.map (·.2) = l' ∧ ∀ z ∈ Z, rel r z.1.1 z.2.key ∧ rel r z.1.2.1 z.2.val := by
  induction h with
  | nil => exact ⟨[], rfl, rfl, fun z hz => nomatch hz⟩
  | @cons k v n e l l' h1 h2 _ ih =>
    obtain ⟨Z, g1, g2, g3⟩ := ih
    refine ⟨((k, v, n), e) :: Z, by simp [g1], by simp [g2], fun z hz => ?_⟩
    rcases List.mem_cons.1 hz with rfl | hz
    · exact ⟨h1, h2⟩
    · exact g3 z hz
theorem of_both {r : Ren} {Z : List Both} {ds : List MapEntry} (hz : ∀ z ∈ Z, rel r z.1.1 z.2.key ∧ rel r z.1.2.1 z.2.val) (h : ds.map (fun e => (e.key, e.val)) = Z.map (fun z => (z.2.key, z.2.val))) : entsRel r (Z.map (·.1)) ds := by
  induction Z generalizing ds with
  | nil => cases ds with
    | nil => exact .nil
    | cons => simp at h
  | cons z Z ih =>
    cases ds with
    | nil => simp at h
    | cons e ds =>
      simp only [List.map_cons, List.cons.injEq, Prod.mk.injEq] at h
      obtain ⟨⟨h1, h2⟩, h3⟩ := h
      obtain ⟨⟨k, v, n⟩, e'⟩ := z
      have := hz _ (List.mem_cons_self ..)
      exact .cons (h1 ▸ this.1) (h2 ▸ this.2) (ih (fun z hz' => hz z (List.mem_cons_of_mem _ hz')) h3)

theorem keysApart.perm {a b : List (AV × AV × Nat)} (hp : a.Perm b) (h : keysApart b) : keysApart a := by
  unfold keysApart at h ⊢
  exact ((hp.map (·.1)).pairwise_iff fun {x y} hxy => by rw [keyEq_comm]; exact hxy).2 h

/-- the loop under way: so many entries are done, so many are to come -/
structure Going (w0 : World) (es : Array MapEntry) (clock cs it cd : Nat) (p : Addr) (Z D R : List Both) (a : Act) (w : World) : Prop where
  all : (D ++ R).Perm Z
  src : w.heap[cs]? = some (.map es clock)
  itr : ∃ seen c0, w.heap[it]? = some (.mapIter (some cs) clock seen c0) ∧ seen.toList = D.map (·.2.born) ∧ clock ≤ c0
  dst : ∃ ds dc, w.heap[cd]? = some (.map ds dc) ∧ stampsOk ds dc ∧ ds.toList.map (fun e => (e.key, e.val)) = D.map (fun z => (z.2.key, z.2.val))
  same : ∀ c, c ≠ it → c ≠ cd → w.heap[c]? = w0.heap[c]?
  size : w.heap.size = w0.heap.size
  os : w.os = w0.os
  tape : w.tape = w0.tape
  output : w.output = w0.output
  r3 : a.eval (.tmp 3) = .pointer (some p)
  r29 : a.eval (.tmp 29) = .pointer (some ⟨it, 0, none⟩)
  tm : 42 ≤ a.tmps.size
  defers : a.defers = []

/-- the loop's operations -/
structure CopyOps (tM tT : TypeId) (A5 A6 A7 : Array Oper) : Prop where
  n5 : A5.size = 2
  n6 : A6.size = 5
  n7 : A7.size = 7
  o50 : OpAt A5 0 (.next (.tmp 29) false) (some 30)
  o51 : OpAt A5 1 (.extract (.tmp 30) 0) (some 31)
  o60 : OpAt A6 0 (.entry (.tmp 29)) (some 32)
  o61 : OpAt A6 1 (.extract (.tmp 32) 0) (some 33)
  o62 : OpAt A6 2 (.extract (.tmp 32) 1) (some 34)
  o63 : OpAt A6 3 (.assign (.tmp 33)) (some 4)
  o64 : OpAt A6 4 (.assign (.tmp 34)) (some 5)
  o70 : OpAt A7 0 (.move (.tmp 3)) (some 35)
  o71 : OpAt A7 1 (.nilCheck (.tmp 35)) (some 36)
  o72 : OpAt A7 2 (.fieldAddr tT (.tmp 36) 1) (some 37)
  o73 : OpAt A7 3 (.load tM (.tmp 37)) (some 38)
  o74 : OpAt A7 4 (.move (.tmp 4)) (some 39)
  o75 : OpAt A7 5 (.move (.tmp 5)) (some 40)
  o76 : OpAt A7 6 (.mapUpdate tM (.tmp 38) (.tmp 39) (.tmp 40)) none

theorem wpOps_at {A : Array Oper} {Q : Exit → Act → World → Prop} {is : List Nat} {a : Act} {w w' : World} {i : Nat} {o : Oper} {v : Value} (ho : A[i]? = some o) (hg : o.guard = none)
    (hx : (execOp a.eval o).run P w = .ok (.value v) w') (k : wpOps P A Q is (a.put o.dst v) w') : wpOps P A Q (i :: is) a w := by
  simp only [wpOps, ho]
  have hw : Region.wanted o (yielded A a.tmps) = true := by unfold Region.wanted; rw [hg]
  simp only [hw, if_true]
  refine .inl ?_
  unfold Oper.wp
  rw [hx]
  exact k

theorem copy_loop {tM tT kt e : TypeId} {d : TypeDesc} {kk : KeyKind} {fs : Array Field} {f : Field} {n i5 i6 i7 : Nat} {A5 A6 A7 : Array Oper} (hO : CopyOps tM tT A5 A6 A7)
    (hu : P.underlying tM = some (.map kt e)) (hud : P.underlying kt = some d) (hd : keyTy d kk) (hg : aggP P tM = some false) (hs : P.underlying tT = some (.struct fs)) (hf : fs[1]? = some f) (hn : sizeP P f.type = some (n + 1))
    {r : Ren} {w0 : World} {es : Array MapEntry} {clock cs it cd ct off : Nat} {Z : List Both} (hZ : Z.map (·.2) = es.toList) (hZr : ∀ z ∈ Z, rel r z.1.1 z.2.key ∧ rel r z.1.2.1 z.2.val) (hap : keysApart (Z.map (·.1))) (hkk : ∀ z ∈ Z, isKey kk z.1.1 = true)
    (hst : stampsOk es clock) (h1 : it ≠ cs) (h2 : it ≠ cd) (h3 : cs ≠ cd) (h4 : ct ≠ it) (h5 : ct ≠ cd) (hcell : w0.cell? ⟨ct, off + f.offset, none⟩ = some (.map (some cd))) {Q : Exit → Act → World → Prop}
    (hQ : ∀ a w D, Going w0 es clock cs it cd ⟨ct, off, none⟩ Z D [] a w → Q .normal a w) :
    ∀ (k : Nat) (D R : List Both) (a : Act) (w : World), R.length = k → Going w0 es clock cs it cd ⟨ct, off, none⟩ Z D R a w →
      Code.rounds P ((Code.region i5 A5 false).seq ((Code.cond (.tmp 31) Code.skip (Code.exit 0)).seq (Code.block 1 ((Code.region i6 A6 false).seq (Code.region i7 A7 false))))) (Exit.inBlock 0 Q) (k + 1) a w := by
  intro k
  induction k with
  | zero =>
    intro D R a w hk hG
    obtain rfl := List.eq_nil_of_length_eq_zero hk
    obtain ⟨seen, c0, hit, hseen, hc0⟩ := hG.itr
    have hall : ∀ x ∈ es.toList, seen.contains x.born = true := fun x hx => by
      rw [← hZ] at hx
      obtain ⟨z, hz, rfl⟩ := List.mem_map.1 hx
      have := hG.all.mem_iff.2 hz
      simp only [List.append_nil] at this
      rw [Array.contains_eq_mem, decide_eq_true_eq, ← Array.mem_toList_iff, hseen]
      exact List.mem_map_of_mem this
    obtain ⟨o, ho, hop, hdst, hgd⟩ := hO.o50
    rw [rounds_succ]
    refine wp_seq (wp_region ?_)
    rw [hO.n5]
    rcases run_next_at (P := P) w o.type it cs clock c0 seen es clock hit hG.src hst.2 hc0 with ⟨h0, hrun⟩ | ⟨e', he, _⟩
    · show wpOps P A5 _ [0, 1] a w
      have tm := hG.tm
      refine wpOps_at ho hgd (by unfold execOp; rw [hop]; exact value_run (by rw [hG.r29]; exact hrun)) ?_
      rw [hdst]
      refine wpOps_value hO.o51 (fun o ho => x_extract (vs := #[.bool false]) (v := .bool false) ho (by rw [eval_put (by omega), if_pos rfl]) rfl) ?_
      show Exit.then _ _ .normal _ _
      refine wp_seq (wp_cond_false (by rw [eval_put (by rw [size_put]; omega), if_pos rfl]) (wp_exit ?_))
      show Exit.inBlock 0 Q (.exit 0) _ _
      simp only [Exit.inBlock, if_true]
      refine hQ _ _ D ⟨hG.all, hG.src, hG.itr, hG.dst, hG.same, hG.size, hG.os, hG.tape, hG.output, ?_, ?_, ?_, hG.defers⟩
      · rw [eval_put (by rw [size_put]; omega), if_neg (by omega), eval_put (by omega), if_neg (by omega)]; exact hG.r3
      · rw [eval_put (by rw [size_put]; omega), if_neg (by omega), eval_put (by omega), if_neg (by omega)]; exact hG.r29
      · rw [size_put, size_put]; exact tm
    · have := mem_left he
      rw [hall e' this.1] at this
      exact nomatch this.2
  | succ k ih =>
    intro D R a w hk hG
    obtain ⟨seen, c0, hit, hseen, hc0⟩ := hG.itr
    obtain ⟨ds, dc, hds, hdst2, hdk⟩ := hG.dst
    obtain ⟨o, ho, hop, hdst, hgd⟩ := hO.o50
    have tm := hG.tm
    rw [rounds_succ]
    refine wp_seq (wp_region ?_)
    rw [hO.n5]
    show wpOps P A5 _ [0, 1] a w
    have hborn : (Z.map (·.2.born)).Nodup := by
      have := hst.1
      rw [← hZ, List.map_map] at this
      exact this
    have hborn2 : ((D ++ R).map (·.2.born)).Nodup := (hG.all.map _).nodup_iff.2 hborn
    rcases run_next_at (P := P) w o.type it cs clock c0 seen es clock hit hG.src hst.2 hc0 with ⟨h0, _⟩ | ⟨e', he, w1, hw1, hrun⟩
    · exfalso
      have hall := all_seen es seen h0
      cases R with
      | nil => simp at hk
      | cons z R =>
        have hz : z ∈ Z := hG.all.mem_iff.1 (by simp)
        have := hall z.2 (by rw [← hZ]; exact List.mem_map_of_mem hz)
        rw [Array.contains_eq_mem, decide_eq_true_eq, ← Array.mem_toList_iff, hseen] at this
        rw [List.map_append, List.nodup_append] at hborn2
        exact hborn2.2.2 _ this _ (List.mem_map_of_mem (List.mem_cons_self ..)) rfl
    · obtain ⟨hem, hens⟩ := mem_left he
      rw [← hZ] at hem
      obtain ⟨z, hz, hze⟩ := List.mem_map.1 hem
      have hzn : z ∉ D := fun h => by
        rw [Array.contains_eq_mem, decide_eq_false_iff_not, ← Array.mem_toList_iff, hseen, ← hze] at hens
        exact hens (List.mem_map_of_mem h)
      have hzR : z ∈ R := by
        rcases List.mem_append.1 (hG.all.mem_iff.2 hz) with h | h
        · exact absurd h hzn
        · exact h
      obtain ⟨R1, R2, rfl⟩ := List.append_of_mem hzR
      have hall' : ((D ++ [z]) ++ (R1 ++ R2)).Perm Z := by
        refine List.Perm.trans ?_ hG.all
        rw [List.append_assoc, List.singleton_append]
        exact List.Perm.append_left D List.perm_middle.symm
      -- the world behind the step
      have hw1h : w1.heap = w.heap := by rcases hw1 with rfl | rfl <;> rfl
      have hit1 : w1.heap[it]? = some (.mapIter (some cs) clock seen c0) := by rw [hw1h]; exact hit
      have hitlt : it < w1.heap.size := (Array.getElem?_eq_some_iff.1 hit1).1
      have g2 : ∀ c, (setBlk w1 it (.mapIter (some cs) clock (seen.push e'.born) clock)).heap[c]? = if c = it then some (.mapIter (some cs) clock (seen.push e'.born) clock) else w.heap[c]? := fun c => by
        rw [setBlk_get hitlt, hw1h]
      generalize hw2 : setBlk w1 it (.mapIter (some cs) clock (seen.push e'.born) clock) = w2 at g2
      have hsz2 : w2.heap.size = w.heap.size := by rw [← hw2]; simp [AE.setBlk, hw1h]
      have hos2 : w2.os = w.os := by rw [← hw2]; rcases hw1 with rfl | rfl <;> rfl
      have htp2 : w2.tape = w.tape := by rw [← hw2]; rcases hw1 with rfl | rfl <;> rfl
      have hout2 : w2.output = w.output := by rw [← hw2]; rcases hw1 with rfl | rfl <;> rfl
      refine wpOps_at (v := .tuple #[.bool true, e'.key, e'.val]) (w' := w2) ho hgd (by unfold execOp; rw [hop]; exact value_run (by rw [hG.r29, ← hw2]; exact hrun)) ?_
      rw [hdst]
      refine wpOps_value hO.o51 (fun o ho => x_extract (vs := #[.bool true, e'.key, e'.val]) (v := .bool true) ho (by rw [eval_put (by omega), if_pos rfl]) rfl) ?_
      show Exit.then _ _ .normal _ _
      refine wp_seq (wp_cond_true (by rw [eval_put (by rw [size_put]; omega), if_pos rfl]) (wp_skip ?_))
      show Code.wp P _ _ _ _
      refine wp_block (wp_seq (wp_region ?_))
      rw [hO.n6]
      have hent : (Instr.entry (.pointer (some ⟨it, 0, none⟩))).run P w2 = .ok (.tuple #[e'.key, e'.val]) w2 :=
        run_entry_at w2 it cs clock seen es clock e' (by rw [g2, if_pos rfl]) (by rw [g2, if_neg (Ne.symm h1)]; exact hG.src) (by rw [← hZ]; exact hem) hst.1
      show wpOps P A6 _ [0, 1, 2, 3, 4] _ w2
      refine wpOps_value hO.o60 (fun o ho => x_entry ho (by rw [eval_put (by rw [size_put]; omega), if_neg (by omega), eval_put (by omega), if_neg (by omega)]; exact hG.r29) hent) ?_
      refine wpOps_value hO.o61 (fun o ho => x_extract (vs := #[e'.key, e'.val]) (v := e'.key) ho (by rw [eval_put (by simp only [size_put]; omega), if_pos rfl]) rfl) ?_
      refine wpOps_value hO.o62 (fun o ho => x_extract (vs := #[e'.key, e'.val]) (v := e'.val) ho (by rw [eval_put (by simp only [size_put]; omega), if_neg (by omega), eval_put (by simp only [size_put]; omega), if_pos rfl]) rfl) ?_
      refine wpOps_value hO.o63 (fun o ho => x_move (.inr ho)) ?_
      refine wpOps_value hO.o64 (fun o ho => x_move (.inr ho)) ?_
      simp (disch := ((try simp only [size_put]); omega)) only [eval_put, Nat.reduceEqDiff, if_false, if_true]
      -- the frame behind it
      have q3 : ((((((((a.put (some 30) (.tuple #[.bool true, e'.key, e'.val])).put (some 31) (.bool true)).put (some 32) (.tuple #[e'.key, e'.val])).put (some 33) e'.key).put (some 34) e'.val).put (some 4) e'.key).put (some 5) e'.val).eval (.tmp 3)) = .pointer (some ⟨ct, off, none⟩) := by
        simp (disch := ((try simp only [size_put]); omega)) only [eval_put, Nat.reduceEqDiff, if_false]
        exact hG.r3
      have q29 : ((((((((a.put (some 30) (.tuple #[.bool true, e'.key, e'.val])).put (some 31) (.bool true)).put (some 32) (.tuple #[e'.key, e'.val])).put (some 33) e'.key).put (some 34) e'.val).put (some 4) e'.key).put (some 5) e'.val).eval (.tmp 29)) = .pointer (some ⟨it, 0, none⟩) := by
        simp (disch := ((try simp only [size_put]); omega)) only [eval_put, Nat.reduceEqDiff, if_false]
        exact hG.r29
      have q4 : ((((((((a.put (some 30) (.tuple #[.bool true, e'.key, e'.val])).put (some 31) (.bool true)).put (some 32) (.tuple #[e'.key, e'.val])).put (some 33) e'.key).put (some 34) e'.val).put (some 4) e'.key).put (some 5) e'.val).eval (.tmp 4)) = e'.key := by
        simp (disch := ((try simp only [size_put]); omega)) only [eval_put, Nat.reduceEqDiff, if_false, if_true]
      have q5 : ((((((((a.put (some 30) (.tuple #[.bool true, e'.key, e'.val])).put (some 31) (.bool true)).put (some 32) (.tuple #[e'.key, e'.val])).put (some 33) e'.key).put (some 34) e'.val).put (some 4) e'.key).put (some 5) e'.val).eval (.tmp 5)) = e'.val := by
        simp (disch := ((try simp only [size_put]); omega)) only [eval_put, Nat.reduceEqDiff, if_true]
      have qt : 42 ≤ ((((((((a.put (some 30) (.tuple #[.bool true, e'.key, e'.val])).put (some 31) (.bool true)).put (some 32) (.tuple #[e'.key, e'.val])).put (some 33) e'.key).put (some 34) e'.val).put (some 4) e'.key).put (some 5) e'.val)).tmps.size := by simp only [size_put]; exact tm
      have qd : ((((((((a.put (some 30) (.tuple #[.bool true, e'.key, e'.val])).put (some 31) (.bool true)).put (some 32) (.tuple #[e'.key, e'.val])).put (some 33) e'.key).put (some 34) e'.val).put (some 4) e'.key).put (some 5) e'.val)).defers = [] := by simp only [defers_put]; exact hG.defers
      generalize ((((((((a.put (some 30) (.tuple #[.bool true, e'.key, e'.val])).put (some 31) (.bool true)).put (some 32) (.tuple #[e'.key, e'.val])).put (some 33) e'.key).put (some 34) e'.val).put (some 4) e'.key).put (some 5) e'.val)) = a6 at q3 q29 q4 q5 qt qd ⊢
      show Code.wp P _ _ _ _
      refine wp_region ?_
      rw [hO.n7]
      show wpOps P A7 _ [0, 1, 2, 3, 4, 5, 6] _ w2
      refine wpOps_value hO.o70 (fun o ho => x_move (.inl ho)) ?_
      rw [q3]
      refine wpOps_value hO.o71 (fun o ho => x_nil ho (by rw [eval_put (by omega), if_pos rfl])) ?_
      refine wpOps_value hO.o72 (fun o ho => x_field (n := n) ho hs hf hn (by rw [eval_put (by simp only [size_put]; omega), if_pos rfl])) ?_
      have hcell2 : w2.cell? ⟨ct, off + f.offset, none⟩ = some (.map (some cd)) := by
        rw [← hcell]
        exact World.cell?_of_block (w := w0) (by rw [g2, if_neg h4, hG.same _ h4 h5])
      refine wpOps_value hO.o73 (fun o ho => x_load ho hg (by rw [eval_put (by simp only [size_put]; omega), if_pos rfl]) hcell2) ?_
      refine wpOps_value hO.o74 (fun o ho => x_move (.inl ho)) ?_
      refine wpOps_value hO.o75 (fun o ho => x_move (.inl ho)) ?_
      simp (disch := ((try simp only [size_put]); omega)) only [eval_put, Nat.reduceEqDiff, if_false, if_true, q4, q5]
      have hds2 : w2.heap[cd]? = some (.map ds dc) := by rw [g2, if_neg (Ne.symm h2)]; exact hds
      have hzr := hZr z hz
      rw [hze] at hzr
      have hfind : Instr.findNow d e'.key ds.toList 0 = some none := by
        have hrel : entsRel r (D.map (·.1)) ds.toList := of_both (fun z' hz' => hZr z' (hG.all.mem_iff.1 (List.mem_append_left _ hz'))) hdk
        have hap' : keysApart ((D.map (·.1)) ++ (z.1.1, z.1.2.1, z.1.2.2) :: ((R1 ++ R2).map (·.1))) := by
          refine keysApart.perm ?_ hap
          have := (hall'.map (·.1))
          simp only [List.map_append, List.map_cons, List.map_nil, List.append_assoc, List.singleton_append] at this ⊢
          exact this
        have hno := hap'.beside
        obtain ⟨res', k1, k2⟩ := findKey_now0 hd (hkk z hz) hzr.1 hrel (findKey_not (i := 0) fun x hx => hno x (List.mem_append_left _ hx))
        cases res' with
        | none => exact k1
        | some q => exact k2.elim
      refine wpOps_skip hO.o76 (fun o ho => x_update (es := ds) (clock := dc) ho hu hud hd (by simp (disch := ((try simp only [size_put]); omega)) only [eval_put, Nat.reduceEqDiff, if_false, if_true]) hds2 (by simp (disch := ((try simp only [size_put]); omega)) only [eval_put, Nat.reduceEqDiff, if_false, if_true]; exact hfind)) ?_
      simp (disch := ((try simp only [size_put]); omega)) only [eval_put, Nat.reduceEqDiff, if_false, if_true]
      have hcdlt : cd < w2.heap.size := (Array.getElem?_eq_some_iff.1 hds2).1
      show Code.rounds P _ (Exit.inBlock 0 Q) (k + 1) _ _
      refine ih (D ++ [z]) (R1 ++ R2) _ _ (by simp only [List.length_append, List.length_cons] at hk ⊢; omega) ⟨hall', ?_, ⟨seen.push e'.born, clock, ?_, ?_, Nat.le_refl _⟩, ⟨_, _, ?_, hdst2.push e'.key e'.val, ?_⟩, ?_, ?_, ?_, ?_, ?_, ?_, ?_, ?_, ?_⟩
      · rw [setBlk_get hcdlt, if_neg h3, g2, if_neg (Ne.symm h1)]; exact hG.src
      · rw [setBlk_get hcdlt, if_neg h2, g2, if_pos rfl]
      · rw [Array.toList_push, hseen, ← hze]; simp
      · rw [setBlk_get hcdlt, if_pos rfl]
      · rw [Array.toList_push, List.map_append, hdk, ← hze]; simp
      · intro c hc1 hc2
        rw [setBlk_get hcdlt, if_neg hc2, g2, if_neg hc1]
        exact hG.same c hc1 hc2
      · simp only [AE.setBlk, Array.size_setIfInBounds]; exact hsz2.trans hG.size
      · exact hos2.trans hG.os
      · exact htp2.trans hG.tape
      · exact hout2.trans hG.output
      · show Act.eval (Act.put _ none undef) _ = _
        simp (disch := ((try simp only [size_put]); omega)) only [Act.put_none, eval_put, Nat.reduceEqDiff, if_false]
        exact q3
      · show Act.eval (Act.put _ none undef) _ = _
        simp (disch := ((try simp only [size_put]); omega)) only [Act.put_none, eval_put, Nat.reduceEqDiff, if_false]
        exact q29
      · show 42 ≤ (Act.put _ none undef).tmps.size
        simp only [Act.put_none, size_put]; exact qt
      · show (Act.put _ none undef).defers = []
        simp only [Act.put_none, defers_put]; exact qd

end Go.AE
end
-- A map copied entry by entry: the whole function, told.
section
set_option linter.unusedVariables false
set_option linter.unusedSimpArgs false
noncomputable section
namespace Go.AE
variable {P : Program} {E : Env}

def allKeys (kk : KeyKind) : List (AV × AV × Nat) → Bool
  | [] => true
  | (k, _, _) :: es => isKey kk k && allKeys kk es

/-- what a copy comes to: the machine's run as far as the loop; then all entries at once -/
def copyF (E : Env) (n F : Nat) (x y z : ACode) (kk : KeyKind) (fo : Nat) : CallF := fun f args H =>
  bif Nat.beq f F then
    match exec E n x (frameOf args 0 .nil) H with
    | some (.normal, a1, H1) => match exec E n y a1 H1 with
      | some (.normal, a2, H2) => match exec E n z a2 H2 with
        | some (.normal, a3, H3) => match a3.get 0, a3.get 3 with
          | some (.ptr (some (b, o))), some (.ptr (some (t, q))) => match H3.load b (o + fo), H3.load t (q + fo) with
            | some (.map (some m)), some (.map (some m')) => match H3.t.get m, H3.t.get m' with
              | some (.map es _), some (.map [] _) => bif !(Nat.beq m m') && allKeys kk es then some (.ptr (some (t, q)), { H3 with t := H3.t.set m' (.map es 0) }) else none
              | _, _ => none
            | _, _ => none
          | _, _ => none
        | _ => none
      | _ => none
    | _ => none
  else none

theorem allKeys_mem {kk : KeyKind} : ∀ {es : List (AV × AV × Nat)}, allKeys kk es = true → ∀ e ∈ es, isKey kk e.1 = true
  | [], _, e, h => nomatch h
  | (k, v, n) :: es, h, e, he => by
    simp only [allKeys, Bool.and_eq_true] at h
    rcases List.mem_cons.1 he with rfl | he
    · exact h.1
    · exact allKeys_mem h.2 e he

/-- the operations ahead of the loop, and behind it -/
structure CopyEnds (tM tT : TypeId) (A4 A8 : Array Oper) : Prop where
  n4 : A4.size = 5
  n8 : A8.size = 2
  o40 : OpAt A4 0 (.move (.tmp 0)) (some 25)
  o41 : OpAt A4 1 (.nilCheck (.tmp 25)) (some 26)
  o42 : OpAt A4 2 (.fieldAddr tT (.tmp 26) 1) (some 27)
  o43 : OpAt A4 3 (.load tM (.tmp 27)) (some 28)
  o44 : OpAt A4 4 (.range tM (.tmp 28)) (some 29)
  o80 : OpAt A8 0 (.move (.tmp 3)) (some 41)
  o81 : OpAt A8 1 (.assign (.tmp 41)) (some 2)

theorem copy_ok (hE : EnvOk P E) {n F : Nat} {fn : Func} {R0 I R3 : Code} {x y z : ACode} {tM tT kt e : TypeId} {d : TypeDesc} {kk : KeyKind} {fs : Array Field} {f : Field} {sz i4 i5 i6 i7 i8 : Nat} {A4 A5 A6 A7 A8 : Array Oper}
    (hf : P.funcs[F]? = some fn) (hname : (fn.name == "runtime.NumGoroutine") = false) (hnt : fn.ntmps = 42) (hres : fn.results = #[.tmp 2])
    (hb : fn.body = some (R0.seq (I.seq (R3.seq (((Code.region i4 A4 false).seq (Code.block 0 (Code.loop ((Code.region i5 A5 false).seq ((Code.cond (.tmp 31) Code.skip (Code.exit 0)).seq (Code.block 1 ((Code.region i6 A6 false).seq (Code.region i7 A7 false)))))))).seq ((Code.region i8 A8 false).seq Code.ret))))))
    (hx : cCode P 42 R0 = some x) (hy : cCode P 42 I = some y) (hz : cCode P 42 R3 = some z) (hO : CopyOps tM tT A5 A6 A7) (hO' : CopyEnds tM tT A4 A8)
    (hu : P.underlying tM = some (.map kt e)) (hud : P.underlying kt = some d) (hd : keyTy d kk) (hg : aggP P tM = some false) (hs : P.underlying tT = some (.struct fs)) (hfs : fs[1]? = some f) (hn : sizeP P f.type = some (sz + 1)) {fo : Nat} (hfo : f.offset = fo) :
    CallOk P (copyF E n F x y z kk fo) := by
  subst hfo
  intro f' args H v H' h
  unfold copyF at h
  cases hF : Nat.beq f' F with
  | false => rw [hF] at h; exact nomatch h
  | true =>
    obtain rfl := Nat.eq_of_beq_eq_true hF
    rw [hF, cond_true] at h
    split at h
    rotate_left
    · exact nomatch h
    rename_i a1 H1 e1
    split at h
    rotate_left
    · exact nomatch h
    rename_i a2 H2 e2
    split at h
    rotate_left
    · exact nomatch h
    rename_i a3 H3 e3
    split at h
    rotate_left
    · exact nomatch h
    rename_i b o t q h0 h3
    split at h
    rotate_left
    · exact nomatch h
    rename_i m m' l1 l2
    split at h
    rotate_left
    · exact nomatch h
    rename_i es cl1 cl2 hm hm'
    cases hk : (!(Nat.beq m m') && allKeys kk es) with
    | false => rw [hk] at h; exact nomatch h
    | true =>
      rw [hk, cond_true] at h
      simp only [Option.some.injEq, Prod.mk.injEq] at h
      obtain ⟨rfl, rfl⟩ := h
      simp only [Bool.and_eq_true, Bool.not_eq_true'] at hk
      obtain ⟨hmm, hkeys⟩ := hk
      have hmne : m ≠ m' := fun h => by rw [h, Nat.beq_refl] at hmm; exact nomatch hmm
      have hnx := (next_ok hE n).1
      have hn1 := hnx _ _ _ _ _ _ e1
      have hn2 := hnx _ _ _ _ _ _ e2
      have hn3 := hnx _ _ _ _ _ _ e3
      refine ⟨⟨fn, hf, hname, by rw [hb]; rfl⟩, by show H.next ≤ H3.next; omega, fun B r w args' hS hr => ?_⟩
      refine calls_of_wp hf hb ?_
      rw [hnt]
      have hx1 := exec_sound hE n B 42 R0 x hx r H w _ _ _ _ _ e1 hS (enter_rel hr 42)
      refine wp_seq (hx1.mono_w fun r1 a1' w1 s1 t1 k1 => ?_)
      have hx2 := exec_sound hE n B 42 I y hy r1 H1 w1 _ _ _ _ _ e2 s1 k1
      refine wp_seq (hx2.mono_w fun r2 a2' w2 s2 t2 k2 => ?_)
      have hx3 := exec_sound hE n B 42 R3 z hz r2 H2 w2 _ _ _ _ _ e3 s2 k2
      refine wp_seq (hx3.mono_w fun r3 a3' w3 s3 t3 k3 => ?_)
      have t03 : Step B H.next r w r3 w3 := t1.trans ((t2.weaken hn1).trans (t3.weaken (Nat.le_trans hn1 hn2)))
      clear hx1 hx2 hx3
      -- what stands in the frame and in the heap
      have g0 : ∃ ct0, a3'.eval (.tmp 0) = .pointer (some ⟨ct0, o, none⟩) ∧ r3.at b ct0 := by
        have := k3.rel 0
        rw [h0, Option.getD_some] at this
        exact rel_ptr this
      have g3 : ∃ ct, a3'.eval (.tmp 3) = .pointer (some ⟨ct, q, none⟩) ∧ r3.at t ct := by
        have := k3.rel 3
        rw [h3, Option.getD_some] at this
        exact rel_ptr this
      obtain ⟨cb, q0, hab⟩ := g0
      obtain ⟨ct, q3, hat⟩ := g3
      -- the maps, and the new table's cell
      have cellOf : ∀ {bb oo cc mm}, r3.at bb cc → H3.load bb oo = some (.map (some mm)) → ∃ cm, w3.cell? ⟨cc, oo, none⟩ = some (.map (some cm)) ∧ r3.at mm cm ∧ r3.m bb = some cc := by
        intro bb oo cc mm ha hl
        unfold Heap.load at hl
        split at hl
        · rename_i cs hcs
          obtain ⟨v', hc, hv⟩ := s3.cell ha hcs hl
          simp only [rel] at hv
          obtain ⟨cm, rfl, ham⟩ := hv
          refine ⟨cm, hc, ham, ?_⟩
          rcases ha with ha | ha
          · exact ha
          · have := (s3.dead bb ha).2
            simp only [Heap.cellsAt, this] at hcs
            exact nomatch hcs
        · exact nomatch hl
      obtain ⟨cs, hcellb, hacs, hmb⟩ := cellOf hab l1
      obtain ⟨cd, hcellt, hacd, hmt⟩ := cellOf hat l2
      obtain ⟨hmm1, es', clock, l, hcs, hperm, hent, hap, hst, hBs⟩ := s3.map hacs hm
      obtain ⟨hmm2, ds, dc, l0, hcd, hperm0, hent0, _, hst0, hBd⟩ := s3.map hacd hm'
      obtain rfl : l0 = [] := hperm0.eq_nil
      have hds : ds.toList = [] := by cases hde : ds.toList with
        | nil => rfl
        | cons a b => rw [hde] at hent0; exact nomatch hent0
      have hcscd : cs ≠ cd := fun h => hmne (s3.inj m m' cs hmm1 (h ▸ hmm2))
      have hctcd : ct ≠ cd := fun h => by
        have : t = m' := s3.inj t m' ct hmt (h ▸ hmm2)
        subst this
        unfold Heap.load Heap.cellsAt at l2
        rw [hm'] at l2
        exact nomatch l2
      have hcslt := s3.lt hmm1
      have hcdlt := s3.lt hmm2
      have hctlt := s3.lt hmt
      obtain ⟨Z, z1, z2, z3⟩ := both_of hent
      have tm := k3.size
      -- the operations ahead of the loop
      refine wp_seq (wp_seq (wp_region ?_))
      rw [hO'.n4]
      show wpOps P A4 _ [0, 1, 2, 3, 4] a3' w3
      refine wpOps_value hO'.o40 (fun o ho => x_move (.inl ho)) ?_
      rw [q0]
      refine wpOps_value hO'.o41 (fun o ho => x_nil ho (by rw [eval_put (by omega), if_pos rfl])) ?_
      refine wpOps_value hO'.o42 (fun o ho => x_field (n := sz) ho hs hfs hn (by rw [eval_put (by simp only [size_put]; omega), if_pos rfl])) ?_
      refine wpOps_value hO'.o43 (fun o ho => x_load ho hg (by rw [eval_put (by simp only [size_put]; omega), if_pos rfl]) hcellb) ?_
      refine wpOps_value hO'.o44 (fun o ho => x_range ho (by rw [eval_put (by simp only [size_put]; omega), if_pos rfl]) (run_range_map w3 tM kt e cs es' clock hu hcs)) ?_
      show Exit.then _ _ .normal _ _
      have galloc : ∀ (o : Obj) c, (w3.alloc o).heap[c]? = if c = w3.heap.size then some o else w3.heap[c]? := fun o c => by
        show (w3.heap.push o)[c]? = _
        rw [Array.getElem?_push]
      have hsz : (w3.alloc (.mapIter (some cs) clock #[] clock)).heap.size = w3.heap.size + 1 := by
        show (w3.heap.push _).size = _
        simp
      refine wp_block (unroll (n := Z.length + 1) ?_)
      refine copy_loop (r := r3) (w0 := w3.alloc (.mapIter (some cs) clock #[] clock)) (es := es') (clock := clock) (cs := cs) (it := w3.heap.size) (cd := cd) (ct := ct) (off := q) (Z := Z) (f := f) (n := sz) hO hu hud hd hg hs hfs hn z2 z3 (by rw [z1]; exact keysApart.perm hperm hap)
        (fun z hz => allKeys_mem hkeys z.1 (hperm.mem_iff.1 (by rw [← z1]; exact List.mem_map_of_mem hz))) hst (by omega) (by omega) hcscd (by omega) hctcd
        (by rw [← hcellt]; exact World.cell?_of_block (w := w3) (by rw [galloc, if_neg (by show ¬ ct = _; omega)])) ?_ Z.length [] Z _ _ rfl ?_
      · intro a4 w4 D hG
        have hperm4 : (D.map (·.1)).Perm es := by
          have := hG.all
          rw [List.append_nil] at this
          exact (this.map _).trans (by rw [z1]; exact hperm)
        obtain ⟨ds4, dc4, hds4, hst4, hdk4⟩ := hG.dst
        have hfr : ∀ c, c < w3.heap.size → c ≠ cd → w4.heap[c]? = w3.heap[c]? := fun c hc hne => by
          rw [hG.same c (by omega) hne, galloc, if_neg (by omega)]
        -- what is behind the loop
        have s4 : Sim B r3 { H3 with t := H3.t.set m' (.map es 0) } w4 := by
          refine ⟨?_, ?_, s3.inj, ?_, ?_⟩
          · rw [hG.size, hsz]; exact Nat.le_succ_of_le s3.low
          · intro b' c' hbc
            obtain ⟨p1, ⟨xx, oo, p2, p3, p4, p5⟩, p6⟩ := s3.live b' c' hbc
            by_cases hb' : m' = b'
            · subst hb'
              obtain rfl : cd = c' := by rw [hmm2] at hbc; exact Option.some.inj hbc
              exact ⟨p1, ⟨.map es 0, _, by simp only [T.get_set, if_true], hds4, ⟨ds4, dc4, _, rfl, hperm4, of_both (fun z' hz' => z3 z' (by have := hG.all; rw [List.append_nil] at this; exact this.mem_iff.1 hz')) hdk4, hap, hst4⟩, fun hlt => absurd hlt hBd⟩, p6⟩
            · have hne : c' ≠ cd := fun h => hb' (s3.inj m' b' cd hmm2 (h ▸ hbc))
              exact ⟨p1, ⟨xx, oo, by simp only [T.get_set, if_neg hb']; exact p2, by rw [hfr c' (s3.lt hbc) hne]; exact p3, p4, p5⟩, p6⟩
          · intro b' hb'
            obtain ⟨p1, p2⟩ := s3.dead b' hb'
            refine ⟨p1, ?_⟩
            have : m' ≠ b' := fun h => by rw [h, p2] at hm'; exact nomatch hm'
            simp only [T.get_set, if_neg this]
            exact p2
          · intro w' hw'
            refine s3.good w' fun c hc => ?_
            rw [hw' c hc]
            have := s3.low
            exact hfr c (by omega) (fun h => hBd (h ▸ hc))
        have t4 : Step B H.next r w r3 w4 := by
          refine t03.trans ⟨.refl r3, fun b' _ h => .inl ⟨b', h⟩, fun _ _ h1 h2 => ⟨h1, h2⟩, hG.os, hG.tape, hG.output, by rw [hG.size, hsz]; omega, fun c hc hm0 => ?_⟩
          exact hfr c hc fun h => hBd (hm0 m' (h ▸ hmm2) |> fun h2 => h ▸ h2)
        show Exit.then _ _ .normal _ _
        have r3' := hG.r3
        have tm4 := hG.tm
        refine wp_seq (wp_region ?_)
        rw [hO'.n8]
        show wpOps P A8 _ [0, 1] a4 w4
        refine wpOps_value hO'.o80 (fun o ho => x_move (.inl ho)) ?_
        rw [r3']
        refine wpOps_value hO'.o81 (fun o ho => x_move (.inr ho)) ?_
        rw [eval_put (by omega), if_pos rfl]
        show Code.wp P _ _ _ _
        refine wp_ret ?_
        refine ⟨by rw [defers_put, defers_put]; exact hG.defers, .pointer (some ⟨ct, q, none⟩), ?_, r3, .pointer (some ⟨ct, q, none⟩), rfl, s4, t4, by simp only [rel]; exact ⟨ct, rfl, hat⟩⟩
        have e2 : (((a4.put (some 41) (.pointer (some ⟨ct, q, none⟩))).put (some 2) (.pointer (some ⟨ct, q, none⟩))).tmps.getD 2 undef) = .pointer (some ⟨ct, q, none⟩) := by
          have := eval_put (a := a4.put (some 41) (.pointer (some ⟨ct, q, none⟩))) (d := 2) (v := .pointer (some ⟨ct, q, none⟩)) (by simp only [size_put]; omega) 2
          rw [if_pos rfl] at this
          exact this
        rw [Array.getD_eq_getD_getElem?] at e2
        unfold results
        rw [hres]
        simp [e2]
      · refine ⟨by simp, ?_, ⟨#[], clock, ?_, rfl, Nat.le_refl _⟩, ⟨ds, dc, ?_, hst0, by rw [hds]; rfl⟩, fun _ _ _ => rfl, rfl, rfl, rfl, rfl, ?_, ?_, ?_, ?_⟩
        · rw [galloc, if_neg (by omega)]; exact hcs
        · rw [galloc, if_pos rfl]
        · rw [galloc, if_neg (by omega)]; exact hcd
        · simp (disch := ((try simp only [size_put]); omega)) only [eval_put, Nat.reduceEqDiff, if_false]
          exact q3
        · simp (disch := ((try simp only [size_put]); omega)) only [eval_put, Nat.reduceEqDiff, if_true]
        · simp only [size_put]; exact tm
        · simp only [defers_put]; exact k3.defers

end Go.AE
end
-- A text in its leaves: so many of them run at once.
section
set_option linter.unusedVariables false
noncomputable section
namespace Go.AE
variable {E : Env}

def leaves : ACode → List ACode
  | .seq x y => leaves x ++ leaves y
  | c => [c]

/-- leaves, one behind the other -/
def Wl (E : Env) : List ACode → Frm → Heap → (AExit → Frm → Heap → Prop) → Prop
  | [], a, H, Q => Q .normal a H
  | c :: cs, a, H, Q => W E c a H (fun x a H => match x with | .normal => Wl E cs a H Q | x => Q x a H)

theorem Wl.append {Q : AExit → Frm → Heap → Prop} : ∀ {x y : List ACode} {a : Frm} {H : Heap}, Wl E x a H (fun e a H => match e with | .normal => Wl E y a H Q | e => Q e a H) → Wl E (x ++ y) a H Q
  | [], _, _, _, h => h
  | c :: cs, y, a, H, h => by
    refine W.mono h fun e a' H' hq => ?_
    cases e with
    | normal => exact Wl.append hq
    | exit id => exact hq
    | ret => exact hq

theorem Wl.mono {Q R : AExit → Frm → Heap → Prop} (hq : ∀ x a H, Q x a H → R x a H) : ∀ {l : List ACode} {a : Frm} {H : Heap}, Wl E l a H Q → Wl E l a H R
  | [], _, _, h => hq _ _ _ h
  | c :: cs, a, H, h => by
    refine W.mono h fun e a' H' hh => ?_
    cases e with
    | normal => exact Wl.mono hq hh
    | exit id => exact hq _ _ _ hh
    | ret => exact hq _ _ _ hh

theorem Wl.split {Q : AExit → Frm → Heap → Prop} : ∀ {x y : List ACode} {a : Frm} {H : Heap}, Wl E (x ++ y) a H Q → Wl E x a H (fun e a H => match e with | .normal => Wl E y a H Q | e => Q e a H)
  | [], _, _, _, h => h
  | c :: cs, y, a, H, h => by
    refine W.mono h fun e a' H' hq => ?_
    cases e with
    | normal => exact Wl.split hq
    | exit id => exact hq
    | ret => exact hq

theorem W.leaves : ∀ (c : ACode) {a : Frm} {H : Heap} {Q : AExit → Frm → Heap → Prop}, Wl E (leaves c) a H Q → W E c a H Q
  | .seq x y, a, H, Q, h => by
    refine W.seq (W.leaves x ?_)
    refine Wl.mono (fun e a H hq => ?_) (Wl.split h)
    cases e with
    | normal => exact W.leaves y hq
    | exit id => exact hq
    | ret => exact hq
  | .skip, a, H, Q, h | .ret, a, H, Q, h | .exit id, a, H, Q, h | .cond k x y, a, H, Q, h | .block id x, a, H, Q, h | .loop x, a, H, Q, h | .region ops, a, H, Q, h | .draw d, a, H, Q, h =>
    W.mono h fun e a' H' hq => by
      cases e with
      | normal => exact hq
      | exit id => exact hq
      | ret => exact hq

/-- leaves run, each to its end -/
def execs (E : Env) (n : Nat) : List ACode → Frm → Heap → Option (Frm × Heap)
  | [], a, H => some (a, H)
  | c :: cs, a, H => match execF E n c a H with
    | some (.normal, a', H') => execs E n cs a' H'
    | _ => none

theorem Wl.ran {Q : AExit → Frm → Heap → Prop} {n : Nat} : ∀ {x y : List ACode} {a a' : Frm} {H H' : Heap}, execs E n x a H = some (a', H') → Wl E y a' H' Q → Wl E (x ++ y) a H Q
  | [], y, a, a', H, H', h, q => by
    simp only [execs, Option.some.injEq, Prod.mk.injEq] at h
    obtain ⟨rfl, rfl⟩ := h
    exact q
  | c :: cs, y, a, a', H, H', h, q => by
    unfold execs at h
    split at h
    · rename_i a1 H1 h1
      rw [execF_eq] at h1
      exact W.ran n h1 (Wl.ran h q)
    · exact nomatch h

/-- the first leaves of a list, run -/
theorem Wl.first {Q : AExit → Frm → Heap → Prop} (n k : Nat) {l : List ACode} {a a' : Frm} {H H' : Heap} (h : execs E n (l.take k) a H = some (a', H')) (q : Wl E (l.drop k) a' H' Q) : Wl E l a H Q := by
  have := Wl.ran h q
  rwa [List.take_append_drop] at this

end Go.AE
end
-- A call that leaves what was there as it was, and points to nothing new: what it made is left aside.
section
set_option linter.unusedVariables false
noncomputable section
namespace Go.AE

/-- a renaming of the blocks below a number -/
def Ren.low (r : Ren) (N : Nat) : Ren := ⟨fun b => if b < N then r.m b else .none, fun b => b < N ∧ r.dead b, r.sz⟩

theorem Ren.at.low {r : Ren} {N b c : Nat} (h : r.at b c) (hb : b < N) : (r.low N).at b c := by
  rcases h with h | h
  · exact .inl (by simp only [Ren.low, hb, if_true]; exact h)
  · exact .inr ⟨hb, h⟩
theorem capOk.low {r : Ren} {N b l o c : Nat} {k : ACap} (h : capOk r b l o c k) (hb : b < N) : capOk (r.low N) b l o c k := by
  cases k with
  | known n => exact h
  | unk n => exact ⟨h.1, h.2.imp (fun h => ⟨hb, h⟩) id⟩

mutual
theorem rel_low {r r' : Ren} {N : Nat} (hN : ∀ b c, r.at b c → b < N) : ∀ (x : AV) (v0 v : Value), rel r x v0 → rel r' x v → rel (r'.low N) x v
  | .bool b, _, v, _, k => by simpa only [rel] using k
  | .int i n, _, v, _, k => by simpa only [rel] using k
  | .str s, _, v, _, k => by simpa only [rel] using k
  | .ptr none, _, v, _, k => by simpa only [rel] using k
  | .ptr (some (b, o)), _, v, k0, k => by
    simp only [rel] at k0 k ⊢
    obtain ⟨b0, _, h0⟩ := k0
    obtain ⟨b', h1, h2⟩ := k
    exact ⟨b', h1, h2.low (hN _ _ h0)⟩
  | .slice none l c, _, v, _, k => by simpa only [rel] using k
  | .slice (some (b, o)) l c, _, v, k0, k => by
    simp only [rel] at k0 k ⊢
    obtain ⟨b0, _, _, _, h0, _⟩ := k0
    obtain ⟨b', o', c', h1, h2, h3, h4⟩ := k
    exact ⟨b', o', c', h1, h2.low (hN _ _ h0), h3.low (hN _ _ h0), h4⟩
  | .map none, _, v, _, k => by simpa only [rel] using k
  | .map (some b), _, v, k0, k => by
    simp only [rel] at k0 k ⊢
    obtain ⟨b0, _, h0⟩ := k0
    obtain ⟨b', h1, h2⟩ := k
    exact ⟨b', h1, h2.low (hN _ _ h0)⟩
  | .func fn f c, _, v, k0, k => by
    simp only [rel] at k0 k ⊢
    obtain ⟨_, _, _, p1, p2⟩ := k0
    obtain ⟨f', c', h1, h2, h3⟩ := k
    exact ⟨f', c', h1, rels_low hN f _ _ p1 h2, rels_low hN c _ _ p2 h3⟩
  | .nilFunc, _, v, _, k => by simpa only [rel] using k
  | .iface t x, _, v, k0, k => by
    simp only [rel] at k0 k ⊢
    obtain ⟨_, _, p⟩ := k0
    obtain ⟨x', h1, h2⟩ := k
    exact ⟨x', h1, rel_low hN x _ _ p h2⟩
  | .nilIface, _, v, _, k => by simpa only [rel] using k
  | .agg cs, _, v, k0, k => by
    simp only [rel] at k0 k ⊢
    obtain ⟨_, _, p⟩ := k0
    obtain ⟨cs', h1, h2⟩ := k
    exact ⟨cs', h1, rels_low hN cs _ _ p h2⟩
  | .tuple cs, _, v, k0, k => by
    simp only [rel] at k0 k ⊢
    obtain ⟨_, _, p⟩ := k0
    obtain ⟨cs', h1, h2⟩ := k
    exact ⟨cs', h1, rels_low hN cs _ _ p h2⟩
theorem rels_low {r r' : Ren} {N : Nat} (hN : ∀ b c, r.at b c → b < N) : ∀ (x : List AV) (v0 v : List Value), rels r x v0 → rels r' x v → rels (r'.low N) x v
  | [], _, v, _, k => by simpa only [rels] using k
  | x :: xs, _, v, k0, k => by
    simp only [rels] at k0 k ⊢
    obtain ⟨_, _, _, p1, p2⟩ := k0
    obtain ⟨y, ys, h1, h2, h3⟩ := k
    exact ⟨y, ys, h1, rel_low hN x _ _ p1 h2, rels_low hN xs _ _ p2 h3⟩
end

theorem entsRel.each {r : Ren} {l : List (AV × AV × Nat)} {l' : List MapEntry} (h : entsRel r l l') : ∀ e ∈ l, (∃ v, rel r e.1 v) ∧ ∃ v, rel r e.2.1 v := by
  induction h with
  | nil => intro e he; exact nomatch he
  | cons h1 h2 _ ih =>
    intro e he
    rcases List.mem_cons.1 he with rfl | he
    · exact ⟨⟨_, h1⟩, ⟨_, h2⟩⟩
    · exact ih e he

theorem entsRel.low {r r' : Ren} {N : Nat} (hN : ∀ b c, r.at b c → b < N) {l : List (AV × AV × Nat)} {l' : List MapEntry} (h : entsRel r' l l') (k : ∀ e ∈ l, (∃ v, rel r e.1 v) ∧ ∃ v, rel r e.2.1 v) : entsRel (r'.low N) l l' := by
  induction h with
  | nil => exact .nil
  | cons h1 h2 _ ih =>
    obtain ⟨⟨_, p1⟩, ⟨_, p2⟩⟩ := k _ (List.mem_cons_self ..)
    exact .cons (rel_low hN _ _ _ p1 h1) (rel_low hN _ _ _ p2 h2) (ih fun e he => k e (List.mem_cons_of_mem _ he))

theorem blkRel.low {r r' : Ren} {N : Nat} (hN : ∀ b c, r.at b c → b < N) {b : Nat} {x : ABlk} {o0 o : Obj} (h0 : blkRel r b x o0) (h : blkRel r' b x o) : blkRel (r'.low N) b x o := by
  cases x with
  | cells cs e opn ro =>
    obtain ⟨_, _, _, _, _, ⟨l0, _, p⟩, _⟩ := h0
    obtain ⟨cs', fr, rest, h1, h2, ⟨l, h3, h4⟩, h5⟩ := h
    exact ⟨cs', fr, rest, h1, h2, ⟨l, h3, rels_low hN _ _ _ p h4⟩, h5⟩
  | map es clock =>
    obtain ⟨_, _, l0, _, p1, p2, _⟩ := h0
    obtain ⟨es', cl, l, h1, h2, h3, h4, h5⟩ := h
    exact ⟨es', cl, l, h1, h2, h3.low hN fun e he => p2.each e (p1.mem_iff.2 (h2.mem_iff.1 he)), h4, h5⟩

theorem drop_ok {P : Program} {call : CallF} (hc : CallOk P call) {f : Nat} {args : List AV} {v : AV} {H H' : Heap} (h : call f args H = some (v, H')) (hold : ∀ b, b < H.next → H'.t.get b = H.t.get b) (hv : AV.flat v = true) :
    (∃ fn, P.funcs[f]? = some fn ∧ (fn.name == "runtime.NumGoroutine") = false ∧ fn.body.isNone = false) ∧ H.next ≤ H.next ∧
    ∀ B r w (args' : Array Value), Sim B r H w → rels r args args'.toList → Calls P f args' w (fun e w' => ∃ r' v', e = .returned v' ∧ Sim B r' H w' ∧ Step B H.next r w r' w' ∧ rel r' v v') := by
  obtain ⟨g1, g2, g3⟩ := hc f args H v H' h
  refine ⟨g1, Nat.le_refl _, fun B r w args' hS hr => (g3 B r w args' hS hr).mono fun e w' he => ?_⟩
  obtain ⟨r', v', rfl, hS', hT, hv'⟩ := he
  have hN : ∀ b c, r.at b c → b < H.next := fun b c h => by
    rcases h with h | h
    · exact (hS.live b c h).1
    · exact (hS.dead b h).1
  refine ⟨r'.low H.next, v', rfl, ?_, ?_, rel_flat _ _ hv hv'⟩
  · refine ⟨hS'.low, fun b c hm => ?_, fun b b' c h1 h2 => ?_, fun b hd => ?_, hS'.good⟩
    · simp only [Ren.low] at hm
      by_cases hb : b < H.next
      · rw [if_pos hb] at hm
        obtain ⟨p1, ⟨x, o, p2, p3, p4, p5⟩, p6⟩ := hS'.live b c hm
        rw [hold b hb] at p2
        have hr0 : ∃ c0, r.m b = some c0 := by
          cases hrb : r.m b with
          | some c0 => exact ⟨c0, rfl⟩
          | none =>
            by_cases hd : r.dead b
            · exact absurd (hT.le.dead b hd) p6
            · rw [(hT.unborn b hb hrb hd).1] at hm; exact nomatch hm
        obtain ⟨c0, hr0⟩ := hr0
        obtain ⟨_, ⟨x0, o0, q2, _, q4, _⟩, _⟩ := hS.live b c0 hr0
        obtain rfl : x0 = x := by rw [p2] at q2; exact (Option.some.inj q2).symm
        exact ⟨hb, ⟨x0, o, p2, p3, q4.low hN p4, p5⟩, fun hd => p6 hd.2⟩
      · rw [if_neg hb] at hm; exact nomatch hm
    · simp only [Ren.low] at h1 h2
      by_cases hb : b < H.next
      · by_cases hb' : b' < H.next
        · rw [if_pos hb] at h1
          rw [if_pos hb'] at h2
          exact hS'.inj b b' c h1 h2
        · rw [if_neg hb'] at h2; exact nomatch h2
      · rw [if_neg hb] at h1; exact nomatch h1
    · exact ⟨hd.1, by rw [← hold b hd.1]; exact (hS'.dead b hd.2).2⟩
  · refine ⟨⟨fun b hd => ⟨(hS.dead b hd).1, hT.le.dead b hd⟩, fun b c hm => ?_⟩, fun b c hm => ?_, fun b hb h1 h2 => ?_, hT.os, hT.tape, hT.output, hT.size, hT.frame⟩
    · have hb := (hS.live b c hm).1
      rcases hT.le.live b c hm with ⟨p1, p2⟩ | p
      · exact .inl ⟨by simp only [Ren.low, hb, if_true]; exact p1, p2⟩
      · exact .inr ⟨hb, p⟩
    · simp only [Ren.low] at hm
      by_cases hb : b < H.next
      · rw [if_pos hb] at hm; exact hT.img b c hm
      · rw [if_neg hb] at hm; exact nomatch hm
    · obtain ⟨p1, p2⟩ := hT.unborn b hb h1 h2
      exact ⟨by simp only [Ren.low, hb, if_true]; exact p1, fun hd => p2 hd.2⟩

end Go.AE
end
