/- The same machine, told so that the kernel runs it faster. -/
import Derived.Test.YtdpnbpocjdooeaaMachineC
set_option linter.unusedVariables false
set_option linter.unusedSimpArgs false
section
set_option linter.unusedVariables false
namespace Go.AE

def rdF : AOp → Frm → Heap → Option AV
  | .mov x => fun a _ => some (evalX a x)
  | .pick c x y => fun a H => match evalX a c with
    | .bool b => some (bif b then evalX a x else evalX a y)
    | _ => none
  | .build zero parts => fun a H => match fillA zero (parts.map fun (o, n, x) => (o, n, evalX a x)) with
    | some cs => some (.agg cs)
    | none => none
  | .load1 x => fun a H => match evalX a x with
    | .ptr (some (b, o)) => H.load b o
    | _ => none
  | .loadN n x => fun a H => match evalX a x with
    | .ptr (some (b, o)) => match H.loadN b o n with
      | some l => some (.agg l)
      | none => none
    | _ => none
  | .nilCheck x => fun a H => match evalX a x with
    | .ptr (some p) => some (.ptr (some p))
    | .iface t v => some (.iface t v)
    | .func (.func f) x y => some (.func (.func f) x y)
    | _ => none
  | .ibin op x y => fun a H => ibin op (evalX a x) (evalX a y)
  | .sbin op x y => fun a H => sbin op (evalX a x) (evalX a y)
  | .eqv neg kind x y => fun a H => match eqv kind (evalX a x) (evalX a y) with
    | some b => some (.bool (bif neg then !b else b))
    | none => none
  | .un op x => fun a H => unop op (evalX a x)
  | .convInt k x => fun a H => match evalX a x with
    | .int _ n => some (.int k (wrapK k n))
    | _ => none
  | .strToStr x => fun a H => match evalX a x with
    | .str s => some (.str s)
    | _ => none
  | .bytesToStr x => fun a H => match evalX a x with
    | .slice none _ _ => some (.str [])
    | .slice (some (b, o)) l _ => match l with
      | 0 => some (.str [])
      | l + 1 => match H.loadN b o (l + 1) with
        | some cs => match bytesOf cs with
          | some s => some (.str s)
          | none => none
        | none => none
    | _ => none
  | .arrPtr n x => fun a H => match evalX a x with
    | .slice (some p) l _ => bif Nat.ble (Nat.succ 0) n && Nat.ble n l then some (.ptr (some p)) else none
    | _ => none
  | .mkIface t x => fun a H => some (.iface t (evalX a x))
  | .mkFunc fn first captured => fun a H => some (.func fn (first.map (evalX a)) (captured.map (evalX a)))
  | .sliceStr x lo hi => fun a H => match evalX a x with
    | .str s => match bounds a s.length s.length lo hi none with
      | some (l, h, _) => some (.str ((s.take h).drop l))
      | none => none
    | _ => none
  | .sliceSl size x lo hi mx => fun a H => match evalX a x with
    | .slice p len (.known cap) => match bounds a len cap lo hi mx with
      | some (l, h, m) => some (.slice (bif Nat.beq m l then p else match p with | some (b, o) => some (b, o + l * size) | none => none) (h - l) (.known (m - l)))
      | none => none
    | .slice (some (b, o)) len (.unk s) => bif Nat.beq s size then
        match mx, bounds a len len lo hi mx with
        | none, some (l, h, _) => some (.slice (some (b, o + l * size)) (h - l) (.unk s))
        | some _, some (0, h, m) => some (.slice (some (b, o)) h (.known m))
        | _, _ => none
      else none
    | _ => none
  | .sliceArr n size x lo hi mx => fun a H => match evalX a x with
    | .ptr (some (b, o)) => match bounds a n n lo hi mx with
      | some (l, h, m) => some (.slice (some (b, bif Nat.beq m l then o else o + l * size)) (h - l) (.known (m - l)))
      | none => none
    | _ => none
  | .fieldAddr off x => fun a H => match evalX a x with
    | .ptr (some (b, o)) => some (.ptr (some (b, o + off)))
    | _ => none
  | .part off x => fun a H => match evalX a x with
    | .agg cs => cs[off]?
    | _ => none
  | .partN off n x => fun a H => match evalX a x with
    | .agg cs => match grab n off cs with
      | some l => some (.agg l)
      | none => none
    | _ => none
  | .indexArr n size x i => fun a H => match evalX a x, natOf (evalX a i) with
    | .ptr (some (b, o)), some i => bif Nat.ble (Nat.succ i) n then some (.ptr (some (b, o + i * size))) else none
    | _, _ => none
  | .indexSl size x i => fun a H => match evalX a x, natOf (evalX a i) with
    | .slice (some (b, o)) len _, some i => bif Nat.ble (Nat.succ i) len then some (.ptr (some (b, o + i * size))) else none
    | _, _ => none
  | .indexVal n size x i => fun a H => match evalX a x, natOf (evalX a i) with
    | .agg cs, some i => bif Nat.ble (Nat.succ i) n then cs[i * size]? else none
    | _, _ => none
  | .indexValN n size x i => fun a H => match evalX a x, natOf (evalX a i) with
    | .agg cs, some i => bif Nat.ble (Nat.succ i) n then (match grab size (i * size) cs with | some l => some (.agg l) | none => none) else none
    | _, _ => none
  | .indexStr x i => fun a H => match evalX a x, natOf (evalX a i) with
    | .str s, some i => match s[i]? with
      | some b => some (.int .u8 (.ofNat b.toNat))
      | none => none
    | _, _ => none
  | .lookup kk zero ok m k => fun a H =>
    let key := evalX a k
    bif isKey kk key then
      match (match evalX a m with
        | .map none => some []
        | .map (some b) => (match H.t.get b with | some (.map es _) => some es | _ => none)
        | _ => none) with
      | some es => match findKey key es 0 with
        | some (some (_, v)) => some (bif ok then .tuple [v, .bool true] else v)
        | some none => some (bif ok then .tuple [zero, .bool false] else zero)
        | none => none
      | none => none
    else none
  | .assert t zero ok x => fun a H => match evalX a x with
    | .iface t' v => bif Nat.beq t' t then some (bif ok then .tuple [v, .bool true] else v)
      else bif ok then some (.tuple [zero, .bool false]) else none
    | .nilIface => bif ok then some (.tuple [zero, .bool false]) else none
    | _ => none
  | .extract i x => fun a H => match evalX a x with
    | .tuple vs => vs[i]?
    | _ => none
  | .lenStr x => fun a H => match evalX a x with
    | .str s => some (.int .i64 (.ofNat s.length))
    | _ => none
  | .lenArr n => fun a H => some (.int .i64 (.ofNat n))
  | .lenSl x => fun a H => match evalX a x with
    | .slice _ n _ => some (.int .i64 (.ofNat n))
    | _ => none
  | .lenMap x => fun a H => match evalX a x with
    | .map none => some (.int .i64 (.ofNat 0))
    | .map (some b) => match H.t.get b with
      | some (.map es _) => some (.int .i64 (.ofNat es.length))
      | _ => none
    | _ => none
  | .minI xs => fun a H => match xs.map (evalX a) with
    | v :: rest => minI2 v rest
    | [] => none
  | .maxI xs => fun a H => match xs.map (evalX a) with
    | v :: rest => maxI2 v rest
    | [] => none
  | _ => fun a H => none

def alF : AOp → Frm → Option (ABlk × (Nat → AV))
  | .alloc elem zero => fun a => some (.cells zero elem false false, fun i => .ptr (some (i, 0)))
  | .box elem x => fun a => some (.cells (evalX a x).cells elem false false, fun i => .ptr (some (i, 0)))
  | .buildSlice elem zeros len parts => fun a => match fillA zeros (parts.map fun (o, n, x) => (o, n, evalX a x)) with
    | some cs => some (.cells cs elem false false, fun i => .slice (some (i, 0)) len (.known len))
    | none => none
  | .strToBytes elem x => fun a => match evalX a x with
    | .str s => some (.cells (ofBytes s) elem true false, fun i => .slice (some (i, 0)) s.length (.unk 1))
    | _ => none
  | .makeSlice elem bytes zero l c => fun a => match natOf (evalX a l), natOf (evalX a c) with
    | some l, some c => bif Nat.ble l c && Nat.ble (c * bytes) 281474976710656 && Nat.ble c 9223372036854775807 then
        some (.cells (repl c zero) elem false false, fun i => .slice (some (i, 0)) l (.known c))
      else none
    | _, _ => none
  | .makeMap hint => fun a => match hint with
    | none => some (.map [] 0, fun i => .map (some i))
    | some x => match evalX a x with
      | .int _ _ => some (.map [] 0, fun i => .map (some i))
      | _ => none
  | _ => fun a => none

def wrF (ms : Methods) (call : CallF) : AOp → Frm → Heap → Option (AV × Heap)
  | .store n p x => fun a H => match evalX a p with
    | .ptr (some (b, o)) =>
      let cs := (evalX a x).cells
      bif Nat.beq cs.length n then
        match H.store b o cs with
        | some H' => some (aundef, H')
        | none => none
      else none
    | _ => none
  | .append elem size bytes s x => fun a H => appendA elem size bytes H (evalX a s) (evalX a x)
  | .copy size d s => fun a H => match evalX a d, lenOfA (evalX a s) with
    | .slice base dl _, some sl =>
      let n := bif Nat.ble sl dl then sl else dl
      match n, base with
      | 0, _ => some (.int .i64 (.ofNat 0), H)
      | n + 1, some (b, o) => match source size H (n + 1) (evalX a s) with
        | some cs => match H.store b o cs with
          | some H' => some (.int .i64 (.ofNat (n + 1)), H')
          | none => none
        | none => none
      | _, none => none
    | _, _ => none
  | .mapUpdate kk m k v => fun a H => match evalX a m with
    | .map (some b) => match H.t.get b with
      | some (.map es clock) =>
        let key := evalX a k
        bif isKey kk key then
          match findKey key es 0 with
          | some (some (i, _)) => some (aundef, { H with t := H.t.set b (.map (modAt (fun e => (key, evalX a v, e.2.2)) es i) clock) })
          | some none => some (aundef, { H with t := H.t.set b (.map (es ++ [(key, evalX a v, clock)]) (Nat.succ clock)) })
          | none => none
        else none
      | _ => none
    | _ => none
  | .delete kk m k => fun a H => match evalX a m with
    | .map none => bif isKey kk (evalX a k) then some (.tuple [], H) else none
    | .map (some b) => match H.t.get b with
      | some (.map es clock) =>
        bif isKey kk (evalX a k) then
          match findKey (evalX a k) es 0 with
          | some (some (i, _)) => some (.tuple [], { H with t := H.t.set b (.map (es.eraseIdx i) clock) })
          | some none => some (.tuple [], { H with t := H.t.set b (.map es clock) })
          | none => none
        else none
      | _ => none
    | _ => none
  | .call f args => fun a H => match evalX a f with
    | .func (.func g) first captured => call g (first ++ args.map (evalX a) ++ captured) H
    | _ => none
  | .callM recv name args => fun a H => match evalX a recv with
    | .iface t v => match findM ms t name with
      | some g => call g (v :: args.map (evalX a)) H
      | none => none
    | _ => none
  | _ => fun a H => none

theorem rdF_eq (op : AOp) (a : Frm) (H : Heap) : rdF op a H = rd op a H := by cases op <;> rfl
theorem alF_eq (op : AOp) (a : Frm) : alF op a = al op a := by cases op <;> rfl
theorem wrF_eq (ms : Methods) (call : CallF) (op : AOp) (a : Frm) (H : Heap) : wrF ms call op a H = wr ms call op a H := by cases op <;> rfl

def rdStep (op : AOp) (a : Frm) (H : Heap) : Option (AV × Heap) :=
  match rdF op a H with
  | some v => some (v, H)
  | none => none

def alStep (op : AOp) (a : Frm) (H : Heap) : Option (AV × Heap) :=
  match alF op a with
  | some (x, f) => some (f H.next, H.push x)
  | none => none

def stepF (ms : Methods) (call : CallF) (op : AOp) : Frm → Heap → Option (AV × Heap) :=
  match kindOf op with
  | .rd => rdStep op
  | .al => alStep op
  | .wr => wrF ms call op

theorem stepF_eq (ms : Methods) (call : CallF) (op : AOp) (a : Frm) (H : Heap) : stepF ms call op a H = stepOp ms call op a H := by
  unfold stepF stepOp
  cases kindOf op
  · simp only [rdStep, rdF_eq]
    cases rd op a H <;> rfl
  · simp only [alStep, alF_eq]
    cases al op a <;> rfl
  · simp only [wrF_eq]

def opF (all : List AOper) (dst : Option Nat) (g : Option (Nat × Bool)) (st : Frm → Heap → Option (AV × Heap)) (k : Frm → Heap → Option (Frm × Heap)) (a : Frm) (H : Heap) : Option (Frm × Heap) :=
  bif wantedA all a g then
    match st a H with
    | some (v, H') => k (put a dst v) H'
    | none => none
  else k (put a dst aundef) H

def opF1 (ms : Methods) (call : CallF) (all : List AOper) (o : AOper) (k : Frm → Heap → Option (Frm × Heap)) : Frm → Heap → Option (Frm × Heap) :=
  match o with
  | ⟨dst, op, g⟩ => opF all dst g (stepF ms call op) k

noncomputable def runOpsF (ms : Methods) (call : CallF) (all : List AOper) (l : List AOper) : Frm → Heap → Option (Frm × Heap) :=
  List.rec (motive := fun _ => Frm → Heap → Option (Frm × Heap)) (fun a H => some (a, H)) (fun o _ ih => opF1 ms call all o ih) l

theorem runOpsF_eq (ms : Methods) (call : CallF) (all : List AOper) : ∀ (l : List AOper) (a : Frm) (H : Heap), runOpsF ms call all l a H = runOps ms call all l a H
  | [], a, H => rfl
  | ⟨dst, op, g⟩ :: os, a, H => by
    have e : runOpsF ms call all (⟨dst, op, g⟩ :: os) a H = opF all dst g (stepF ms call op) (runOpsF ms call all os) a H := rfl
    rw [e]
    unfold opF
    simp only [runOps, stepF_eq, runOpsF_eq ms call all os]
    cases wantedA all a g with
    | false => rfl
    | true => simp only [cond_true]; cases stepOp ms call op a H <;> rfl

abbrev Res := Option (AExit × Frm × Heap)

def seqF (x y : Frm → Heap → Res) (a : Frm) (H : Heap) : Res :=
  match x a H with
  | some (.normal, a', H') => y a' H'
  | r => r

def condF (c : AX) (x y : Frm → Heap → Res) (a : Frm) (H : Heap) : Res :=
  match evalX a c with
  | .bool b => bif b then x a H else y a H
  | _ => none

def blockF (id : Nat) (x : Frm → Heap → Res) (a : Frm) (H : Heap) : Res :=
  match x a H with
  | some (.exit id', a', H') => some (bif Nat.beq id' id then .normal else .exit id', a', H')
  | r => r

def regionF (x : Frm → Heap → Option (Frm × Heap)) (a : Frm) (H : Heap) : Res :=
  match x a H with
  | some (a', H') => some (.normal, a', H')
  | none => none

def callBody (ih : ACode → Frm → Heap → Res) (code : ACode) (results : List ARes) (args : List AV) (H : Heap) : Option (AV × Heap) :=
  match ih code (frameOf args 0 .nil) H with
  | some (.normal, a', H') | some (.ret, a', H') => match resultsOf a' H' results with
    | some vs => some (oneOf vs, H')
    | none => none
  | _ => none

def callFn (ih : ACode → Frm → Heap → Res) (fn : Option AFunc) (args : List AV) (H : Heap) : Option (AV × Heap) :=
  match fn with
  | none => none
  | some ⟨code, results⟩ => callBody ih code results args H

def callF (E : Env) (ih : ACode → Frm → Heap → Res) (f : Nat) (args : List AV) (H : Heap) : Option (AV × Heap) :=
  match E.sums f args H with
  | some r => some r
  | none => callFn ih (E.funcs f) args H

noncomputable def codeF (E : Env) (ih : ACode → Frm → Heap → Res) (c : ACode) : Frm → Heap → Res :=
  match c with
  | .skip => fun a H => some (.normal, a, H)
  | .ret => fun a H => some (.ret, a, H)
  | .exit id => fun a H => some (.exit id, a, H)
  | .seq x y => seqF (ih x) (ih y)
  | .cond c x y => condF c (ih x) (ih y)
  | .block id x => blockF id (ih x)
  | .loop x => seqF (ih x) (ih (.loop x))
  | .region ops => regionF (runOpsF E.ms (callF E ih) ops ops)
  | .draw d => regionF (runDraw E.ms (callF E ih) d)

noncomputable def execF (E : Env) (n : Nat) : ACode → Frm → Heap → Res :=
  Nat.rec (motive := fun _ => ACode → Frm → Heap → Res) (fun _ _ _ => none) (fun _ ih => codeF E ih) n

theorem callF_eq {E : Env} {n : Nat} (h : ∀ c a H, execF E n c a H = exec E n c a H) : callF E (execF E n) = acall E n := by
  funext f args H
  unfold callF acall
  cases E.sums f args H with
  | some r => rfl
  | none =>
    simp only
    unfold callFn
    cases E.funcs f with
    | none => rfl
    | some fn =>
      obtain ⟨code, results⟩ := fn
      simp only [callBody, h]
      rfl

theorem seqF_eq {f g : ACode → Frm → Heap → Res} {x y : ACode} (h : ∀ c a H, f c a H = g c a H) (_ : ∀ c a H, f c a H = g c a H) (a : Frm) (H : Heap) :
    seqF (f x) (f y) a H = match g x a H with | some (.normal, a', H') => g y a' H' | r => r := by
  have e : f = g := by funext c a H; exact h c a H
  rw [e]; rfl

theorem condF_eq {f g : ACode → Frm → Heap → Res} {c : AX} {x y : ACode} (h : ∀ c a H, f c a H = g c a H) (_ : ∀ c a H, f c a H = g c a H) (a : Frm) (H : Heap) :
    condF c (f x) (f y) a H = match evalX a c with | .bool b => bif b then g x a H else g y a H | _ => none := by
  have e : f = g := by funext c a H; exact h c a H
  rw [e]; rfl

theorem blockF_eq {f g : ACode → Frm → Heap → Res} {id : Nat} {x : ACode} (h : ∀ c a H, f c a H = g c a H) (a : Frm) (H : Heap) :
    blockF id (f x) a H = match g x a H with | some (.exit id', a', H') => some (bif Nat.beq id' id then .normal else .exit id', a', H') | r => r := by
  have e : f = g := by funext c a H; exact h c a H
  rw [e]; rfl

theorem execF_eq (E : Env) : ∀ (n : Nat) (c : ACode) (a : Frm) (H : Heap), execF E n c a H = exec E n c a H
  | 0, _, _, _ => rfl
  | n + 1, c, a, H => by
    have ih := execF_eq E n
    have e : execF E (n + 1) c a H = codeF E (execF E n) c a H := rfl
    rw [e, exec_succ]
    cases c with
    | skip => rfl
    | ret => rfl
    | exit id => rfl
    | seq x y => exact seqF_eq ih ih a H
    | cond c x y => exact condF_eq ih ih a H
    | block id x => exact blockF_eq ih a H
    | loop x => exact seqF_eq ih ih a H
    | region ops =>
      have e : codeF E (execF E n) (.region ops) a H = regionF (runOpsF E.ms (callF E (execF E n)) ops ops) a H := rfl
      rw [e, callF_eq ih]
      unfold regionF
      rw [runOpsF_eq]
      rfl
    | draw d =>
      have e : codeF E (execF E n) (.draw d) a H = regionF (runDraw E.ms (callF E (execF E n)) d) a H := rfl
      rw [e, callF_eq ih]
      rfl

/-- a call, run by the fast twin -/
noncomputable def acallF (E : Env) (n : Nat) : CallF := callF E (execF E n)

theorem acallF_eq (E : Env) (n : Nat) : acallF E n = acall E n := callF_eq (execF_eq E n)

end Go.AE
end
-- Reasoning about runs of the machine on values that are not known: a run comes to an end of which a property holds.
section
set_option linter.unusedVariables false
namespace Go.AE

/-- what a run of code comes to -/
def W (E : Env) (c : ACode) (a : Frm) (H : Heap) (Q : AExit → Frm → Heap → Prop) : Prop :=
  ∃ n x a' H', (∀ m, n ≤ m → exec E m c a H = some (x, a', H')) ∧ Q x a' H'

/-- what a call comes to -/
def WCall (E : Env) (f : Nat) (args : List AV) (H : Heap) (Q : AV → Heap → Prop) : Prop :=
  ∃ n v H', (∀ m, n ≤ m → acall E m f args H = some (v, H')) ∧ Q v H'

/-- what operations come to -/
def WOps (E : Env) (all ops : List AOper) (a : Frm) (H : Heap) (Q : Frm → Heap → Prop) : Prop :=
  ∃ n a' H', (∀ m, n ≤ m → runOps E.ms (acall E m) all ops a H = some (a', H')) ∧ Q a' H'

/-- what operations in a drawn order come to -/
def WOrd (E : Env) (ops : List AOper) (base : Nat) (ord : List Nat) (a : Frm) (H : Heap) (hs : List Heap) (Q : Frm → List Heap → Prop) : Prop :=
  ∃ n a' hs', (∀ m, n ≤ m → runOrd E.ms (acall E m) ops base ord a H hs = some (a', hs')) ∧ Q a' hs'

variable {E : Env}

theorem W.mono {c : ACode} {a : Frm} {H : Heap} {Q R : AExit → Frm → Heap → Prop} (h : W E c a H Q) (hq : ∀ x a' H', Q x a' H' → R x a' H') : W E c a H R := by
  obtain ⟨n, x, a', H', h, q⟩ := h
  exact ⟨n, x, a', H', h, hq _ _ _ q⟩

theorem WCall.mono {f : Nat} {args : List AV} {H : Heap} {Q R : AV → Heap → Prop} (h : WCall E f args H Q) (hq : ∀ v H', Q v H' → R v H') : WCall E f args H R := by
  obtain ⟨n, v, H', h, q⟩ := h
  exact ⟨n, v, H', h, hq _ _ q⟩

theorem W.skip {a : Frm} {H : Heap} {Q : AExit → Frm → Heap → Prop} (h : Q .normal a H) : W E .skip a H Q :=
  ⟨1, .normal, a, H, fun m hm => by obtain ⟨k, rfl⟩ : ∃ k, m = k + 1 := ⟨m - 1, by omega⟩; rw [exec_succ], h⟩

theorem W.ret {a : Frm} {H : Heap} {Q : AExit → Frm → Heap → Prop} (h : Q .ret a H) : W E .ret a H Q :=
  ⟨1, .ret, a, H, fun m hm => by obtain ⟨k, rfl⟩ : ∃ k, m = k + 1 := ⟨m - 1, by omega⟩; rw [exec_succ], h⟩

theorem W.exit {id : Nat} {a : Frm} {H : Heap} {Q : AExit → Frm → Heap → Prop} (h : Q (.exit id) a H) : W E (.exit id) a H Q :=
  ⟨1, .exit id, a, H, fun m hm => by obtain ⟨k, rfl⟩ : ∃ k, m = k + 1 := ⟨m - 1, by omega⟩; rw [exec_succ], h⟩

/-- what is behind the first half of a sequence -/
def thenQ (E : Env) (y : ACode) (Q : AExit → Frm → Heap → Prop) : AExit → Frm → Heap → Prop
  | .normal, a, H => W E y a H Q
  | x, a, H => Q x a H

@[simp] theorem thenQ_normal {y : ACode} {Q : AExit → Frm → Heap → Prop} {a : Frm} {H : Heap} : thenQ E y Q .normal a H = W E y a H Q := rfl
@[simp] theorem thenQ_ret {y : ACode} {Q : AExit → Frm → Heap → Prop} {a : Frm} {H : Heap} : thenQ E y Q .ret a H = Q .ret a H := rfl
@[simp] theorem thenQ_exit {y : ACode} {Q : AExit → Frm → Heap → Prop} {i : Nat} {a : Frm} {H : Heap} : thenQ E y Q (.exit i) a H = Q (.exit i) a H := rfl

theorem W.seq {x y : ACode} {a : Frm} {H : Heap} {Q : AExit → Frm → Heap → Prop} (h : W E x a H (thenQ E y Q)) : W E (.seq x y) a H Q := by
  obtain ⟨n, e, a', H', h, q⟩ := h
  cases e with
  | normal =>
    obtain ⟨n2, e2, a2, H2, h2, q2⟩ := q
    refine ⟨n + n2 + 1, e2, a2, H2, fun m hm => ?_, q2⟩
    obtain ⟨k, rfl⟩ : ∃ k, m = k + 1 := ⟨m - 1, by omega⟩
    rw [exec_succ]
    simp only [h k (by omega), h2 k (by omega)]
  | exit id =>
    refine ⟨n + 1, .exit id, a', H', fun m hm => ?_, q⟩
    obtain ⟨k, rfl⟩ : ∃ k, m = k + 1 := ⟨m - 1, by omega⟩
    rw [exec_succ]
    simp only [h k (by omega)]
  | ret =>
    refine ⟨n + 1, .ret, a', H', fun m hm => ?_, q⟩
    obtain ⟨k, rfl⟩ : ∃ k, m = k + 1 := ⟨m - 1, by omega⟩
    rw [exec_succ]
    simp only [h k (by omega)]

theorem W.cond {c : AX} {x y : ACode} {a : Frm} {H : Heap} {Q : AExit → Frm → Heap → Prop} {b : Bool} (e : evalX a c = .bool b) (h : W E (bif b then x else y) a H Q) : W E (.cond c x y) a H Q := by
  obtain ⟨n, e', a', H', h, q⟩ := h
  refine ⟨n + 1, e', a', H', fun m hm => ?_, q⟩
  obtain ⟨k, rfl⟩ : ∃ k, m = k + 1 := ⟨m - 1, by omega⟩
  rw [exec_succ]
  simp only [e]
  cases b
  · exact h k (by omega)
  · exact h k (by omega)

/-- what is behind a block -/
def blockQ (id : Nat) (Q : AExit → Frm → Heap → Prop) : AExit → Frm → Heap → Prop
  | .exit id', a, H => Q (bif Nat.beq id' id then .normal else .exit id') a H
  | x, a, H => Q x a H

@[simp] theorem blockQ_normal {id : Nat} {Q : AExit → Frm → Heap → Prop} {a : Frm} {H : Heap} : blockQ id Q .normal a H = Q .normal a H := rfl
@[simp] theorem blockQ_ret {id : Nat} {Q : AExit → Frm → Heap → Prop} {a : Frm} {H : Heap} : blockQ id Q .ret a H = Q .ret a H := rfl
@[simp] theorem blockQ_exit {id id' : Nat} {Q : AExit → Frm → Heap → Prop} {a : Frm} {H : Heap} : blockQ id Q (.exit id') a H = Q (bif Nat.beq id' id then .normal else .exit id') a H := rfl

theorem W.block {id : Nat} {x : ACode} {a : Frm} {H : Heap} {Q : AExit → Frm → Heap → Prop} (h : W E x a H (blockQ id Q)) : W E (.block id x) a H Q := by
  obtain ⟨n, e, a', H', h, q⟩ := h
  cases e with
  | normal =>
    refine ⟨n + 1, .normal, a', H', fun m hm => ?_, q⟩
    obtain ⟨k, rfl⟩ : ∃ k, m = k + 1 := ⟨m - 1, by omega⟩
    rw [exec_succ]
    simp only [h k (by omega)]
  | exit i =>
    refine ⟨n + 1, _, a', H', fun m hm => ?_, q⟩
    obtain ⟨k, rfl⟩ : ∃ k, m = k + 1 := ⟨m - 1, by omega⟩
    rw [exec_succ]
    simp only [h k (by omega)]
  | ret =>
    refine ⟨n + 1, .ret, a', H', fun m hm => ?_, q⟩
    obtain ⟨k, rfl⟩ : ∃ k, m = k + 1 := ⟨m - 1, by omega⟩
    rw [exec_succ]
    simp only [h k (by omega)]

theorem W.loop {x : ACode} {a : Frm} {H : Heap} {Q : AExit → Frm → Heap → Prop} (h : W E x a H (thenQ E (.loop x) Q)) : W E (.loop x) a H Q := by
  obtain ⟨n, e, a', H', h, q⟩ := h
  cases e with
  | normal =>
    obtain ⟨n2, e2, a2, H2, h2, q2⟩ := q
    refine ⟨n + n2 + 1, e2, a2, H2, fun m hm => ?_, q2⟩
    obtain ⟨k, rfl⟩ : ∃ k, m = k + 1 := ⟨m - 1, by omega⟩
    rw [exec_succ]
    simp only [h k (by omega), h2 k (by omega)]
  | exit id =>
    refine ⟨n + 1, .exit id, a', H', fun m hm => ?_, q⟩
    obtain ⟨k, rfl⟩ : ∃ k, m = k + 1 := ⟨m - 1, by omega⟩
    rw [exec_succ]
    simp only [h k (by omega)]
  | ret =>
    refine ⟨n + 1, .ret, a', H', fun m hm => ?_, q⟩
    obtain ⟨k, rfl⟩ : ∃ k, m = k + 1 := ⟨m - 1, by omega⟩
    rw [exec_succ]
    simp only [h k (by omega)]

/-- a loop that counts: an invariant, kept by each round, up to the last one that leaves -/
theorem W.count {x : ACode} {Q : AExit → Frm → Heap → Prop} (N : Nat) (I : Nat → Frm → Heap → Prop)
    (step : ∀ i a H, i < N → I i a H → W E x a H (fun e a' H' => e = .normal ∧ I (i + 1) a' H'))
    (last : ∀ a H, I N a H → W E x a H (fun e a' H' => e ≠ .normal ∧ Q e a' H')) :
    ∀ (i : Nat) (a : Frm) (H : Heap), i ≤ N → I i a H → W E (.loop x) a H Q := by
  intro i
  generalize hk : N - i = k
  induction k generalizing i with
  | zero =>
    intro a H hi h
    obtain rfl : i = N := by omega
    refine W.loop ((last a H h).mono fun e a' H' q => ?_)
    cases e with
    | normal => exact absurd rfl q.1
    | exit id => exact q.2
    | ret => exact q.2
  | succ k ih =>
    intro a H hi h
    refine W.loop ((step i a H (by omega) h).mono fun e a' H' q => ?_)
    obtain ⟨rfl, q⟩ := q
    exact ih (i + 1) (by omega) a' H' (by omega) q

theorem acall_run (n f : Nat) : acall E n f = fun args H => (match E.sums f args H with
        | some r => some r
        | none => match E.funcs f with
          | none => none
          | some fn => match exec E n fn.code (frameOf args 0 .nil) H with
            | some (.normal, a', H') | some (.ret, a', H') => match resultsOf a' H' fn.results with
              | some vs => some (oneOf vs, H')
              | none => none
            | _ => none) := rfl

theorem exec_region (n : Nat) (ops : List AOper) (a : Frm) (H : Heap) : exec E (n + 1) (.region ops) a H = (match runOps E.ms (acall E n) ops ops a H with
      | some (a', H') => some (.normal, a', H')
      | none => none) := rfl

theorem exec_draw (n : Nat) (d : ADraw) (a : Frm) (H : Heap) : exec E (n + 1) (.draw d) a H = (match runDraw E.ms (acall E n) d a H with
      | some (a', H') => some (.normal, a', H')
      | none => none) := rfl

theorem W.region {ops : List AOper} {a : Frm} {H : Heap} {Q : AExit → Frm → Heap → Prop} (h : WOps E ops ops a H (Q .normal)) : W E (.region ops) a H Q := by
  obtain ⟨n, a', H', h, q⟩ := h
  refine ⟨n + 1, .normal, a', H', fun m hm => ?_, q⟩
  obtain ⟨k, rfl⟩ : ∃ k, m = k + 1 := ⟨m - 1, by omega⟩
  rw [exec_region, h k (by omega)]

/-- the last of the heaps -/
def lastH : List Heap → Heap → Heap
  | H :: _, _ => H
  | [], H => H

theorem W.draw {d : ADraw} {a : Frm} {H : Heap} {Q : AExit → Frm → Heap → Prop}
    (h : WOrd E d.ops H.next d.ord a { H with next := H.next + d.ops.length } [] (fun a' hs => stable d a a' H.next hs.reverse d.ops d.lohi 0 = true ∧ ∃ H' l, hs = H' :: l ∧ Q .normal a' H')) : W E (.draw d) a H Q := by
  obtain ⟨n, a', hs, h, hst, H', l, rfl, q⟩ := h
  refine ⟨n + 1, .normal, a', H', fun m hm => ?_, q⟩
  obtain ⟨k, rfl⟩ : ∃ k, m = k + 1 := ⟨m - 1, by omega⟩
  rw [exec_draw]
  unfold runDraw
  simp only [h k (by omega), hst, cond_true]

theorem WOps.nil {all : List AOper} {a : Frm} {H : Heap} {Q : Frm → Heap → Prop} (h : Q a H) : WOps E all [] a H Q := ⟨0, a, H, fun _ _ => rfl, h⟩

theorem runOps_cons (ms : Methods) (call : CallF) (all os : List AOper) (o : AOper) (a : Frm) (H : Heap) : runOps ms call all (o :: os) a H =
    bif wantedA all a o.guard then
      match stepOp ms call o.op a H with
      | some (v, H') => runOps ms call all os (put a o.dst v) H'
      | none => none
    else runOps ms call all os (put a o.dst aundef) H := rfl

theorem WOps.rd {all os : List AOper} {dst : Option Nat} {op : AOp} {a : Frm} {H : Heap} {Q : Frm → Heap → Prop} (hk : kindOf op = .rd) {v : AV} (e : rd op a H = some v) (h : WOps E all os (put a dst v) H Q) :
    WOps E all (⟨dst, op, none⟩ :: os) a H Q := by
  obtain ⟨n, a', H', h, q⟩ := h
  refine ⟨n, a', H', fun m hm => ?_, q⟩
  rw [runOps_cons]
  simp only [wantedA, cond_true, stepOp, hk, e, h m hm]

theorem WOps.al {all os : List AOper} {dst : Option Nat} {op : AOp} {a : Frm} {H : Heap} {Q : Frm → Heap → Prop} (hk : kindOf op = .al) {x : ABlk} {f : Nat → AV} (e : al op a = some (x, f)) (h : WOps E all os (put a dst (f H.next)) (H.push x) Q) :
    WOps E all (⟨dst, op, none⟩ :: os) a H Q := by
  obtain ⟨n, a', H', h, q⟩ := h
  refine ⟨n, a', H', fun m hm => ?_, q⟩
  rw [runOps_cons]
  simp only [wantedA, cond_true, stepOp, hk, e, h m hm]

theorem WOps.wr {all os : List AOper} {dst : Option Nat} {op : AOp} {a : Frm} {H H1 : Heap} {Q : Frm → Heap → Prop} (hk : kindOf op = .wr) {v : AV} (e : ∀ call, wr E.ms call op a H = some (v, H1)) (h : WOps E all os (put a dst v) H1 Q) :
    WOps E all (⟨dst, op, none⟩ :: os) a H Q := by
  obtain ⟨n, a', H', h, q⟩ := h
  refine ⟨n, a', H', fun m hm => ?_, q⟩
  rw [runOps_cons]
  simp only [wantedA, cond_true, stepOp, hk, e, h m hm]

theorem WOps.call {all os : List AOper} {dst : Option Nat} {f : AX} {args : List AX} {a : Frm} {H : Heap} {Q : Frm → Heap → Prop} {g : Nat} {first captured : List AV}
    (e : evalX a f = .func (.func g) first captured) (h : WCall E g (first ++ args.map (evalX a) ++ captured) H (fun v H' => WOps E all os (put a dst v) H' Q)) :
    WOps E all (⟨dst, .call f args, none⟩ :: os) a H Q := by
  obtain ⟨n, v, H1, h1, n2, a', H', h, q⟩ := h
  refine ⟨n + n2, a', H', fun m hm => ?_, q⟩
  rw [runOps_cons]
  simp only [wantedA, cond_true, stepOp, kindOf, Go.AE.wr, e, h1 m (by omega), h m (by omega)]

theorem WOrd.nil {ops : List AOper} {base : Nat} {a : Frm} {H : Heap} {hs : List Heap} {Q : Frm → List Heap → Prop} (h : Q a (H :: hs)) : WOrd E ops base [] a H hs Q := ⟨0, a, H :: hs, fun _ _ => rfl, h⟩

theorem runOrd_cons (ms : Methods) (call : CallF) (ops : List AOper) (base i : Nat) (is : List Nat) (a : Frm) (H : Heap) (hs : List Heap) : runOrd ms call ops base (i :: is) a H hs =
    match ops[i]? with
    | none => none
    | some o =>
      match kindOf o.op with
      | .rd =>
        bif wantedA ops a o.guard then
          match Go.AE.rd o.op a H with
          | some v => runOrd ms call ops base is (put a o.dst v) H hs
          | none => none
        else runOrd ms call ops base is (put a o.dst aundef) H hs
      | .al =>
        bif wantedA ops a o.guard then
          match al o.op a with
          | some (x, f) => runOrd ms call ops base is (put a o.dst (f (base + i))) { H with t := H.t.set (base + i) x } hs
          | none => none
        else runOrd ms call ops base is (put a o.dst aundef) H hs
      | .wr =>
        bif wantedA ops a o.guard then
          match wr ms call o.op a H with
          | some (v, H') => runOrd ms call ops base is (put a o.dst v) H' (H :: hs)
          | none => none
        else runOrd ms call ops base is (put a o.dst aundef) H (H :: hs) := rfl

theorem WOrd.rd {ops : List AOper} {base i : Nat} {is : List Nat} {dst : Option Nat} {op : AOp} {a : Frm} {H : Heap} {hs : List Heap} {Q : Frm → List Heap → Prop} (ho : ops[i]? = some ⟨dst, op, none⟩) (hk : kindOf op = .rd) {v : AV}
    (e : Go.AE.rd op a H = some v) (h : WOrd E ops base is (put a dst v) H hs Q) : WOrd E ops base (i :: is) a H hs Q := by
  obtain ⟨n, a', H', h, q⟩ := h
  refine ⟨n, a', H', fun m hm => ?_, q⟩
  rw [runOrd_cons]
  simp only [ho, hk, wantedA, cond_true, e, h m hm]

theorem WOrd.al {ops : List AOper} {base i : Nat} {is : List Nat} {dst : Option Nat} {op : AOp} {a : Frm} {H : Heap} {hs : List Heap} {Q : Frm → List Heap → Prop} (ho : ops[i]? = some ⟨dst, op, none⟩) (hk : kindOf op = .al) {x : ABlk} {f : Nat → AV}
    (e : Go.AE.al op a = some (x, f)) (h : WOrd E ops base is (put a dst (f (base + i))) { H with t := H.t.set (base + i) x } hs Q) : WOrd E ops base (i :: is) a H hs Q := by
  obtain ⟨n, a', H', h, q⟩ := h
  refine ⟨n, a', H', fun m hm => ?_, q⟩
  rw [runOrd_cons]
  simp only [ho, hk, wantedA, cond_true, e, h m hm]

theorem WOrd.wr {ops : List AOper} {base i : Nat} {is : List Nat} {dst : Option Nat} {op : AOp} {a : Frm} {H H1 : Heap} {hs : List Heap} {Q : Frm → List Heap → Prop} (ho : ops[i]? = some ⟨dst, op, none⟩) (hk : kindOf op = .wr) {v : AV}
    (e : ∀ call, Go.AE.wr E.ms call op a H = some (v, H1)) (h : WOrd E ops base is (put a dst v) H1 (H :: hs) Q) : WOrd E ops base (i :: is) a H hs Q := by
  obtain ⟨n, a', H', h, q⟩ := h
  refine ⟨n, a', H', fun m hm => ?_, q⟩
  rw [runOrd_cons]
  simp only [ho, hk, wantedA, cond_true, e, h m hm]

theorem WOrd.call {ops : List AOper} {base i : Nat} {is : List Nat} {dst : Option Nat} {f : AX} {args : List AX} {a : Frm} {H : Heap} {hs : List Heap} {Q : Frm → List Heap → Prop} (ho : ops[i]? = some ⟨dst, .call f args, none⟩) {g : Nat} {first captured : List AV}
    (e : evalX a f = .func (.func g) first captured) (h : WCall E g (first ++ args.map (evalX a) ++ captured) H (fun v H' => WOrd E ops base is (put a dst v) H' (H :: hs) Q)) : WOrd E ops base (i :: is) a H hs Q := by
  obtain ⟨n, v, H1, h1, n2, a', H', h, q⟩ := h
  refine ⟨n + n2, a', H', fun m hm => ?_, q⟩
  rw [runOrd_cons]
  simp only [ho, kindOf, wantedA, cond_true, Go.AE.wr, e, h1 m (by omega), h m (by omega)]

/-- what a function's text comes to is what a call comes to -/
def retQ (rs : List ARes) (Q : AV → Heap → Prop) : AExit → Frm → Heap → Prop := fun x a H => (x = .normal ∨ x = .ret) ∧ ∃ vs, resultsOf a H rs = some vs ∧ Q (oneOf vs) H

theorem WCall.func {f : Nat} {args : List AV} {H : Heap} {Q : AV → Heap → Prop} (hs : E.sums f args H = none) {code : ACode} {rs : List ARes} (hf : E.funcs f = some ⟨code, rs⟩)
    (h : W E code (frameOf args 0 .nil) H (retQ rs Q)) : WCall E f args H Q := by
  obtain ⟨n, x, a', H', h, hx, vs, e, q⟩ := h
  refine ⟨n, oneOf vs, H', fun m hm => ?_, q⟩
  rw [acall_run]
  simp only [hs, hf, h m hm]
  rcases hx with rfl | rfl <;> simp only [e]


/-! for the simplifier -/

theorem WOps_nil {all : List AOper} {a : Frm} {H : Heap} {Q : Frm → Heap → Prop} : WOps E all [] a H Q ↔ Q a H :=
  ⟨fun ⟨n, a', H', h, q⟩ => by have := h n (Nat.le_refl _); simp only [runOps, Option.some.injEq, Prod.mk.injEq] at this; obtain ⟨rfl, rfl⟩ := this; exact q, WOps.nil⟩

theorem WOps_rd {all os : List AOper} {dst : Option Nat} {op : AOp} {a : Frm} {H : Heap} {Q : Frm → Heap → Prop} (hk : kindOf op = .rd) :
    WOps E all (⟨dst, op, none⟩ :: os) a H Q ↔ ∃ v, rd op a H = some v ∧ WOps E all os (put a dst v) H Q := by
  constructor
  · intro ⟨n, a', H', h, q⟩
    cases e : rd op a H with
    | none => have := h n (Nat.le_refl _); rw [runOps_cons] at this; simp only [wantedA, cond_true, stepOp, hk, e] at this; exact nomatch this
    | some v =>
      refine ⟨v, rfl, n, a', H', fun m hm => ?_, q⟩
      have := h m hm
      rw [runOps_cons] at this
      simpa only [wantedA, cond_true, stepOp, hk, e] using this
  · intro ⟨v, e, h⟩
    exact WOps.rd hk e h

theorem WOrd_nil {ops : List AOper} {base : Nat} {a : Frm} {H : Heap} {hs : List Heap} {Q : Frm → List Heap → Prop} : WOrd E ops base [] a H hs Q ↔ Q a (H :: hs) :=
  ⟨fun ⟨n, a', H', h, q⟩ => by have := h n (Nat.le_refl _); simp only [runOrd, Option.some.injEq, Prod.mk.injEq] at this; obtain ⟨rfl, rfl⟩ := this; exact q, WOrd.nil⟩

/-- operations, each with its number -/
def runL (ms : Methods) (call : CallF) (ops : List AOper) (base : Nat) : List (Nat × AOper) → Frm → Heap → List Heap → Option (Frm × List Heap)
  | [], a, H, hs => some (a, H :: hs)
  | (i, o) :: is, a, H, hs =>
      match kindOf o.op with
      | .rd =>
        bif wantedA ops a o.guard then
          match Go.AE.rd o.op a H with
          | some v => runL ms call ops base is (put a o.dst v) H hs
          | none => none
        else runL ms call ops base is (put a o.dst aundef) H hs
      | .al =>
        bif wantedA ops a o.guard then
          match al o.op a with
          | some (x, f) => runL ms call ops base is (put a o.dst (f (base + i))) { H with t := H.t.set (base + i) x } hs
          | none => none
        else runL ms call ops base is (put a o.dst aundef) H hs
      | .wr =>
        bif wantedA ops a o.guard then
          match Go.AE.wr ms call o.op a H with
          | some (v, H') => runL ms call ops base is (put a o.dst v) H' (H :: hs)
          | none => none
        else runL ms call ops base is (put a o.dst aundef) H (H :: hs)

/-- the operations at these numbers -/
def listed (ops : List AOper) : List Nat → Option (List (Nat × AOper))
  | [] => some []
  | i :: is => match ops[i]? with
    | some o => match listed ops is with
      | some l => some ((i, o) :: l)
      | none => none
    | none => none

theorem runL_eq (ms : Methods) (call : CallF) (ops : List AOper) (base : Nat) : ∀ (is : List Nat) (l : List (Nat × AOper)) (a : Frm) (H : Heap) (hs : List Heap), listed ops is = some l → runOrd ms call ops base is a H hs = runL ms call ops base l a H hs := by
  intro is
  induction is with
  | nil => intro l a H hs h; simp only [listed, Option.some.injEq] at h; subst h; rfl
  | cons i is ih =>
    intro l a H hs h
    simp only [listed] at h
    cases ho : ops[i]? with
    | none => rw [ho] at h; exact nomatch h
    | some o =>
      rw [ho] at h
      cases hl : listed ops is with
      | none => rw [hl] at h; exact nomatch h
      | some l' =>
        rw [hl] at h
        simp only [Option.some.injEq] at h
        subst h
        rw [runOrd_cons]
        simp only [ho, runL, fun a H hs => ih l' a H hs hl]

/-- what operations, each with its number, come to -/
def WL (E : Env) (ops : List AOper) (base : Nat) (l : List (Nat × AOper)) (a : Frm) (H : Heap) (hs : List Heap) (Q : Frm → List Heap → Prop) : Prop :=
  ∃ n a' hs', (∀ m, n ≤ m → runL E.ms (acall E m) ops base l a H hs = some (a', hs')) ∧ Q a' hs'

theorem WOrd.listed {ops : List AOper} {base : Nat} {is : List Nat} {l : List (Nat × AOper)} (hl : Go.AE.listed ops is = some l) {a : Frm} {H : Heap} {hs : List Heap} {Q : Frm → List Heap → Prop} (h : WL E ops base l a H hs Q) : WOrd E ops base is a H hs Q := by
  obtain ⟨n, a', hs', h, q⟩ := h
  exact ⟨n, a', hs', fun m hm => by rw [runL_eq _ _ _ _ _ _ _ _ _ hl]; exact h m hm, q⟩

theorem WL_nil {ops : List AOper} {base : Nat} {a : Frm} {H : Heap} {hs : List Heap} {Q : Frm → List Heap → Prop} : WL E ops base [] a H hs Q ↔ Q a (H :: hs) :=
  ⟨fun ⟨n, a', H', h, q⟩ => by have := h n (Nat.le_refl _); simp only [runL, Option.some.injEq, Prod.mk.injEq] at this; obtain ⟨rfl, rfl⟩ := this; exact q, fun h => ⟨0, a, H :: hs, fun _ _ => rfl, h⟩⟩

theorem WL_rd {ops : List AOper} {base i : Nat} {is : List (Nat × AOper)} {dst : Option Nat} {op : AOp} {a : Frm} {H : Heap} {hs : List Heap} {Q : Frm → List Heap → Prop} (hk : kindOf op = .rd) :
    WL E ops base ((i, ⟨dst, op, none⟩) :: is) a H hs Q ↔ ∃ v, rd op a H = some v ∧ WL E ops base is (put a dst v) H hs Q := by
  constructor
  · intro ⟨n, a', H', h, q⟩
    cases e : Go.AE.rd op a H with
    | none => have := h n (Nat.le_refl _); simp only [runL, wantedA, cond_true, hk, e] at this; exact nomatch this
    | some v =>
      refine ⟨v, rfl, n, a', H', fun m hm => ?_, q⟩
      have := h m hm
      simpa only [runL, wantedA, cond_true, hk, e] using this
  · intro ⟨v, e, n, a', H', h, q⟩
    exact ⟨n, a', H', fun m hm => by simp only [runL, wantedA, cond_true, hk, e, h m hm], q⟩

theorem WL_call {ops : List AOper} {base i : Nat} {is : List (Nat × AOper)} {dst : Option Nat} {f : AX} {args : List AX} {a : Frm} {H : Heap} {hs : List Heap} {Q : Frm → List Heap → Prop} {g : Nat} {first captured : List AV}
    (e : evalX a f = .func (.func g) first captured) (h : WCall E g (first ++ args.map (evalX a) ++ captured) H (fun v H' => WL E ops base is (put a dst v) H' (H :: hs) Q)) : WL E ops base ((i, ⟨dst, .call f args, none⟩) :: is) a H hs Q := by
  obtain ⟨n, v, H1, h1, n2, a', H', h, q⟩ := h
  refine ⟨n + n2, a', H', fun m hm => ?_, q⟩
  simp only [runL, kindOf, wantedA, cond_true, Go.AE.wr, e, h1 m (by omega), h m (by omega)]

/-- what a writing operation that calls nothing comes to -/
def wr0 (op : AOp) (a : Frm) (H : Heap) : Option (AV × Heap) := wr [] (fun _ _ _ => none) op a H

def callsNot : AOp → Bool
  | .call .. | .callM .. => false
  | _ => true

theorem wr0_eq (ms : Methods) (call : CallF) (op : AOp) (h : callsNot op = true) (a : Frm) (H : Heap) : wr ms call op a H = wr0 op a H := by
  cases op <;> first | rfl | exact nomatch h

theorem WL_wr {ops : List AOper} {base i : Nat} {is : List (Nat × AOper)} {dst : Option Nat} {op : AOp} {a : Frm} {H : Heap} {hs : List Heap} {Q : Frm → List Heap → Prop} (hk : kindOf op = .wr) (hc : callsNot op = true) :
    WL E ops base ((i, ⟨dst, op, none⟩) :: is) a H hs Q ↔ ∃ v H', wr0 op a H = some (v, H') ∧ WL E ops base is (put a dst v) H' (H :: hs) Q := by
  constructor
  · intro ⟨n, a', H', h, q⟩
    cases e : wr0 op a H with
    | none => have := h n (Nat.le_refl _); simp only [runL, wantedA, cond_true, hk, wr0_eq _ _ _ hc, e] at this; exact nomatch this
    | some p =>
      obtain ⟨v, H1⟩ := p
      refine ⟨v, H1, rfl, n, a', H', fun m hm => ?_, q⟩
      have := h m hm
      simpa only [runL, wantedA, cond_true, hk, wr0_eq _ _ _ hc, e] using this
  · intro ⟨v, H1, e, n, a', H', h, q⟩
    exact ⟨n, a', H', fun m hm => by simp only [runL, wantedA, cond_true, hk, wr0_eq _ _ _ hc, e, h m hm], q⟩

theorem WOps_wr {all os : List AOper} {dst : Option Nat} {op : AOp} {a : Frm} {H : Heap} {Q : Frm → Heap → Prop} (hk : kindOf op = .wr) (hc : callsNot op = true) :
    WOps E all (⟨dst, op, none⟩ :: os) a H Q ↔ ∃ v H', wr0 op a H = some (v, H') ∧ WOps E all os (put a dst v) H' Q := by
  constructor
  · intro ⟨n, a', H', h, q⟩
    cases e : wr0 op a H with
    | none => have := h n (Nat.le_refl _); rw [runOps_cons] at this; simp only [wantedA, cond_true, stepOp, hk, wr0_eq _ _ _ hc, e] at this; exact nomatch this
    | some p =>
      obtain ⟨v, H1⟩ := p
      refine ⟨v, H1, rfl, n, a', H', fun m hm => ?_, q⟩
      have := h m hm
      rw [runOps_cons] at this
      simpa only [wantedA, cond_true, stepOp, hk, wr0_eq _ _ _ hc, e] using this
  · intro ⟨v, H1, e, h⟩
    exact WOps.wr hk (fun call => by rw [wr0_eq _ _ _ hc]; exact e) h

theorem WOps_al {all os : List AOper} {dst : Option Nat} {op : AOp} {a : Frm} {H : Heap} {Q : Frm → Heap → Prop} (hk : kindOf op = .al) :
    WOps E all (⟨dst, op, none⟩ :: os) a H Q ↔ ∃ x f, al op a = some (x, f) ∧ WOps E all os (put a dst (f H.next)) (H.push x) Q := by
  constructor
  · intro ⟨n, a', H', h, q⟩
    cases e : Go.AE.al op a with
    | none => have := h n (Nat.le_refl _); rw [runOps_cons] at this; simp only [wantedA, cond_true, stepOp, hk, e] at this; exact nomatch this
    | some p =>
      obtain ⟨x, f⟩ := p
      refine ⟨x, f, rfl, n, a', H', fun m hm => ?_, q⟩
      have := h m hm
      rw [runOps_cons] at this
      simpa only [wantedA, cond_true, stepOp, hk, e] using this
  · intro ⟨x, f, e, h⟩
    exact WOps.al hk e h

theorem W_draw {d : ADraw} {l : List (Nat × AOper)} (hl : listed d.ops d.ord = some l) {N : Nat} (hN : d.ops.length = N) {a : Frm} {H : Heap} {Q : AExit → Frm → Heap → Prop}
    (h : WL E d.ops H.next l a ⟨H.t, H.next + N⟩ [] (fun a' hs => stable d a a' H.next hs.reverse d.ops d.lohi 0 = true ∧ ∃ H' l, hs = H' :: l ∧ Q .normal a' H')) : W E (.draw d) a H Q :=
  W.draw (WOrd.listed hl (hN ▸ h))

end Go.AE
end
-- A call whose arguments and result lie nowhere in the heap: reckoned once, from an empty heap, it stands for every heap.
section
set_option linter.unusedVariables false
namespace Go.AE

mutual
/-- a value that points to nothing -/
def AV.flat : AV → Bool
  | .bool _ | .int _ _ | .str _ | .ptr none | .map none | .nilFunc | .nilIface => true
  | .agg cs => AV.flats cs
  | .tuple cs => AV.flats cs
  | .iface _ x => AV.flat x
  | _ => false
def AV.flats : List AV → Bool
  | [] => true
  | x :: xs => AV.flat x && AV.flats xs
end

mutual
theorem rel_flat {r r' : Ren} : ∀ (x : AV) (v : Value), AV.flat x = true → rel r x v → rel r' x v
  | .bool b, v, _, k => by simpa only [rel] using k
  | .int k n, v, _, hk => by simpa only [rel] using hk
  | .str s, v, _, k => by simpa only [rel] using k
  | .ptr none, v, _, k => by simpa only [rel] using k
  | .ptr (some (b, o)), v, h, k => by simp [AV.flat] at h
  | .slice none l c, v, h, k => by simp [AV.flat] at h
  | .slice (some (b, o)) l c, v, h, k => by simp [AV.flat] at h
  | .map none, v, _, k => by simpa only [rel] using k
  | .map (some b), v, h, k => by simp [AV.flat] at h
  | .func fn f c, v, h, k => by simp [AV.flat] at h
  | .nilFunc, v, _, k => by simpa only [rel] using k
  | .iface t x, v, h, k => by
    simp only [rel] at k ⊢
    obtain ⟨x', h1, h2⟩ := k
    exact ⟨x', h1, rel_flat x _ (by simpa [AV.flat] using h) h2⟩
  | .nilIface, v, _, k => by simpa only [rel] using k
  | .agg cs, v, h, k => by
    simp only [rel] at k ⊢
    obtain ⟨cs', h1, h2⟩ := k
    exact ⟨cs', h1, rels_flat cs _ (by simpa [AV.flat] using h) h2⟩
  | .tuple cs, v, h, k => by
    simp only [rel] at k ⊢
    obtain ⟨cs', h1, h2⟩ := k
    exact ⟨cs', h1, rels_flat cs _ (by simpa [AV.flat] using h) h2⟩
theorem rels_flat {r r' : Ren} : ∀ (x : List AV) (v : List Value), AV.flats x = true → rels r x v → rels r' x v
  | [], v, _, k => by simpa only [rels] using k
  | x :: xs, v, h, k => by
    simp only [rels] at k ⊢
    obtain ⟨y, ys, h1, h2, h3⟩ := k
    simp only [AV.flats, Bool.and_eq_true] at h
    exact ⟨y, ys, h1, rel_flat x _ h.1 h2, rels_flat xs _ h.2 h3⟩
end

def Ren.none : Ren := ⟨fun _ => .none, fun _ => False, fun _ => 0⟩

theorem Sim.none (w : World) (N : Nat) : Sim w.heap.size Ren.none ⟨.nil, N⟩ w :=
  ⟨Nat.le_refl _, fun b c h => (nomatch h), fun b b' c h => (nomatch h), fun b h => False.elim h⟩

/-- what was reckoned on the empty heap, on any heap -/
def liftF (call : CallF) (want : Nat → List AV → Bool) : CallF := fun f args H =>
  bif want f args && AV.flats args then
    match call f args ⟨.nil, 0⟩ with
    | some (v, _) => bif AV.flat v then some (v, H) else none
    | none => none
  else none

theorem lift_ok {P : Program} {call : CallF} (hc : CallOk P call) {f : Nat} {args : List AV} {v : AV} {H1 : Heap} (h : call f args ⟨.nil, 0⟩ = some (v, H1)) (ha : AV.flats args = true) (hv : AV.flat v = true) (H : Heap) :
    (∃ fn, P.funcs[f]? = some fn ∧ (fn.name == "runtime.NumGoroutine") = false ∧ fn.body.isNone = false) ∧ H.next ≤ H.next ∧
    ∀ B r w args', Sim B r H w → rels r args args'.toList → Calls P f args' w (fun e w' => ∃ r' v', e = .returned v' ∧ Sim B r' H w' ∧ Step B H.next r w r' w' ∧ rel r' v v') := by
  obtain ⟨g1, g2, g3⟩ := hc f args _ v H1 h
  refine ⟨g1, Nat.le_refl _, fun B r w args' hS hr => ?_⟩
  refine (g3 w.heap.size Ren.none w args' (Sim.none w 0) (rels_flat _ _ ha hr)).mono fun e w' he => ?_
  obtain ⟨r', v', rfl, hS', hT, hv'⟩ := he
  have hfr : ∀ c, c < w.heap.size → w'.heap[c]? = w.heap[c]? := fun c hcc => hT.frame c hcc (fun b hb => nomatch hb)
  refine ⟨r, v', rfl, ?_, ?_, rel_flat _ _ hv hv'⟩
  · refine ⟨Nat.le_trans hS.low hT.size, fun b c hm => ?_, hS.inj, hS.dead⟩
    obtain ⟨q1, ⟨x, o, q2, q3, q4, q5⟩, q6⟩ := hS.live b c hm
    exact ⟨q1, ⟨x, o, q2, by rw [hfr c (hS.lt hm)]; exact q3, q4, q5⟩, q6⟩
  · exact ⟨.refl r, fun b _ h => .inl ⟨b, h⟩, fun _ _ h1 h2 => ⟨h1, h2⟩, hT.os, hT.tape, hT.output, hT.size, fun c hcc _ => hfr c hcc⟩

end Go.AE
end
