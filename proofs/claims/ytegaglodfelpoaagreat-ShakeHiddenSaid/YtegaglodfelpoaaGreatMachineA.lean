/- What is asked of the world below the run: the package variables lie as the program lays them. -/
import Derived.Test.YtegaglodfelpoaaGreatProg
import GoSem.Claims
import Derived.Test.YtegaglodfelpoaaGreatMachine
import Derived.Laws.Sem
import Derived.Laws.Strings
set_option linter.unusedVariables false
set_option linter.unusedSimpArgs false
section
namespace Go.AE
/-- what stands below a run, in all worlds that agree with it there -/
def Fine (w : World) : Prop := w.ShapedOpen Go.Proofs.Tryz.prog
end Go.AE
end
-- What the abstract machine says of the model's worlds: values, blocks, heaps, frames.
section
namespace Go.AE

/-- where an abstract block lies; which are dead; how many cells the row of one has whose room is not known -/
structure Ren where
  m : Nat → Option Nat
  dead : Nat → Prop
  sz : Nat → Nat

def Ren.at (r : Ren) (b b' : Nat) : Prop := r.m b = some b' ∨ r.dead b

structure Ren.le (r r' : Ren) : Prop where
  dead : ∀ b, r.dead b → r'.dead b
  live : ∀ b c, r.m b = some c → (r'.m b = some c ∧ r'.sz b = r.sz b) ∨ r'.dead b

theorem Ren.le.refl (r : Ren) : r.le r := ⟨fun _ h => h, fun _ _ h => .inl ⟨h, rfl⟩⟩
theorem Ren.le.trans {r s t : Ren} (h : r.le s) (k : s.le t) : r.le t :=
  ⟨fun b hb => k.dead b (h.dead b hb), fun b c hb => by
    rcases h.live b c hb with ⟨h1, h2⟩ | h1
    · rcases k.live b c h1 with ⟨h3, h4⟩ | h3
      · exact .inl ⟨h3, h4.trans h2⟩
      · exact .inr h3
    · exact .inr (k.dead b h1)⟩

/-- the room of a slice: 'l': its length, 'o': where it begins -/
def capOk (r : Ren) (b l o c : Nat) : ACap → Prop
  | .known n => c = n
  | .unk size => l ≤ c ∧ (r.dead b ∨ o + c * size = r.sz b ∨ c = 0)

/-- an empty slice at the end of its row: where it points is not known -/
def amb (l o : Nat) : ACap → Prop
  | .known n => l = 0 ∧ o ≠ 0 ∧ n = 0
  | .unk _ => l = 0 ∧ o ≠ 0

mutual
def rel (r : Ren) : AV → Value → Prop
  | .bool b, v => v = .bool b
  | .int k n, v => v = .int k n
  | .str s, v => v = .string ⟨⟨s⟩⟩
  | .ptr none, v => v = .pointer none
  | .ptr (some (b, o)), v => ∃ b', v = .pointer (some ⟨b', o, none⟩) ∧ r.at b b'
  | .slice none l c, v => ∃ n, c = .known n ∧ v = .slice none l n
  | .slice (some (b, o)) l c, v => ∃ b' o' c', v = .slice (some ⟨b', o', none⟩) l c' ∧ r.at b b' ∧ capOk r b l o' c' c ∧ (o' = o ∨ amb l o c)
  | .map none, v => v = .map none
  | .map (some b), v => ∃ b', v = .map (some b') ∧ r.at b b'
  | .func fn f c, v => ∃ f' c', v = .func fn f' c' ∧ rels r f f'.toList ∧ rels r c c'.toList
  | .nilFunc, v => v = .nilFunc
  | .iface t x, v => ∃ x', v = .iface t x' ∧ rel r x x'
  | .nilIface, v => v = .nilIface
  | .agg cs, v => ∃ cs', v = .agg cs' ∧ rels r cs cs'.toList
  | .tuple cs, v => ∃ cs', v = .tuple cs' ∧ rels r cs cs'.toList
def rels (r : Ren) : List AV → List Value → Prop
  | [], l => l = []
  | x :: xs, l => ∃ y ys, l = y :: ys ∧ rel r x y ∧ rels r xs ys
end

theorem Ren.at.mono {r r' : Ren} (h : r.le r') {b b' : Nat} (k : r.at b b') : r'.at b b' := by
  rcases k with k | k
  · rcases h.live b b' k with ⟨h1, _⟩ | h1
    · exact .inl h1
    · exact .inr h1
  · exact .inr (h.dead b k)

theorem capOk.mono {r r' : Ren} (h : r.le r') {b b' l o c : Nat} {k : ACap} (ha : r.at b b') (hk : capOk r b l o c k) : capOk r' b l o c k := by
  cases k with
  | known n => exact hk
  | unk size =>
    refine ⟨hk.1, ?_⟩
    rcases hk.2 with hd | he | h0
    · exact .inl (h.dead b hd)
    · rcases ha with ha | ha
      · rcases h.live b b' ha with ⟨_, h2⟩ | h1
        · exact .inr (.inl (he.trans h2.symm))
        · exact .inl h1
      · exact .inl (h.dead b ha)
    · exact .inr (.inr h0)

mutual
theorem rel.mono {r r' : Ren} (h : r.le r') : ∀ (x : AV) (v : Value), rel r x v → rel r' x v
  | .bool b, v, k => by simpa only [rel] using k
  | .int k n, v, hk => by simpa only [rel] using hk
  | .str s, v, k => by simpa only [rel] using k
  | .ptr none, v, k => by simpa only [rel] using k
  | .ptr (some (b, o)), v, k => by
    simp only [rel] at k ⊢
    obtain ⟨b', h1, h2⟩ := k
    exact ⟨b', h1, h2.mono h⟩
  | .slice none l c, v, k => by simpa only [rel] using k
  | .slice (some (b, o)) l c, v, k => by
    simp only [rel] at k ⊢
    obtain ⟨b', o', c', h1, h2, h3, h4⟩ := k
    exact ⟨b', o', c', h1, h2.mono h, h3.mono h h2, h4⟩
  | .map none, v, k => by simpa only [rel] using k
  | .map (some b), v, k => by
    simp only [rel] at k ⊢
    obtain ⟨b', h1, h2⟩ := k
    exact ⟨b', h1, h2.mono h⟩
  | .func fn f c, v, k => by
    simp only [rel] at k ⊢
    obtain ⟨f', c', h1, h2, h3⟩ := k
    exact ⟨f', c', h1, rels.mono h f _ h2, rels.mono h c _ h3⟩
  | .nilFunc, v, k => by simpa only [rel] using k
  | .iface t x, v, k => by
    simp only [rel] at k ⊢
    obtain ⟨x', h1, h2⟩ := k
    exact ⟨x', h1, rel.mono h x _ h2⟩
  | .nilIface, v, k => by simpa only [rel] using k
  | .agg cs, v, k => by
    simp only [rel] at k ⊢
    obtain ⟨cs', h1, h2⟩ := k
    exact ⟨cs', h1, rels.mono h cs _ h2⟩
  | .tuple cs, v, k => by
    simp only [rel] at k ⊢
    obtain ⟨cs', h1, h2⟩ := k
    exact ⟨cs', h1, rels.mono h cs _ h2⟩
theorem rels.mono {r r' : Ren} (h : r.le r') : ∀ (x : List AV) (v : List Value), rels r x v → rels r' x v
  | [], v, k => by simpa only [rels] using k
  | x :: xs, v, k => by
    simp only [rels] at k ⊢
    obtain ⟨y, ys, h1, h2, h3⟩ := k
    exact ⟨y, ys, h1, rel.mono h x _ h2, rels.mono h xs _ h3⟩
end

/-! lists -/

theorem rels_nil {r : Ren} : rels r [] [] := by simp [rels]
theorem rels_cons {r : Ren} {x : AV} {xs : List AV} {y : Value} {ys : List Value} (h : rel r x y) (hs : rels r xs ys) : rels r (x :: xs) (y :: ys) := by
  simp only [rels]; exact ⟨y, ys, rfl, h, hs⟩
theorem rels_cons_iff {r : Ren} {x : AV} {xs : List AV} {y : Value} {ys : List Value} : rels r (x :: xs) (y :: ys) ↔ rel r x y ∧ rels r xs ys := by
  constructor
  · intro h
    simp only [rels] at h
    obtain ⟨_, _, he, h1, h2⟩ := h
    obtain ⟨rfl, rfl⟩ := List.cons.inj he
    exact ⟨h1, h2⟩
  · exact fun h => rels_cons h.1 h.2

theorem rels_length {r : Ren} : ∀ {xs : List AV} {ys : List Value}, rels r xs ys → xs.length = ys.length
  | [], ys, h => by simp only [rels] at h; subst h; rfl
  | x :: xs, ys, h => by
    simp only [rels] at h
    obtain ⟨y, ys', rfl, _, h2⟩ := h
    simp [rels_length h2]

theorem rels_get {r : Ren} : ∀ {xs : List AV} {ys : List Value}, rels r xs ys → ∀ (i : Nat) (x : AV), xs[i]? = some x → ∃ y, ys[i]? = some y ∧ rel r x y
  | [], ys, h, i, x, hx => by simp at hx
  | x :: xs, ys, h, i, z, hz => by
    simp only [rels] at h
    obtain ⟨y, ys', rfl, h1, h2⟩ := h
    cases i with
    | zero => simp only [List.getElem?_cons_zero, Option.some.injEq] at hz; subst hz; exact ⟨y, rfl, h1⟩
    | succ i => simp only [List.getElem?_cons_succ] at hz ⊢; exact rels_get h2 i z hz

theorem rels_append {r : Ren} : ∀ {xs : List AV} {ys : List Value} {xs' : List AV} {ys' : List Value}, rels r xs ys → rels r xs' ys' → rels r (xs ++ xs') (ys ++ ys')
  | [], ys, xs', ys', h, h' => by simp only [rels] at h; subst h; exact h'
  | x :: xs, ys, xs', ys', h, h' => by
    simp only [rels] at h
    obtain ⟨y, ys', rfl, h1, h2⟩ := h
    exact rels_cons h1 (rels_append h2 h')

theorem rels_drop {r : Ren} : ∀ (n : Nat) {xs : List AV} {ys : List Value}, rels r xs ys → rels r (xs.drop n) (ys.drop n)
  | 0, xs, ys, h => by simpa using h
  | n + 1, [], ys, h => by simp only [rels] at h; subst h; simp [rels]
  | n + 1, x :: xs, ys, h => by
    simp only [rels] at h
    obtain ⟨y, ys', rfl, _, h2⟩ := h
    simpa using rels_drop n h2

theorem rels_take {r : Ren} : ∀ (n : Nat) {xs : List AV} {ys : List Value}, rels r xs ys → rels r (xs.take n) (ys.take n)
  | 0, xs, ys, h => by simp [rels]
  | n + 1, [], ys, h => by simp only [rels] at h; subst h; simp [rels]
  | n + 1, x :: xs, ys, h => by
    simp only [rels] at h
    obtain ⟨y, ys', rfl, h1, h2⟩ := h
    simpa using rels_cons h1 (rels_take n h2)

theorem rels_map {r : Ren} {α : Type} (f : α → AV) (g : α → Value) : ∀ (l : List α), (∀ a ∈ l, rel r (f a) (g a)) → rels r (l.map f) (l.map g)
  | [], _ => by simp [rels]
  | a :: l, h => by
    simp only [List.map_cons]
    exact rels_cons (h a (by simp)) (rels_map f g l fun b hb => h b (by simp [hb]))

theorem grab_some {n o : Nat} {cs l : List AV} (h : grab n o cs = some l) : l = (cs.drop o).take n ∧ l.length = n := by
  unfold grab at h
  dsimp only at h
  generalize hx : (cs.drop o).take n = x at *
  cases hb : Nat.beq x.length n with
  | false => rw [hb] at h; cases h
  | true =>
    rw [hb] at h
    simp only [cond_true, Option.some.injEq] at h
    exact ⟨h.symm, by rw [← h]; exact Nat.eq_of_beq_eq_true hb⟩

theorem lay_some : ∀ {cs xs r : List AV} {o : Nat}, lay cs o xs = some r → r = cs.take o ++ xs ++ cs.drop (o + xs.length) ∧ o + xs.length ≤ cs.length
  | [], [], r, 0, h => by simp [lay] at h; simp [← h]
  | [], x :: xs, r, 0, h => by simp [lay] at h
  | [], xs, r, o + 1, h => by simp [lay] at h
  | c :: cs, [], r, 0, h => by simp [lay] at h; simp [← h]
  | c :: cs, x :: xs, r, 0, h => by
    simp only [lay] at h
    cases hl : lay cs 0 xs with
    | none => simp [hl] at h
    | some r' =>
      simp only [hl, Option.some.injEq] at h
      obtain ⟨h1, h2⟩ := lay_some hl
      subst h
      simp only [Nat.zero_add, List.take_zero, List.nil_append, List.length_cons, List.drop_succ_cons] at *
      exact ⟨by rw [h1]; simp, by omega⟩
  | c :: cs, xs, r, o + 1, h => by
    simp only [lay] at h
    cases hl : lay cs o xs with
    | none => simp [hl] at h
    | some r' =>
      simp only [hl, Option.some.injEq] at h
      obtain ⟨h1, h2⟩ := lay_some hl
      subst h
      refine ⟨by rw [h1]; simp [Nat.add_right_comm], by simp only [List.length_cons]; omega⟩

theorem rels_lay {r : Ren} {cs xs cs' : List AV} {o : Nat} {ys zs : List Value} (h : lay cs o xs = some cs') (hc : rels r cs ys) (hx : rels r xs zs) :
    rels r cs' (ys.take o ++ zs ++ ys.drop (o + zs.length)) := by
  obtain ⟨h1, _⟩ := lay_some h
  rw [h1, rels_length hx]
  exact rels_append (rels_append (rels_take _ hc) hx) (rels_drop _ hc)

/-! blocks, heaps -/

/-- no cell of a row is frozen -/
def loose (n : Nat) (fr : Nat × Nat) : Prop := ∀ i, i < n → ¬ (fr.1 ≤ i ∧ i < fr.2)

inductive entsRel (r : Ren) : List (AV × AV × Nat) → List MapEntry → Prop
  | nil : entsRel r [] []
  | cons {k v : AV} {n : Nat} {e : MapEntry} {l : List (AV × AV × Nat)} {l' : List MapEntry} (hk : rel r k e.key) (hv : rel r v e.val) (h : entsRel r l l') :
      entsRel r ((k, v, n) :: l) (e :: l')

/-- the stamps of a map's entries -/
def stampsOk (es : Array MapEntry) (clock : Nat) : Prop := (es.toList.map (·.born)).Nodup ∧ ∀ x ∈ es.toList, x.born < clock

/-- no key twice -/
def keysApart (es : List (AV × AV × Nat)) : Prop := (es.map (·.1)).Pairwise fun a b => keyEq a b = some false

def blkRel (r : Ren) (b : Nat) : ABlk → Obj → Prop
  | .cells cs e opn _, o => ∃ cs' fr rest, o = .cells cs' e fr ∧ loose cs'.size fr ∧ (∃ l, cs'.toList = l ++ rest ∧ rels r cs l) ∧
      (bif opn then cs'.size = r.sz b else rest = [])
  | .map es _, o => ∃ es' clock l, o = .map es' clock ∧ l.Perm es ∧ entsRel r l es'.toList ∧ keysApart es ∧ stampsOk es' clock

theorem entsRel.mono {r r' : Ren} (h : r.le r') {l : List (AV × AV × Nat)} {l' : List MapEntry} (k : entsRel r l l') : entsRel r' l l' := by
  induction k with
  | nil => exact .nil
  | cons hk hv _ ih => exact .cons (rel.mono h _ _ hk) (rel.mono h _ _ hv) ih

theorem blkRel.mono {r r' : Ren} (h : r.le r') {b : Nat} (hs : r'.sz b = r.sz b) {x : ABlk} {o : Obj} (k : blkRel r b x o) : blkRel r' b x o := by
  cases x with
  | cells cs e opn ro =>
    obtain ⟨cs', fr, rest, h1, h2, ⟨l, h3, h4⟩, h5⟩ := k
    exact ⟨cs', fr, rest, h1, h2, ⟨l, h3, rels.mono h _ _ h4⟩, by rw [hs]; exact h5⟩
  | map es clock =>
    obtain ⟨es', clock', l, h1, h2, h3, h4⟩ := k
    exact ⟨es', clock', l, h1, h2, h3.mono h, h4⟩

def ABlk.ro : ABlk → Bool
  | .cells _ _ _ ro => ro
  | .map _ _ => false

/-- a heap, and a world: below B nothing may be written -/
structure Sim (B : Nat) (r : Ren) (H : Heap) (w : World) : Prop where
  low : B ≤ w.heap.size
  live : ∀ b c, r.m b = some c → b < H.next ∧ (∃ x o, H.t.get b = some x ∧ w.heap[c]? = some o ∧ blkRel r b x o ∧ (c < B → x.ro = true)) ∧ ¬ r.dead b
  inj : ∀ b b' c, r.m b = some c → r.m b' = some c → b = b'
  dead : ∀ b, r.dead b → b < H.next ∧ H.t.get b = none
  good : ∀ w' : World, (∀ c, c < B → w'.heap[c]? = w.heap[c]?) → Fine w'

/-- what a run may do: below B nothing is written; numbers below N that stand for nothing stand for nothing still -/
structure Step (B N : Nat) (r : Ren) (w : World) (r' : Ren) (w' : World) : Prop where
  le : r.le r'
  img : ∀ b c, r'.m b = some c → (∃ b0, r.m b0 = some c) ∨ w.heap.size ≤ c
  unborn : ∀ b, b < N → r.m b = none → ¬ r.dead b → r'.m b = none ∧ ¬ r'.dead b
  os : w'.os = w.os
  tape : w'.tape = w.tape
  output : w'.output = w.output
  size : w.heap.size ≤ w'.heap.size
  frame : ∀ c, c < w.heap.size → (∀ b, r.m b = some c → c < B) → w'.heap[c]? = w.heap[c]?

theorem Step.refl (B N : Nat) (r : Ren) (w : World) : Step B N r w r w :=
  ⟨.refl r, fun b _ h => .inl ⟨b, h⟩, fun _ _ h1 h2 => ⟨h1, h2⟩, rfl, rfl, rfl, Nat.le_refl _, fun _ _ _ => rfl⟩

theorem Step.trans {B N : Nat} {r r' r'' : Ren} {w w' w'' : World} (h : Step B N r w r' w') (k : Step B N r' w' r'' w'') : Step B N r w r'' w'' where
  le := h.le.trans k.le
  img := fun b c hb => by
    rcases k.img b c hb with ⟨b0, h0⟩ | hc
    · exact h.img b0 c h0
    · exact .inr (Nat.le_trans h.size hc)
  unborn := fun b hb h1 h2 => by
    obtain ⟨h3, h4⟩ := h.unborn b hb h1 h2
    exact k.unborn b hb h3 h4
  os := k.os.trans h.os
  tape := k.tape.trans h.tape
  output := k.output.trans h.output
  size := Nat.le_trans h.size k.size
  frame := fun c hc hb => by
    rw [k.frame c (Nat.lt_of_lt_of_le hc h.size) ?_, h.frame c hc hb]
    intro b hm
    rcases h.img b c hm with ⟨b0, h0⟩ | h0
    · exact hb b0 h0
    · omega

theorem Step.weaken {B N N' : Nat} {r r' : Ren} {w w' : World} (h : Step B N r w r' w') (hN : N' ≤ N) : Step B N' r w r' w' :=
  { h with unborn := fun b hb => h.unborn b (Nat.lt_of_lt_of_le hb hN) }

/-- the draws do not matter -/
theorem Sim.drawn {B : Nat} {r : Ren} {H : Heap} {w : World} (h : Sim B r H w) (n : Nat) : Sim B r H { w with drawn := n } := ⟨h.low, h.live, h.inj, h.dead, h.good⟩

theorem Step.drawn (B N : Nat) (r : Ren) (w : World) (n : Nat) : Step B N r w r { w with drawn := n } :=
  ⟨.refl r, fun b _ h => .inl ⟨b, h⟩, fun _ _ h1 h2 => ⟨h1, h2⟩, rfl, rfl, rfl, Nat.le_refl _, fun _ _ _ => rfl⟩

theorem Sim.lt {B : Nat} {r : Ren} {H : Heap} {w : World} (h : Sim B r H w) {b c : Nat} (hm : r.m b = some c) : c < w.heap.size := by
  obtain ⟨_, ⟨_, _, _, h2, _⟩, _⟩ := h.live b c hm
  exact (Array.getElem?_eq_some_iff.1 h2).1

/-- a new block -/
def Ren.add (r : Ren) (i c n : Nat) : Ren := { m := fun b => if b = i then some c else r.m b, dead := r.dead, sz := fun b => if b = i then n else r.sz b }

theorem Ren.add_le {r : Ren} {i c n : Nat} (h : r.m i = none) : r.le (r.add i c n) :=
  ⟨fun _ h => h, fun b c' hb => .inl (by
    have : b ≠ i := fun e => by subst e; rw [h] at hb; cases hb
    simp [Ren.add, this, hb])⟩

theorem Sim.alloc {B : Nat} {r : Ren} {H : Heap} {w : World} (hS : Sim B r H w) {i : Nat} (h1 : r.m i = none) (h2 : ¬ r.dead i) {H' : Heap} (hn : H.next ≤ H'.next) (hi : i < H'.next)
    (hH : ∀ b, b ≠ i → H'.t.get b = H.t.get b) {x : ABlk} (hx : H'.t.get i = some x) {obj : Obj} {n : Nat} (d : Nat)
    (hb : ∀ r', r.le r' → r'.m i = some w.heap.size → r'.sz i = n → blkRel r' i x obj) :
    Sim B (r.add i w.heap.size n) H' { w with heap := w.heap.push obj, drawn := d } where
  low := by simp only [Array.size_push]; exact Nat.le_succ_of_le hS.low
  live := fun b c hm => by
    by_cases e : b = i
    · subst e
      have hc : c = w.heap.size := by simp [Ren.add] at hm; exact hm.symm
      subst hc
      refine ⟨hi, ⟨x, obj, hx, by simp, hb _ (Ren.add_le h1) (by simp [Ren.add]) (by simp [Ren.add]), fun h => absurd h (Nat.not_lt.2 hS.low)⟩, h2⟩
    · have hm' : r.m b = some c := by simpa [Ren.add, e] using hm
      obtain ⟨g1, ⟨y, o, g2, g3, g4, g5⟩, g6⟩ := hS.live b c hm'
      refine ⟨Nat.lt_of_lt_of_le g1 hn, ⟨y, o, by rw [hH b e]; exact g2, ?_, g4.mono (Ren.add_le h1) (by simp [Ren.add, e]), g5⟩, g6⟩
      have := hS.lt hm'
      simp only [Array.getElem?_push]
      rw [if_neg (by omega)]
      exact g3
  inj := fun b b' c hm hm' => by
    have key : ∀ b c, (r.add i w.heap.size n).m b = some c → (b = i ∧ c = w.heap.size) ∨ (b ≠ i ∧ r.m b = some c) := by
      intro b c h
      by_cases e : b = i
      · left; subst e; simp [Ren.add] at h; exact ⟨rfl, h.symm⟩
      · right; exact ⟨e, by simpa [Ren.add, e] using h⟩
    rcases key b c hm with ⟨e, hc⟩ | ⟨e, hr⟩ <;> rcases key b' c hm' with ⟨e', hc'⟩ | ⟨e', hr'⟩
    · rw [e, e']
    · have := hS.lt hr'; omega
    · have := hS.lt hr; omega
    · exact hS.inj b b' c hr hr'
  dead := fun b hd => by
    obtain ⟨g1, g2⟩ := hS.dead b hd
    have : b ≠ i := fun e => h2 (e ▸ hd)
    exact ⟨Nat.lt_of_lt_of_le g1 hn, by rw [hH b this]; exact g2⟩
  good := fun w' hw => hS.good w' fun c hc => by
    rw [hw c hc]
    have := hS.low
    simp only [Array.getElem?_push]
    rw [if_neg (by omega)]

theorem Step.alloc {B N : Nat} {r : Ren} {w : World} {i : Nat} (h1 : r.m i = none) (hN : N ≤ i) (obj : Obj) (n d : Nat) :
    Step B N r w (r.add i w.heap.size n) { w with heap := w.heap.push obj, drawn := d } where
  le := Ren.add_le h1
  img := fun b c hb => by
    by_cases e : b = i
    · subst e; simp [Ren.add] at hb; exact .inr (by omega)
    · exact .inl ⟨b, by simpa [Ren.add, e] using hb⟩
  unborn := fun b hb g1 g2 => ⟨by simp [Ren.add, show b ≠ i by omega, g1], g2⟩
  os := rfl
  tape := rfl
  output := rfl
  size := by simp
  frame := fun c hc _ => by simp only [Array.getElem?_push]; rw [if_neg (by omega)]

/-- the frame of a call -/
def FRel (r : Ren) (a : Frm) (a' : Act) : Prop := ∀ t, rel r ((a.get t).getD aundef) (a'.tmps.getD t undef)

theorem FRel.mono {r r' : Ren} (h : r.le r') {a : Frm} {a' : Act} (k : FRel r a a') : FRel r' a a' := fun t => rel.mono h _ _ (k t)

theorem rel_undef {r : Ren} : rel r aundef undef := by simp [aundef, undef, rel, rels]

theorem FRel.put {r : Ren} {a : Frm} {a' : Act} (h : FRel r a a') {v : AV} {v' : Value} (hv : rel r v v') : ∀ {dst : Option Nat}, (∀ d, dst = some d → d < a'.tmps.size) →
    FRel r (AE.put a dst v) (a'.put dst v')
  | none, _ => h
  | some d, hd => fun t => by
    have hd := hd d rfl
    simp only [AE.put, Act.put, T.get_set]
    by_cases e : d = t
    · subst e; simp [hd, hv]
    · have := h t
      simp only [e, if_false]
      simpa [Array.getElem?_setIfInBounds_ne e] using this

end Go.AE
end
-- From the model's operations to the abstract machine's.
section
namespace Go.AE

def cAtom : Value → Option AV
  | .bool b => some (.bool b)
  | .int k n => some (.int k n)
  | .string s => some (.str s.data.toList)
  | .pointer none => some (.ptr none)
  | .slice none l c => some (.slice none l (.known c))
  | .map none => some (.map none)
  | .nilFunc => some .nilFunc
  | .nilIface => some .nilIface
  | _ => none

def cAtoms : List Value → Option (List AV)
  | [] => some []
  | v :: vs => match cAtom v, cAtoms vs with
    | some x, some xs => some (x :: xs)
    | _, _ => none

def cV : Value → Option AV
  | .agg cs => match cAtoms cs.toList with
    | some l => some (.agg l)
    | none => none
  | .tuple cs => match cAtoms cs.toList with
    | some l => some (.tuple l)
    | none => none
  | .iface t v => match cAtom v with
    | some x => some (.iface t x)
    | none => none
  | v => cAtom v

def cX : Operand → Option AX
  | .tmp t => some (.tmp t)
  | .const v => match cV v with
    | some x => some (.const x)
    | none => none
  | .func f => some (.const (.func (.func f) [] []))
  | .global _ => none

def cXs : List Operand → Option (List AX)
  | [] => some []
  | x :: xs => match cX x, cXs xs with
    | some y, some ys => some (y :: ys)
    | _, _ => none

def cOX : Option Operand → Option (Option AX)
  | none => some none
  | some x => match cX x with
    | some y => some (some y)
    | none => none

def sizeP (P : Program) (t : TypeId) : Option Nat := (P.info? t).map (·.size)

def aggP (P : Program) (t : TypeId) : Option Bool := (P.underlying t).map fun | .struct _ | .array _ _ => true | _ => false

/-- the zero value's cells, of just as many cells as the type has -/
def zeroP (P : Program) (t : TypeId) : Option (List AV) :=
  match P.info? t with
  | some i => match i.zero with
    | some z => match cV z with
      | some v => bif Nat.beq v.cells.length i.size then some v.cells else none
      | none => none
    | none => none
  | none => none

def zeroV (P : Program) (t : TypeId) : Option AV :=
  match P.info? t with
  | some i => match i.zero with
    | some z => cV z
    | none => none
  | none => none

def cParts (place : Nat → Option (Nat × Nat)) : List (Nat × Operand) → Option (List (Nat × Nat × AX))
  | [] => some []
  | (i, x) :: ps => match place i, cX x, cParts place ps with
    | some (o, n), some y, some l => some ((o, n, y) :: l)
    | _, _, _ => none

def fieldP (P : Program) (fields : Array Field) (i : Nat) : Option (Nat × Nat) :=
  match fields[i]? with
  | some f => match sizeP P f.type with
    | some n => some (f.offset, n)
    | none => none
  | none => none

def placesP (P : Program) : List Field → Option (List (Nat × Nat))
  | [] => some []
  | f :: fs => match sizeP P f.type, placesP P fs with
    | some n, some l => some ((f.offset, n) :: l)
    | _, _ => none

def keyP (P : Program) (t : TypeId) : Option KeyKind :=
  match P.underlying t with
  | some (.int _) => some .int
  | some .string => some .str
  | some .bool => some .bool
  | _ => none

def isConstX : AX → Bool
  | .const _ => true
  | _ => false

def cBin (P : Program) (op : BinOp) (t : TypeId) (x y : AX) : Option AOp :=
  match P.underlying t with
  | some (.int _) => some (.ibin op x y)
  | some .string => some (.sbin op x y)
  | some .bool => match op with | .eql => some (.eqv false .bool x y) | .neq => some (.eqv true .bool x y) | _ => none
  | some (.pointer _) => match op with | .eql => some (.eqv false .ptr x y) | .neq => some (.eqv true .ptr x y) | _ => none
  | some (.interface _) => bif isConstX x || isConstX y then (match op with | .eql => some (.eqv false .iface x y) | .neq => some (.eqv true .iface x y) | _ => none) else none
  | some (.slice _) => match op with | .eql => some (.eqv false .slice x y) | .neq => some (.eqv true .slice x y) | _ => none
  | some (.map _ _) => match op with | .eql => some (.eqv false .map x y) | .neq => some (.eqv true .map x y) | _ => none
  | some (.func _ _ _) => match op with | .eql => some (.eqv false .func x y) | .neq => some (.eqv true .func x y) | _ => none
  | _ => none

def cConv (P : Program) (src dst : TypeId) (x : AX) : Option AOp :=
  match P.underlying src, P.underlying dst with
  | some (.int _), some (.int k) => some (.convInt k x)
  | some .string, some .string => some (.strToStr x)
  | some .string, some (.slice e) => match P.underlying e with
    | some (.int .u8) => some (.strToBytes e x)
    | _ => none
  | some (.slice e), some .string => match P.underlying e with
    | some (.int .u8) => some (.bytesToStr x)
    | _ => none
  | _, _ => none

def cSlice (P : Program) (t : TypeId) (x : AX) (lo hi mx : Option AX) : Option AOp :=
  match P.underlying t with
  | some (.array n e) => match sizeP P e with
    | some s => some (.sliceArr n s x lo hi mx)
    | none => none
  | some .string => match mx with
    | none => some (.sliceStr x lo hi)
    | some _ => none
  | some (.slice e) => match sizeP P e with
    | some s => some (.sliceSl s x lo hi mx)
    | none => none
  | some (.pointer arr) => match P.underlying arr with
    | some (.array n e) => match sizeP P e with
      | some s => some (.sliceArr n s x lo hi mx)
      | none => none
    | _ => none
  | _ => none

def cBuiltin (P : Program) (b : Builtin) (ats : Array TypeId) (args : List AX) : Option AOp :=
  match b, args with
  | .len, [x] => match ats[0]? with
    | some t => match P.underlying t with
      | some .string => some (.lenStr x)
      | some (.array n _) => some (.lenArr n)
      | some (.pointer arr) => match P.underlying arr with
        | some (.array n _) => some (.lenArr n)
        | _ => none
      | some (.slice _) => some (.lenSl x)
      | some (.map _ _) => some (.lenMap x)
      | _ => none
    | none => none
  | .append, [s, x] => match ats[0]?, ats[1]? with
    | some t, some u => match P.underlying t, P.underlying u with
      | some (.slice e), some d => match d with
        | .int _ => none
        | _ => match P.info? e with
          | some i => match zeroP P e with
            | some _ => some (.append e i.size i.bytes s x)
            | none => none
          | none => none
      | _, _ => none
    | _, _ => none
  | .copy, [d, s] => match ats[0]? with
    | some t => match P.underlying t with
      | some (.slice e) => match sizeP P e with
        | some n => some (.copy n d s)
        | none => none
      | _ => none
    | none => none
  | .min, args => some (.minI args)
  | .max, args => some (.maxI args)
  | .delete, [m, k] => match ats[0]? with
    | some t => match P.underlying t with
      | some (.map kt _) => match keyP P kt with | some kk => some (.delete kk m k) | none => none
      | _ => none
    | none => none
  | _, _ => none

def cOp (P : Program) (o : Op) : Option AOp :=
  match o with
  | .move x | .assign x => match cX x with | some x => some (.mov x) | none => none
  | .pick c x y => match cX c, cX x, cX y with | some c, some x, some y => some (.pick c x y) | _, _, _ => none
  | .alloc e => match zeroP P e with | some z => some (.alloc e z) | none => none
  | .box e x => match cX x with | some x => some (.box e x) | none => none
  | .build t parts => match zeroP P t, P.underlying t with
    | some z, some (.struct fs) => match placesP P fs.toList with
      | some pl => match cParts (fun i => pl[i]?) parts.toList with | some l => some (.build z l) | none => none
      | none => none
    | some z, some (.array _ e) => match sizeP P e with
      | some n => match cParts (fun i => some (i * n, n)) parts.toList with | some l => some (.build z l) | none => none
      | none => none
    | _, _ => none
  | .buildSlice t len parts => match P.underlying t with
    | some (.slice e) => match zeroP P e, sizeP P e with
      | some z, some n => bif Nat.ble (len * n) 16777216 then
          match cParts (fun i => some (i * n, n)) parts.toList with | some l => some (.buildSlice e (repl len z) len l) | none => none
        else none
      | _, _ => none
    | _ => none
  | .load t x => match cX x, aggP P t with
    | some x, some true => match sizeP P t with | some n => some (.loadN n x) | none => none
    | some x, some false => some (.load1 x)
    | _, _ => none
  | .store t x y => match cX x, cX y, sizeP P t with | some x, some y, some n => some (.store n x y) | _, _, _ => none
  | .nilCheck x => match cX x with | some x => some (.nilCheck x) | none => none
  | .binOp op t x y _ => match cX x, cX y with | some x, some y => cBin P op t x y | _, _ => none
  | .unOp op _ x => match cX x with | some x => some (.un op x) | none => none
  | .convert s d x => match cX x with | some x => cConv P s d x | none => none
  | .sliceToArrayPointer t x => match cX x, P.underlying t with | some x, some (.array n _) => some (.arrPtr n x) | _, _ => none
  | .makeInterface t x => match cX x, P.underlying t with
    | some _, some (.interface _) => none
    | some x, some _ => some (.mkIface t x)
    | _, _ => none
  | .makeFunc fn f c => match cXs f.toList, cXs c.toList with | some f, some c => some (.mkFunc fn f c) | _, _ => none
  | .makeMap t h => match P.underlying t, cOX (h) with | some (.map _ _), some h => some (.makeMap h) | _, _ => none
  | .makeSlice t l c => match P.underlying t, cX l, cX c with
    | some (.slice e), some l, some c => match P.info? e, zeroP P e with
      | some i, some z => some (.makeSlice e i.bytes z l c)
      | _, _ => none
    | _, _, _ => none
  | .slice t x lo hi mx => match cX x, cOX lo, cOX hi, cOX mx with
    | some x, some lo, some hi, some mx => cSlice P t x lo hi mx
    | _, _, _, _ => none
  | .fieldAddr s x i => match cX x, P.underlying s with
    | some x, some (.struct fs) => match fieldP P fs i with
      | some (o, n) => bif Nat.beq n 0 then none else some (.fieldAddr o x)
      | none => none
    | _, _ => none
  | .field t x i => match cX x, P.underlying t with
    | some x, some (.struct fs) => match fs[i]? with
      | some f => match aggP P f.type, sizeP P f.type with
        | some true, some n => some (.partN f.offset n x)
        | some false, some _ => some (.part f.offset x)
        | _, _ => none
      | none => none
    | _, _ => none
  | .indexAddr t x i => match cX x, cX i, P.underlying t with
    | some x, some i, some (.array n e) => match sizeP P e with | some s => some (.indexArr n s x i) | none => none
    | some x, some i, some (.slice e) => match sizeP P e with | some s => some (.indexSl s x i) | none => none
    | _, _, _ => none
  | .index t x i => match cX x, cX i, P.underlying t with
    | some x, some i, some (.array n e) => match sizeP P e, aggP P e with
      | some s, some true => some (.indexValN n s x i)
      | some s, some false => some (.indexVal n s x i)
      | _, _ => none
    | some x, some i, some .string => some (.indexStr x i)
    | _, _, _ => none
  | .lookup t m k ok => match cX m, cX k, P.underlying t with
    | some m, some k, some (.map kt e) => (match keyP P kt, zeroV P e with | some kk, some z => some (.lookup kk z ok m k) | _, _ => none)
    | _, _, _ => none
  | .mapUpdate t m k x | .insert t m k x => match cX m, cX k, cX x, P.underlying t with
    | some m, some k, some x, some (.map kt _) => (match keyP P kt with | some kk => some (.mapUpdate kk m k x) | none => none)
    | _, _, _, _ => none
  | .typeAssert x _ t ok => match cX x, P.underlying t with
    | some _, some (.interface _) => none
    | some x, some _ => match zeroV P t with | some z => some (.assert t z ok x) | none => none
    | _, _ => none
  | .extract x i => match cX x with | some x => some (.extract i x) | none => none
  | .call c => match cXs c.args.toList with
    | some args => match c.callee with
      | .value f => match cX f with | some f => some (.call f args) | none => none
      | .invoke r n => match cX r with | some r => some (.callM r n args) | none => none
      | .builtin b => cBuiltin P b c.argTypes args
    | none => none
  | _ => none

/-! operands -/

theorem cAtom_rel {r : Ren} {v : Value} {x : AV} (h : cAtom v = some x) : rel r x v := by
  unfold cAtom at h
  split at h <;> first | (cases h; simp [rel]) | cases h

theorem cAtoms_rel {r : Ren} : ∀ {l : List Value} {xs : List AV}, cAtoms l = some xs → rels r xs l
  | [], xs, h => by simp [cAtoms] at h; subst h; exact rels_nil
  | v :: vs, xs, h => by
    simp only [cAtoms] at h
    split at h
    · rename_i x y hx hy
      cases h
      exact rels_cons (cAtom_rel hx) (cAtoms_rel hy)
    · cases h

theorem cV_rel {r : Ren} {v : Value} {x : AV} (h : cV v = some x) : rel r x v := by
  unfold cV at h
  split at h
  · split at h
    · rename_i l hl; cases h; simp only [rel]; exact ⟨_, rfl, cAtoms_rel hl⟩
    · cases h
  · split at h
    · rename_i l hl; cases h; simp only [rel]; exact ⟨_, rfl, cAtoms_rel hl⟩
    · cases h
  · split at h
    · rename_i t w x hx; cases h; simp only [rel]; exact ⟨_, rfl, cAtom_rel hx⟩
    · cases h
  · exact cAtom_rel h

theorem cX_rel {r : Ren} {a : Frm} {a' : Act} (hF : FRel r a a') {x : Operand} {y : AX} (h : cX x = some y) : rel r (evalX a y) (a'.eval x) := by
  unfold cX at h
  split at h
  · cases h; exact hF _
  · split at h
    · cases h; rename_i hv; exact cV_rel hv
    · cases h
  · cases h; simp [evalX, Act.eval, rel, rels]
  · cases h

theorem cXs_rel {r : Ren} {a : Frm} {a' : Act} (hF : FRel r a a') : ∀ {l : List Operand} {ys : List AX}, cXs l = some ys → rels r (ys.map (evalX a)) (l.map a'.eval)
  | [], ys, h => by simp [cXs] at h; subst h; exact rels_nil
  | x :: xs, ys, h => by
    simp only [cXs] at h
    split at h
    · rename_i y zs hy hz
      cases h
      exact rels_cons (cX_rel hF hy) (cXs_rel hF hz)
    · cases h

/-! the model's small questions -/
section
variable {P : Program} {w : World}
theorem run_underlying {t : TypeId} {d : TypeDesc} (h : P.underlying t = some d) : (underlying t).run P w = .ok d w := by simp [underlying, h]
theorem run_typeInfo {t : TypeId} {i : TypeInfo} (h : P.info? t = some i) : (typeInfo t).run P w = .ok i w := by simp [typeInfo, h]
theorem run_sizeOf {t : TypeId} {n : Nat} (h : sizeP P t = some n) : (sizeOf t).run P w = .ok n w := by
  unfold sizeP at h
  cases hi : P.info? t with
  | none => rw [hi] at h; cases h
  | some i => rw [hi] at h; cases h; simp [sizeOf, run_typeInfo hi]
theorem run_isAgg {t : TypeId} {b : Bool} (h : aggP P t = some b) : (isAgg t).run P w = .ok b w := by
  unfold aggP at h
  cases hi : P.underlying t with
  | none => rw [hi] at h; cases h
  | some d =>
    rw [hi] at h; cases h
    unfold isAgg
    simp only [Sem.run_bind, run_underlying hi, Result.andThen_ok]
    cases d <;> rfl
end

theorem rel_one {r : Ren} {x : AV} {v : Value} (h : rel r x v) (hx : x.cells = [x]) : v.cells = #[v] := by
  cases x with
  | ptr p => cases p <;> simp only [rel] at h <;> first | (subst h; rfl) | (obtain ⟨_, rfl, _⟩ := h; rfl)
  | slice p l c => cases p <;> simp only [rel] at h <;> first | (obtain ⟨_, _, rfl⟩ := h; rfl) | (obtain ⟨_, _, _, rfl, _⟩ := h; rfl)
  | map p => cases p <;> simp only [rel] at h <;> first | (subst h; rfl) | (obtain ⟨_, rfl, _⟩ := h; rfl)
  | agg cs => simp only [AV.cells] at hx; have := congrArg (fun l : List AV => SizeOf.sizeOf l) hx; simp at this; omega
  | func fn f c => simp only [rel] at h; obtain ⟨_, _, rfl, _⟩ := h; rfl
  | iface t y => simp only [rel] at h; obtain ⟨_, rfl, _⟩ := h; rfl
  | tuple cs => simp only [rel] at h; obtain ⟨_, rfl, _⟩ := h; rfl
  | _ => simp only [rel] at h; subst h; rfl

theorem rel_cells {r : Ren} {x : AV} {v : Value} (h : rel r x v) : rels r x.cells v.cells.toList := by
  by_cases hx : x.cells = [x]
  · rw [hx, rel_one h hx]; exact rels_cons h rels_nil
  · cases x with
    | agg cs => simp only [rel] at h; obtain ⟨cs', rfl, hs⟩ := h; exact hs
    | _ => exact absurd rfl hx

/-! what the heap says of the world -/
section
variable {B : Nat} {r : Ren} {H : Heap} {w : World} {P : Program}

theorem cellsAt_some {b : Nat} {cs : List AV} (h : H.cellsAt b = some cs) : ∃ e op ro, H.t.get b = some (.cells cs e op ro) := by
  unfold Heap.cellsAt at h
  split at h
  · rename_i e op ro hb; cases h; exact ⟨e, op, ro, hb⟩
  · cases h

/-- a block that an address leads to -/
theorem Sim.block (hS : Sim B r H w) {b b' : Nat} (ha : r.at b b') {x : ABlk} (h : H.t.get b = some x) :
    r.m b = some b' ∧ ∃ o, w.heap[b']? = some o ∧ blkRel r b x o ∧ (b' < B → x.ro = true) := by
  rcases ha with ha | ha
  · obtain ⟨_, ⟨y, o, h1, h2, h3, h4⟩, _⟩ := hS.live b b' ha
    rw [h] at h1; cases h1
    exact ⟨ha, o, h2, h3, h4⟩
  · rw [(hS.dead b ha).2] at h; cases h

theorem Sim.cells (hS : Sim B r H w) {b b' : Nat} (ha : r.at b b') {cs : List AV} (h : H.cellsAt b = some cs) :
    ∃ cs' e fr l rest, w.heap[b']? = some (.cells cs' e fr) ∧ loose cs'.size fr ∧ cs'.toList = l ++ rest ∧ rels r cs l := by
  obtain ⟨e, op, ro, hb⟩ := cellsAt_some h
  obtain ⟨_, o, h1, h2, _⟩ := hS.block ha hb
  obtain ⟨cs', fr, rest, rfl, h3, ⟨l, h4, h5⟩, _⟩ := h2
  exact ⟨cs', e, fr, l, rest, h1, h3, h4, h5⟩

theorem Sim.cell (hS : Sim B r H w) {b b' o : Nat} (ha : r.at b b') {cs : List AV} (h : H.cellsAt b = some cs) {x : AV} (hx : cs[o]? = some x) :
    ∃ v, w.cell? ⟨b', o, none⟩ = some v ∧ rel r x v := by
  obtain ⟨cs', e, fr, l, rest, h1, _, h3, h4⟩ := hS.cells ha h
  obtain ⟨v, hv, hr⟩ := rels_get h4 o x hx
  refine ⟨v, ?_, hr⟩
  have hlt : o < l.length := (List.getElem?_eq_some_iff.1 hv).1
  have : cs'[o]? = some v := by rw [← Array.getElem?_toList, h3, List.getElem?_append_left hlt, hv]
  simp [World.cell?, h1, this]

theorem run_load_cell {a : Addr} {v : Value} (h : w.cell? a = some v) : (Go.load a).run P w = .ok v w := by simp [h]

theorem Addr.add_eq (b o n : Nat) : (⟨b, o, none⟩ : Addr).add n = ⟨b, o + n, none⟩ := by
  unfold Addr.add; split
  · rename_i h; subst h; rfl
  · rfl

theorem run_loadCellsFrom {b o : Nat} : ∀ (n i : Nat) (acc : Array Value) (vs : List Value), vs.length = n → (∀ j v, vs[j]? = some v → w.cell? ⟨b, o + (i + j), none⟩ = some v) →
    (loadCellsFrom ⟨b, o, none⟩ i n acc).run P w = .ok (acc ++ vs.toArray) w := by
  intro n
  induction n with
  | zero => intro i acc vs hl _; cases vs with
    | nil => simp [loadCellsFrom]
    | cons v vs => simp at hl
  | succ n ih =>
    intro i acc vs hl hv
    cases vs with
    | nil => simp at hl
    | cons v vs =>
      simp only [loadCellsFrom, Sem.run_bind, Addr.add_eq]
      rw [run_load_cell (by simpa using hv 0 v rfl)]
      simp only [Result.andThen_ok]
      rw [ih (i + 1) (acc.push v) vs (by simpa using hl) (fun j u hj => by have := hv (j + 1) u (by simpa using hj); rw [show o + (i + 1 + j) = o + (i + (j + 1)) by omega]; exact this)]
      simp

theorem Sim.row (hS : Sim B r H w) {b b' o n : Nat} (ha : r.at b b') {l : List AV} (h : H.loadN b o n = some l) :
    ∃ vs : List Value, rels r l vs ∧ vs.length = n ∧ ∀ j v, vs[j]? = some v → w.cell? ⟨b', o + (0 + j), none⟩ = some v := by
  unfold Heap.loadN at h
  split at h
  · rename_i cs hc
    obtain ⟨h1, h2⟩ := grab_some h
    obtain ⟨cs', e, fr, k, rest, h3, _, h4, h5⟩ := hS.cells ha hc
    have hr : rels r l ((k.drop o).take n) := by rw [h1]; exact rels_take n (rels_drop o h5)
    refine ⟨(k.drop o).take n, hr, (rels_length hr).symm.trans h2, ?_⟩
    · intro j v hj
      rw [List.getElem?_take] at hj
      split at hj
      · rw [List.getElem?_drop] at hj
        have hlt := (List.getElem?_eq_some_iff.1 hj).1
        have : cs'[o + j]? = some v := by rw [← Array.getElem?_toList, h4, List.getElem?_append_left hlt, hj]
        simp [World.cell?, h3, this]
      · cases hj
  · cases h

theorem Sim.loadCells (hS : Sim B r H w) {b b' o n : Nat} (ha : r.at b b') {l : List AV} (h : H.loadN b o n = some l) :
    ∃ vs : List Value, rels r l vs ∧ (Go.loadCells ⟨b', o, none⟩ n).run P w = .ok vs.toArray w := by
  obtain ⟨vs, h1, h2, h3⟩ := hS.row ha h
  refine ⟨vs, h1, ?_⟩
  unfold Go.loadCells
  rw [run_loadCellsFrom n 0 #[] vs h2 h3]
  simp
end
end Go.AE
end
-- Numbers and strings: the abstract machine's operations are the model's.
section
namespace Go.AE

theorem natble (a b : Nat) : Nat.ble a b = decide (a ≤ b) := by
  by_cases h : a ≤ b
  · simp [h, Nat.ble_eq]
  · simp only [h, decide_false]; exact Bool.eq_false_iff.2 fun e => h (by simpa [Nat.ble_eq] using e)

theorem natbeq (a b : Nat) : Nat.beq a b = decide (a = b) := by
  by_cases h : a = b
  · subst h; simp
  · simp only [h, decide_false]; exact Bool.eq_false_iff.2 fun e => h (Nat.eq_of_beq_eq_true e)

theorem ble'_iff : ∀ a b : Int, fits.Int.ble' a b = decide (a ≤ b)
  | .ofNat a, .ofNat b => by simp [fits.Int.ble', natble]
  | .ofNat a, .negSucc b => by
    simp only [fits.Int.ble']; symm; rw [decide_eq_false_iff_not]
    show ¬ ((a : Int) ≤ Int.negSucc b); omega
  | .negSucc a, .ofNat b => by
    simp only [fits.Int.ble']; symm; rw [decide_eq_true_eq]
    show (Int.negSucc a ≤ (b : Int)); omega
  | .negSucc a, .negSucc b => by
    have h : (b ≤ a) ↔ (Int.negSucc a ≤ Int.negSucc b) := by omega
    simp [fits.Int.ble', natble, h]

theorem fits_iff (k : IntKind) (n : Int) : fits k n = true ↔ lo k ≤ n ∧ n ≤ hi k := by
  simp [fits, ble'_iff]

theorem wrap_fits {k : IntKind} {n : Int} (h : fits k n = true) : k.wrap n = n := by
  rw [fits_iff] at h
  cases k <;> simp [lo, hi] at h <;> simp [IntKind.wrap, IntKind.bits, IntKind.signed] <;> (try split) <;> omega

theorem wrapK_eq (k : IntKind) (n : Int) : wrapK k n = k.wrap n := by
  unfold wrapK
  cases h : fits k n with
  | true => rw [wrap_fits h]; rfl
  | false => rfl

theorem ieq_eq : ∀ a b : Int, ieq a b = (a == b)
  | .ofNat a, .ofNat b => by
    show Nat.beq a b = ((a : Int) == (b : Int))
    rw [natbeq]
    by_cases h : a = b
    · subst h; simp
    · have : ¬ ((a : Int) = b) := by omega
      rw [decide_eq_false h]; symm; exact beq_eq_false_iff_ne.2 this
  | .ofNat a, .negSucc b => by simp [ieq]
  | .negSucc a, .ofNat b => by simp [ieq]
  | .negSucc a, .negSucc b => by
    show Nat.beq a b = (Int.negSucc a == Int.negSucc b)
    rw [natbeq]
    by_cases h : a = b
    · subst h; simp
    · have : ¬ (Int.negSucc a = Int.negSucc b) := by omega
      rw [decide_eq_false h]; symm; exact beq_eq_false_iff_ne.2 this

theorem kindEq_iff {k k' : IntKind} : kindEq k k' = true ↔ k = k' := by
  cases k <;> cases k' <;> simp [kindEq]

theorem hi_lt (k : IntKind) : ∃ m, (hi k) = (2 ^ m : Nat) - 1 ∧ (m = k.bits ∨ (k.signed = true ∧ m + 1 = k.bits)) := by
  cases k
  · exact ⟨7, by decide, .inr ⟨rfl, rfl⟩⟩
  · exact ⟨15, by decide, .inr ⟨rfl, rfl⟩⟩
  · exact ⟨31, by decide, .inr ⟨rfl, rfl⟩⟩
  · exact ⟨63, by decide, .inr ⟨rfl, rfl⟩⟩
  · exact ⟨8, by decide, .inl rfl⟩
  · exact ⟨16, by decide, .inl rfl⟩
  · exact ⟨32, by decide, .inl rfl⟩
  · exact ⟨64, by decide, .inl rfl⟩

theorem fits_nat {k : IntKind} {n m : Nat} (h1 : hi k = (2 ^ m : Nat) - 1) (h : n < 2 ^ m) : fits k (n : Int) = true := by
  rw [fits_iff, h1]
  have : lo k ≤ 0 := by cases k <;> decide
  have := Nat.two_pow_pos m
  omega

theorem natBits_eq {op : BinOp} {k : IntKind} {a b c : Nat} (ha : fits k (a : Int) = true) (hb : fits k (b : Int) = true) (h : natBits op a b = some c) :
    slowBits op k a b = some (c : Int) := by
  obtain ⟨m, h1, h2⟩ := hi_lt k
  have hm : 2 ^ m ≤ 2 ^ k.bits := Nat.pow_le_pow_right (by decide) (by rcases h2 with h2 | h2 <;> omega)
  have hp := Nat.two_pow_pos m
  rw [fits_iff, h1] at ha hb
  have ha' : a < 2 ^ m := by omega
  have hb' : b < 2 ^ m := by omega
  have ea : (BitVec.ofInt k.bits (a : Int)).toNat = a := by
    rw [BitVec.toNat_ofInt, Int.emod_eq_of_lt (by omega) (Int.ofNat_lt.2 (Nat.lt_of_lt_of_le ha' hm))]; rfl
  have eb : (BitVec.ofInt k.bits (b : Int)).toNat = b := by
    rw [BitVec.toNat_ofInt, Int.emod_eq_of_lt (by omega) (Int.ofNat_lt.2 (Nat.lt_of_lt_of_le hb' hm))]; rfl
  cases op <;> simp only [natBits] at h <;> first | cases h | skip
  all_goals
    simp only [slowBits, BitVec.toNat_and, BitVec.toNat_or, BitVec.toNat_xor, ea, eb, Option.some.injEq]
    refine wrap_fits (fits_nat h1 ?_)
    first | exact Nat.and_lt_two_pow _ hb' | exact Nat.or_lt_two_pow ha' hb' | exact Nat.xor_lt_two_pow ha' hb'

theorem ibits_slow {op : BinOp} {k : IntKind} {x y n : Int} (h : ibits op k x y = some n) : slowBits op k x y = some n := by
  unfold ibits at h
  cases hc : (fits k x && fits k y) with
  | false => rw [hc] at h; exact h
  | true =>
    rw [hc] at h
    simp only [Bool.and_eq_true] at hc
    simp only [cond_true] at h
    split at h
    · rename_i a b
      split at h
      · rename_i c hn
        cases h
        exact natBits_eq hc.1 hc.2 hn
      · exact h
    · exact h

section
variable {P : Program} {w : World} {r : Ren}

theorem intBits_run {op : BinOp} {k : IntKind} {x y n : Int} (h : slowBits op k x y = some n) : (Op.intBits op k x y).run P w = .ok (.int k n) w := by
  unfold slowBits at h
  cases op <;> simp only [Option.some.injEq] at h <;> first | (subst h; simp [Op.intBits]; done) | cases h

theorem shift_run {op : BinOp} {k yk : IntKind} {x y : Int} {v : AV} (ho : op = .shl ∨ op = .shr) (h : ishift op k x y = some v) : ∃ v', (Op.shift op k x yk y).run P w = .ok v' w ∧ rel r v v' := by
  cases y with
  | negSucc s => simp [ishift] at h
  | ofNat s =>
    have hs : ¬ ((Int.ofNat s) < 0) := by show ¬ ((s : Int) < 0); omega
    have hn : (bif Nat.ble s k.bits then s else k.bits) = min (Int.ofNat s).toNat k.bits := by
      rw [natble]
      show _ = min s k.bits
      by_cases hle : s ≤ k.bits
      · simp [hle]
      · simp [hle]; omega
    simp only [ishift, hn] at h
    unfold Op.shift
    rw [if_neg hs]
    generalize min (Int.ofNat s).toNat k.bits = n at *
    rcases ho with rfl | rfl
    · cases h
      refine ⟨_, rfl, ?_⟩
      simp [rel, wrapK_eq]
    · cases x with
      | ofNat a =>
        cases h
        refine ⟨_, rfl, ?_⟩
        simp only [rel]
        congr 1
        show (a : Int).fdiv ((2 : Int) ^ n) = ((a / 2 ^ n : Nat) : Int)
        have e : ((2 : Int) ^ n) = ((2 ^ n : Nat) : Int) := by simp
        rw [e, Int.fdiv_eq_ediv_of_nonneg _ (Int.natCast_nonneg _)]
        simp
      | negSucc a => cases h; exact ⟨_, rfl, by simp [rel]⟩

theorem eqGuard_run {op : BinOp} {t : TypeId} {x y : Operand} {a b : Value} (h1 : a ≠ .nilIface ∨ b ≠ .nilIface ∨ (∃ v, x = .const v) ∨ (∃ v, y = .const v)) (h2 : ∀ cs ds, ¬ (a = .agg cs ∧ b = .agg ds)) :
    (eqGuard op t x y a b).run P w = .ok () w := by
  unfold eqGuard
  split
  case h_3 => rfl
  all_goals
    simp only [Bool.not_true, Bool.false_eq_true, if_false]
    split
    · rcases h1 with h1 | h1 | ⟨v, rfl⟩ | ⟨v, rfl⟩
      · exact absurd rfl h1
      · exact absurd rfl h1
      · rfl
      · cases x <;> rfl
    · exact absurd ⟨rfl, rfl⟩ (h2 _ _)
    · rfl

theorem ibin_run {op : BinOp} {t : TypeId} {X Y v : AV} {x y : Value} (hx : rel r X x) (hy : rel r Y y) (h : ibin op X Y = some v) :
    (∃ v', (Go.binOp op t x y).run P w = .ok v' w ∧ rel r v v') ∧ (∃ k n k' m, x = .int k n ∧ y = .int k' m) := by
  unfold ibin at h
  split at h
  · rename_i k a k' b
    simp only [rel] at hx hy
    subst hx; subst hy
    refine ⟨?_, _, _, _, _, rfl, rfl⟩
    split at h
    · simp only [Go.binOp]; exact shift_run (.inl rfl) h
    · simp only [Go.binOp]; exact shift_run (.inr rfl) h
    · rename_i h1 h2
      cases hk : kindEq k k' with
      | false => rw [hk] at h; cases h
      | true =>
        rw [hk] at h
        simp only [cond_true] at h
        obtain rfl := kindEq_iff.1 hk
        have hb : (Go.binOp op t (.int k a) (.int k b)) = (match op with
            | .add | .sub | .mul => Op.intArith op k a b
            | .quo | .rem => Op.intDiv op k a b
            | .and | .or | .xor | .andNot => Op.intBits op k a b
            | _ => Op.intCmp op a b) := by
          cases op <;> simp [Go.binOp] <;> contradiction
        rw [hb]
        cases op <;> simp only at h ⊢ <;> first | contradiction | skip
        case add => cases h; exact ⟨_, rfl, by simp [rel, wrapK_eq]⟩
        case sub => cases h; exact ⟨_, rfl, by simp [rel, wrapK_eq]⟩
        case mul => cases h; exact ⟨_, rfl, by simp [rel, wrapK_eq]⟩
        case quo =>
          rw [ieq_eq] at h
          by_cases h0 : b = 0
          · subst h0; simp at h
          · rw [beq_eq_false_iff_ne.2 h0] at h
            simp only [cond_false, Option.some.injEq] at h
            subst h
            exact ⟨_, by simp [Op.intDiv, h0]; rfl, by simp [rel, wrapK_eq]⟩
        case rem =>
          rw [ieq_eq] at h
          by_cases h0 : b = 0
          · subst h0; simp at h
          · rw [beq_eq_false_iff_ne.2 h0] at h
            simp only [cond_false, Option.some.injEq] at h
            subst h
            exact ⟨_, by simp [Op.intDiv, h0]; rfl, by simp [rel]⟩
        case and => split at h <;> cases h; rename_i n hn; exact ⟨_, intBits_run (ibits_slow hn), by simp [rel]⟩
        case or => split at h <;> cases h; rename_i n hn; exact ⟨_, intBits_run (ibits_slow hn), by simp [rel]⟩
        case xor => split at h <;> cases h; rename_i n hn; exact ⟨_, intBits_run (ibits_slow hn), by simp [rel]⟩
        case andNot => split at h <;> cases h; rename_i n hn; exact ⟨_, intBits_run (ibits_slow hn), by simp [rel]⟩
        case eql => cases h; exact ⟨_, rfl, by simp [rel, ieq_eq]⟩
        case neq => cases h; exact ⟨_, rfl, by simp [rel, ieq_eq]; rfl⟩
        case lss => cases h; exact ⟨_, rfl, by simp [rel, ble'_iff]; by_cases a < b <;> simp [*] <;> omega⟩
        case leq => cases h; exact ⟨_, rfl, by simp [rel, ble'_iff]⟩
        case gtr => cases h; exact ⟨_, rfl, by simp [rel, ble'_iff]; by_cases b < a <;> simp [*] <;> omega⟩
        case geq => cases h; exact ⟨_, rfl, by simp [rel, ble'_iff]⟩
  · cases h

/-! strings -/

theorem beqBytes_eq : ∀ x y : List UInt8, beqBytes x y = (x == y)
  | [], [] => rfl
  | [], b :: y => rfl
  | a :: x, [] => rfl
  | a :: x, b :: y => by
    simp only [beqBytes, natbeq]
    by_cases h : a = b
    · subst h; simp [beqBytes_eq x y]
    · have : ¬ a.toNat = b.toNat := fun e => h (UInt8.toNat_inj.1 e)
      simp [this, h]

theorem lessBytes_eq : ∀ x y : List UInt8, lessBytes x y = Op.bytesLess x y
  | _, [] => by simp [lessBytes, Op.bytesLess]
  | [], b :: y => rfl
  | a :: x, b :: y => by
    simp only [lessBytes, Op.bytesLess, natbeq, natble, lessBytes_eq x y]
    by_cases h : a = b
    · subst h; simp
    · have h1 : ¬ a.toNat = b.toNat := fun e => h (UInt8.toNat_inj.1 e)
      have h2 : (a == b) = false := by simpa using h
      simp only [h1, decide_false, cond_false, h2, Bool.false_and, Bool.or_false]
      rw [decide_eq_decide, UInt8.lt_iff_toNat_lt]
      omega

theorem toList_of (s : List UInt8) : (⟨⟨s⟩⟩ : ByteArray).toList = s := by rw [ByteArray.toList_eq]

theorem sbin_run {op : BinOp} {t : TypeId} {X Y v : AV} {x y : Value} (hx : rel r X x) (hy : rel r Y y) (h : sbin op X Y = some v) :
    (∃ v', (Go.binOp op t x y).run P w = .ok v' w ∧ rel r v v') ∧ (∃ a b, x = .string a ∧ y = .string b) := by
  unfold sbin at h
  split at h
  · rename_i a b
    simp only [rel] at hx hy
    subst hx; subst hy
    refine ⟨?_, _, _, rfl, rfl⟩
    have hb : (Go.binOp op t (.string ⟨⟨a⟩⟩) (.string ⟨⟨b⟩⟩)) = Op.stringOp op ⟨⟨a⟩⟩ ⟨⟨b⟩⟩ := by cases op <;> rfl
    rw [hb]
    have ha : (⟨⟨a⟩⟩ : ByteArray).size = a.length := rfl
    have hb' : (⟨⟨b⟩⟩ : ByteArray).size = b.length := rfl
    cases op <;> simp only at h <;> first | contradiction | skip
    case add =>
      rw [natble] at h
      by_cases hl : a.length + b.length ≤ 9223372036854775807
      · simp only [hl, decide_true, cond_true, Option.some.injEq] at h
        subst h
        refine ⟨.string (⟨⟨a⟩⟩ ++ ⟨⟨b⟩⟩), ?_, ?_⟩
        · simp only [Op.stringOp, ha, hb']
          rw [if_neg (by simp [IntKind.max, IntKind.bits, IntKind.signed]; omega)]
          rfl
        · simp only [rel]
          congr 1
      · simp [hl] at h
    all_goals
      cases h
      exact ⟨_, rfl, by simp [rel, beqBytes_eq, lessBytes_eq]⟩
  · cases h

end
end Go.AE
end
-- Operations that leave the heap alone.
section
namespace Go.AE

/-- of two operands, one is a constant -/
theorem const_of {x : Operand} {y : AX} (h : cX x = some y) (hc : isConstX y = true) : (∃ v, x = .const v) ∨ ∃ f, x = .func f := by
  unfold cX at h
  split at h
  · cases h; cases hc
  · exact .inl ⟨_, rfl⟩
  · exact .inr ⟨_, rfl⟩
  · cases h

section
variable {B : Nat} {r : Ren} {H : Heap} {w : World} {P : Program} {a : Frm} {a' : Act}

def eqTy (P : Program) (t : TypeId) : EqKind → Prop
  | .bool => P.underlying t = some .bool
  | .ptr => ∃ e, P.underlying t = some (.pointer e)
  | .iface => ∃ ms, P.underlying t = some (.interface ms)
  | .slice => ∃ e, P.underlying t = some (.slice e)
  | .map => ∃ k e, P.underlying t = some (.map k e)
  | .func => ∃ p q v, P.underlying t = some (.func p q v)

theorem eqv_run {t : TypeId} {kind : EqKind} {X Y : AV} {x y : Value} {b : Bool} (hx : rel r X x) (hy : rel r Y y) (h : eqv kind X Y = some b)
    (ht : eqTy P t kind) : (Op.equal t x y).run P w = .ok b w ∧ (∀ cs ds, ¬ (x = .agg cs ∧ y = .agg ds)) ∧ (∀ k n, ¬ (x = .int k n)) ∧ (∀ s, x ≠ .string s) ∧ (∀ k b, x ≠ .float k b) ∧ (∀ k b c, x ≠ .complex k b c) := by
  unfold Op.equal Op.maxDepth
  unfold Op.equalIn
  unfold eqv at h
  split at h <;> first | (cases h; done) | (split at h <;> first | (cases h; done) | cases h)
  all_goals simp only [eqTy] at ht
  · simp only [rel] at hx hy; subst hx; subst hy; exact ⟨by simp [run_underlying ht], by simp, by simp, by simp, by simp, by simp⟩
  · rename_i p _; obtain ⟨e, ht⟩ := ht
    cases p with
    | none => simp only [rel] at hx hy; subst hx; subst hy; exact ⟨by simp [run_underlying ht], by simp, by simp, by simp, by simp, by simp⟩
    | some q => simp only [rel] at hx hy; subst hx; obtain ⟨_, rfl, _⟩ := hy; exact ⟨by simp [run_underlying ht], by simp, by simp, by simp, by simp, by simp⟩
  · obtain ⟨e, ht⟩ := ht
    simp only [rel] at hx hy; subst hy; obtain ⟨_, rfl, _⟩ := hx; exact ⟨by simp [run_underlying ht], by simp, by simp, by simp, by simp, by simp⟩
  · obtain ⟨e, ht⟩ := ht
    simp only [rel] at hx hy; subst hx; subst hy; exact ⟨by simp [run_underlying ht], by simp, by simp, by simp, by simp, by simp⟩
  · obtain ⟨e, ht⟩ := ht
    simp only [rel] at hx hy; subst hx; obtain ⟨_, rfl, _⟩ := hy; exact ⟨by simp [run_underlying ht], by simp, by simp, by simp, by simp, by simp⟩
  · obtain ⟨e, ht⟩ := ht
    simp only [rel] at hx hy; subst hy; obtain ⟨_, rfl, _⟩ := hx; exact ⟨by simp [run_underlying ht], by simp, by simp, by simp, by simp, by simp⟩
  · rename_i p _ _ _; obtain ⟨e, ht⟩ := ht
    simp only [rel] at hx; obtain ⟨_, _, rfl⟩ := hx
    cases p with
    | none => simp only [rel] at hy; obtain ⟨_, _, rfl⟩ := hy; exact ⟨by simp [run_underlying ht], by simp, by simp, by simp, by simp, by simp⟩
    | some q => simp only [rel] at hy; obtain ⟨_, _, _, rfl, _⟩ := hy; exact ⟨by simp [run_underlying ht], by simp, by simp, by simp, by simp, by simp⟩
  · obtain ⟨e, ht⟩ := ht
    simp only [rel] at hx hy; obtain ⟨_, _, rfl⟩ := hy; obtain ⟨_, _, _, rfl, _⟩ := hx; exact ⟨by simp [run_underlying ht], by simp, by simp, by simp, by simp, by simp⟩
  · rename_i p _; obtain ⟨k, e, ht⟩ := ht
    simp only [rel] at hx; subst hx
    cases p with
    | none => simp only [rel] at hy; subst hy; exact ⟨by simp [run_underlying ht], by simp, by simp, by simp, by simp, by simp⟩
    | some q => simp only [rel] at hy; obtain ⟨_, rfl, _⟩ := hy; exact ⟨by simp [run_underlying ht], by simp, by simp, by simp, by simp, by simp⟩
  · obtain ⟨k, e, ht⟩ := ht
    simp only [rel] at hx hy; subst hy; obtain ⟨_, rfl, _⟩ := hx; exact ⟨by simp [run_underlying ht], by simp, by simp, by simp, by simp, by simp⟩
  · obtain ⟨p, q, v, ht⟩ := ht
    simp only [rel] at hx hy; subst hx; subst hy; exact ⟨by simp [run_underlying ht], by simp, by simp, by simp, by simp, by simp⟩
  · obtain ⟨p, q, v, ht⟩ := ht
    simp only [rel] at hx hy; subst hx; obtain ⟨_, _, rfl, _⟩ := hy; exact ⟨by simp [run_underlying ht], by simp, by simp, by simp, by simp, by simp⟩
  · obtain ⟨p, q, v, ht⟩ := ht
    simp only [rel] at hx hy; subst hy; obtain ⟨_, _, rfl, _⟩ := hx; exact ⟨by simp [run_underlying ht], by simp, by simp, by simp, by simp, by simp⟩

end
end Go.AE
end
-- Operations that leave the heap alone: each is the model's.
section
namespace Go.AE
section
variable {B : Nat} {r : Ren} {H : Heap} {w : World} {P : Program} {a : Frm} {a' : Act}

theorem value_run {s : Sem Value} {v : Value} {w' : World} (h : s.run P w = .ok v w') : (do pure (Next.value (← s)) : Sem Next).run P w = .ok (.value v) w' := by
  simp [h]

theorem binOp_eql {t : TypeId} {x y : Value} (h1 : ∀ k n, x ≠ .int k n) (h2 : ∀ s, x ≠ .string s) (h3 : ∀ k b, x ≠ .float k b) (h4 : ∀ k b c, x ≠ .complex k b c) :
    Go.binOp .eql t x y = (do pure (.bool (← Op.equal t x y))) := by
  cases x <;> first | rfl | (exfalso; first | exact h1 _ _ rfl | exact h2 _ rfl | exact h3 _ _ rfl | exact h4 _ _ _ rfl)

theorem binOp_neq {t : TypeId} {x y : Value} (h1 : ∀ k n, x ≠ .int k n) (h2 : ∀ s, x ≠ .string s) (h3 : ∀ k b, x ≠ .float k b) (h4 : ∀ k b c, x ≠ .complex k b c) :
    Go.binOp .neq t x y = (do pure (.bool (!(← Op.equal t x y)))) := by
  cases x <;> first | rfl | (exfalso; first | exact h1 _ _ rfl | exact h2 _ rfl | exact h3 _ _ rfl | exact h4 _ _ _ rfl)

theorem natOf_some {r : Ren} {x : AV} {v : Value} {n : Nat} (h : natOf x = some n) (hr : rel r x v) : ∃ k, v = .int k (n : Int) := by
  unfold natOf at h
  split at h
  · rename_i k m; cases h; simp only [rel] at hr; exact ⟨k, hr⟩
  · cases h

theorem bound_some {a : Frm} {x : AX} {m n : Nat} (h : bound a x m = some n) {v : Value} (hr : rel r (evalX a x) v) (code : BoundsCode) : n ≤ m ∧ (Instr.sliceBound v m code).run P w = .ok n w := by
  unfold bound at h
  split at h
  · rename_i k hk
    rw [natble] at h
    by_cases hle : k ≤ m
    · simp only [hle, decide_true, cond_true, Option.some.injEq] at h
      subst h
      obtain ⟨kk, rfl⟩ := natOf_some hk hr
      refine ⟨hle, ?_⟩
      have : (0 : Int) ≤ (k : Int) ∧ (k : Int) ≤ (m : Int) := ⟨by omega, by omega⟩
      simp [Instr.sliceBound, asIntOf, hle]
    · simp [hle] at h
  · cases h

theorem cOX_some {x : Option Operand} {y : Option AX} (h : cOX x = some y) : (x = none ∧ y = none) ∨ ∃ u v, x = some u ∧ y = some v ∧ cX u = some v := by
  unfold cOX at h
  split at h
  · cases h; exact .inl ⟨rfl, rfl⟩
  · split at h
    · cases h; rename_i hx; exact .inr ⟨_, _, rfl, rfl, hx⟩
    · cases h

theorem bounds_some (hF : FRel r a a') {isSlice : Bool} {len cap : Nat} {lo hi mx : Option Operand} {lo' hi' mx' : Option AX} (hlo : cOX lo = some lo') (hhi : cOX hi = some hi') (hmx : cOX mx = some mx')
    {l h m : Nat} (hb : bounds a len cap lo' hi' mx' = some (l, h, m)) :
    (Instr.sliceBounds isSlice len cap (lo.map a'.eval) (hi.map a'.eval) (mx.map a'.eval)).run P w = .ok (l, h, m) w := by
  unfold bounds at hb
  unfold Instr.sliceBounds
  rcases cOX_some hmx with ⟨rfl, rfl⟩ | ⟨xm, ym, rfl, rfl, em⟩
  · simp only at hb
    rcases cOX_some hhi with ⟨rfl, rfl⟩ | ⟨xh, yh, rfl, rfl, eh⟩
    · simp only at hb
      rcases cOX_some hlo with ⟨rfl, rfl⟩ | ⟨xl, yl, rfl, rfl, el⟩
      · simp only [Option.some.injEq, Prod.mk.injEq] at hb
        obtain ⟨rfl, rfl, rfl⟩ := hb
        simp
      · simp only at hb
        cases hl : bound a yl len with
        | none => rw [hl] at hb; cases hb
        | some n =>
          rw [hl] at hb
          simp only [Option.some.injEq, Prod.mk.injEq] at hb
          obtain ⟨rfl, rfl, rfl⟩ := hb
          obtain ⟨_, hr⟩ := bound_some (P := P) (w := w) hl (cX_rel hF el) .sliceB
          simp [hr]
    · simp only at hb
      cases hh : bound a yh cap with
      | none => rw [hh] at hb; cases hb
      | some n =>
        rw [hh] at hb
        simp only at hb
        obtain ⟨_, hr1⟩ := bound_some (P := P) (w := w) hh (cX_rel hF eh) (if isSlice then .sliceAcap else .sliceAlen)
        rcases cOX_some hlo with ⟨rfl, rfl⟩ | ⟨xl, yl, rfl, rfl, el⟩
        · simp only [Option.some.injEq, Prod.mk.injEq] at hb
          obtain ⟨rfl, rfl, rfl⟩ := hb
          simp [hr1]
        · simp only at hb
          cases hl : bound a yl n with
          | none => rw [hl] at hb; cases hb
          | some k =>
            rw [hl] at hb
            simp only [Option.some.injEq, Prod.mk.injEq] at hb
            obtain ⟨rfl, rfl, rfl⟩ := hb
            obtain ⟨_, hr⟩ := bound_some (P := P) (w := w) hl (cX_rel hF el) .sliceB
            simp [hr1, hr]
  · simp only at hb
    cases hm : bound a ym cap with
    | none => rw [hm] at hb; cases hb
    | some mm =>
      rw [hm] at hb
      simp only at hb
      obtain ⟨_, hr0⟩ := bound_some (P := P) (w := w) hm (cX_rel hF em) (if isSlice then .slice3Acap else .slice3Alen)
      rcases cOX_some hhi with ⟨rfl, rfl⟩ | ⟨xh, yh, rfl, rfl, eh⟩
      · cases hb
      · simp only at hb
        cases hh : bound a yh mm with
        | none => rw [hh] at hb; cases hb
        | some n =>
          rw [hh] at hb
          simp only at hb
          obtain ⟨_, hr1⟩ := bound_some (P := P) (w := w) hh (cX_rel hF eh) .slice3B
          rcases cOX_some hlo with ⟨rfl, rfl⟩ | ⟨xl, yl, rfl, rfl, el⟩
          · simp only [Option.some.injEq, Prod.mk.injEq] at hb
            obtain ⟨rfl, rfl, rfl⟩ := hb
            simp [hr0, hr1]
          · simp only at hb
            cases hl : bound a yl n with
            | none => rw [hl] at hb; cases hb
            | some k =>
              rw [hl] at hb
              simp only [Option.some.injEq, Prod.mk.injEq] at hb
              obtain ⟨rfl, rfl, rfl⟩ := hb
              obtain ⟨_, hr⟩ := bound_some (P := P) (w := w) hl (cX_rel hF el) .slice3C
              simp [hr0, hr1, hr]

/-! fill -/

theorem zipIdx_foldl (off : Nat) : ∀ (vs : List Value) (k : Nat) (cs : Array Value), off + k + vs.length ≤ cs.size →
    ((vs.zipIdx k).foldl (fun cs (c : Value × Nat) => cs.setIfInBounds (off + c.2) c.1) cs).toList = cs.toList.take (off + k) ++ vs ++ cs.toList.drop (off + k + vs.length)
  | [], k, cs, h => by simp
  | v :: vs, k, cs, h => by
    simp only [List.length_cons] at h
    simp only [List.zipIdx_cons, List.foldl_cons]
    rw [zipIdx_foldl off vs (k + 1) _ (by simp; omega)]
    have hlt : off + k < cs.toList.length := by simp; omega
    simp only [Array.toList_setIfInBounds]
    rw [show off + (k + 1) = off + k + 1 by omega, List.take_set, List.drop_set_of_lt (by omega)]
    rw [List.take_succ_eq_append_getElem hlt]
    have hsz : cs.toList.length = cs.size := by simp
    have hm : (List.take (off + k) cs.toList).length = off + k := by rw [List.length_take]; omega
    rw [List.set_append_right _ _ (by omega), hm, Nat.sub_self]
    simp only [List.set_cons_zero, List.length_cons, List.append_assoc, List.cons_append, List.nil_append]
    congr 4
    omega

theorem fill_run (place : Nat → Option (Nat × Nat)) : ∀ (parts : List (Nat × Operand)) (l : List (Nat × Nat × AX)) (cs : Array Value) (xs ys : List AV), FRel r a a' →
    cParts place parts = some l → rels r xs cs.toList → fillA xs (l.map fun (o, n, x) => (o, n, evalX a x)) = some ys →
    ∃ ds, Instr.fill place cs (parts.map fun (i, x) => (i, a'.eval x)) = some ds ∧ rels r ys ds.toList
  | [], l, cs, xs, ys, hF, hp, hr, hf => by
    simp only [cParts, Option.some.injEq] at hp
    subst hp
    simp only [List.map_nil, fillA, Option.some.injEq] at hf
    subst hf
    exact ⟨cs, rfl, hr⟩
  | (i, x) :: ps, l, cs, xs, ys, hF, hp, hr, hf => by
    simp only [cParts] at hp
    split at hp
    · rename_i o n y l' h1 h2 h3
      cases hp
      simp only [List.map_cons, fillA, natbeq] at hf
      have hx := cX_rel hF h2
      by_cases hl : (evalX a y).cells.length = n
      · simp only [hl, decide_true, cond_true] at hf
        split at hf
        · rename_i zs hz
          have hc := rel_cells hx
          obtain ⟨_, hle⟩ := lay_some hz
          have hlen := rels_length hc
          have hlen2 := rels_length hr
          have hll := rels_lay hz hr hc
          have hsz : (a'.eval x).cells.size = n := by rw [← hl, hlen]; simp
          have hb : o + (a'.eval x).cells.size ≤ cs.size := by rw [hsz, ← hl]; simpa [hlen2] using hle
          have key := zipIdx_foldl o (a'.eval x).cells.toList 0 cs (by simpa using hb)
          simp only [List.map_cons, Instr.fill, h1]
          rw [if_neg (by simp [hsz]; rw [hsz] at hb; exact hb)]
          refine fill_run place ps l' _ zs ys hF h3 ?_ hf
          have e : (Array.foldl (fun (cs : Array Value) (x : Value × Nat) => cs.setIfInBounds (o + x.2) x.1) cs ((a'.eval x).cells.zipIdx)).toList = cs.toList.take o ++ (a'.eval x).cells.toList ++ cs.toList.drop (o + (a'.eval x).cells.toList.length) := by
            rw [← Array.foldl_toList, Array.toList_zipIdx, key]; simp
          rw [e]
          exact hll
        · cases hf
      · simp [hl] at hf
    · cases hp

end
end Go.AE
end
-- Operations that leave the heap alone: each is the model's (the theorem).
section
namespace Go.AE
section
variable {B : Nat} {r : Ren} {H : Heap} {w : World} {P : Program} {a : Frm} {a' : Act}

/-- what is to be shown of an operation that leaves the heap alone -/
def RdOk (P : Program) (r : Ren) (w : World) (a' : Act) (o : Oper) (v : AV) : Prop :=
  ∃ v', (execOp a'.eval o).run P w = .ok (.value v') w ∧ rel r v v'

theorem rd_load {t : TypeId} {x : Operand} {op : AOp} {v : AV} (o : Oper) (ho : o.op = .load t x) (hc : cOp P (.load t x) = some op) (hS : Sim B r H w) (hF : FRel r a a') (h : rd op a H = some v) : RdOk P r w a' o v := by
  simp only [cOp] at hc
  unfold RdOk execOp
  rw [ho]
  split at hc
  · rename_i y hx hg
    split at hc
    · rename_i n hn
      cases hc
      simp only [rd] at h
      split at h
      · rename_i b o he
        split at h
        · rename_i l hl
          cases h
          have hr := cX_rel hF hx
          rw [he] at hr
          simp only [rel] at hr
          obtain ⟨b', hv, ha⟩ := hr
          obtain ⟨vs, h1, h2⟩ := hS.loadCells (P := P) ha hl
          refine ⟨.agg vs.toArray, ?_, ?_⟩
          · simp [Instr.loadAt, Instr.sureAddr, hv, loadVar, run_isAgg hg, run_sizeOf hn, h2]
          · simp only [rel]; exact ⟨_, rfl, h1⟩
        · cases h
      · cases h
    · cases hc
  · rename_i y hx hg
    cases hc
    simp only [rd] at h
    split at h
    · rename_i b o he
      have hr := cX_rel hF hx
      rw [he] at hr
      simp only [rel] at hr
      obtain ⟨b', hv, ha⟩ := hr
      unfold Heap.load at h
      split at h
      · rename_i cs hcs
        obtain ⟨v', h1, h2⟩ := hS.cell ha hcs h
        refine ⟨v', ?_, h2⟩
        simp [Instr.loadAt, Instr.sureAddr, hv, loadVar, run_isAgg hg, h1]
      · cases h
    · cases h
  · cases hc

theorem zero_run {t : TypeId} {z : List AV} (hz : zeroP P t = some z) : ∃ zv : Value, (zeroValue t).run P w = .ok zv w ∧ rels r z zv.cells.toList ∧ sizeP P t = some z.length := by
  unfold zeroP at hz
  split at hz
  · rename_i i hi
    split at hz
    · rename_i zv hzv
      split at hz
      · rename_i x hx
        rw [natbeq] at hz
        by_cases hl : x.cells.length = i.size
        · simp only [hl, decide_true, cond_true, Option.some.injEq] at hz
          subst hz
          exact ⟨zv, by simp [zeroValue, run_typeInfo hi, hzv], rel_cells (cV_rel hx), by simp [sizeP, hi, hl]⟩
        · simp [hl] at hz
      · cases hz
    · cases hz
  · cases hz

theorem zeroV_run {t : TypeId} {z : AV} (hz : zeroV P t = some z) : ∃ zv : Value, (zeroValue t).run P w = .ok zv w ∧ rel r z zv := by
  unfold zeroV at hz
  split at hz
  · rename_i i hi
    split at hz
    · rename_i zv hzv
      exact ⟨zv, by simp [zeroValue, run_typeInfo hi, hzv], cV_rel hz⟩
    · cases hz
  · cases hz

theorem places_run : ∀ {fs : List Field} {pl : List (Nat × Nat)}, placesP P fs = some pl → (fs.mapM fun f => (do pure (f.offset, ← sizeOf f.type) : Sem (Nat × Nat))).run P w = .ok pl w
  | [], pl, h => by simp only [placesP, Option.some.injEq] at h; subst h; rfl
  | f :: fs, pl, h => by
    simp only [placesP] at h
    split at h
    · rename_i n l h1 h2
      cases h
      simp only [List.mapM_cons, Sem.run_bind, run_sizeOf h1, Result.andThen_ok, Sem.run_pure, places_run h2]
    · cases h

theorem rd_build {t : TypeId} {parts : Array (Nat × Operand)} {op : AOp} {v : AV} (o : Oper) (ho : o.op = .build t parts) (hc : cOp P (.build t parts) = some op) (hF : FRel r a a') (h : rd op a H = some v) : RdOk P r w a' o v := by
  simp only [cOp] at hc
  unfold RdOk execOp
  rw [ho]
  have parr : (parts.map fun (x : Nat × Operand) => (x.1, a'.eval x.2)).toList = parts.toList.map fun (x : Nat × Operand) => (x.1, a'.eval x.2) := by simp
  split at hc
  · rename_i z fs hz hu
    split at hc
    · rename_i pl hpl
      split at hc
      · rename_i l hl
        cases hc
        simp only [rd] at h
        split at h
        · rename_i cs hcs
          cases h
          obtain ⟨zv, h1, h2, _⟩ := zero_run (r := r) (w := w) hz
          obtain ⟨ds, h3, h4⟩ := fill_run _ parts.toList l zv.cells z cs hF hl h2 hcs
          refine ⟨.agg ds, ?_, by simp only [rel]; exact ⟨_, rfl, h4⟩⟩
          refine value_run ?_
          simp only [Instr.build, Sem.run_bind, h1, Result.andThen_ok, run_underlying hu, Array.mapM_eq_mapM_toList, Sem.run_map, places_run hpl, parr]
          have e : (fun (x : Nat) => pl.toArray[x]?) = fun i => pl[i]? := by funext i; simp
          rw [e, h3]
          rfl
        · cases h
      · cases hc
    · cases hc
  · rename_i z n e hz hu
    split at hc
    · rename_i s hs
      split at hc
      · rename_i l hl
        cases hc
        simp only [rd] at h
        split at h
        · rename_i cs hcs
          cases h
          obtain ⟨zv, h1, h2, _⟩ := zero_run (r := r) (w := w) hz
          obtain ⟨ds, h3, h4⟩ := fill_run _ parts.toList l zv.cells z cs hF hl h2 hcs
          refine ⟨.agg ds, ?_, by simp only [rel]; exact ⟨_, rfl, h4⟩⟩
          refine value_run ?_
          simp only [Instr.build, Sem.run_bind, h1, Result.andThen_ok, run_underlying hu, run_sizeOf hs, parr]
          rw [h3]
          rfl
        · cases h
      · cases hc
    · cases hc
  · cases hc

theorem rel_nilIface {X : AV} (h : rel r X .nilIface) : X = .nilIface := by
  cases X with
  | ptr p => cases p <;> simp [rel] at h
  | slice p l c => cases p <;> simp [rel] at h
  | map p => cases p <;> simp [rel] at h
  | nilIface => rfl
  | _ => simp [rel] at h

theorem eqv_nilIface {kind : EqKind} {Y : AV} {b : Bool} (h : eqv kind .nilIface Y = some b) : kind = .iface := by
  cases Y <;> cases kind <;> first | rfl | (simp [eqv] at h; done)

theorem rd_binOp {bop : BinOp} {t u : TypeId} {x y : Operand} {op : AOp} {v : AV} (o : Oper) (ho : o.op = .binOp bop t x y u) (hc : cOp P (.binOp bop t x y u) = some op) (hF : FRel r a a') (h : rd op a H = some v) : RdOk P r w a' o v := by
  simp only [cOp] at hc
  unfold RdOk execOp
  rw [ho]
  split at hc
  · rename_i X Y hX hY
    have hx := cX_rel hF hX
    have hy := cX_rel hF hY
    unfold cBin at hc
    have eq : ∀ (kind : EqKind) (neg : Bool), op = .eqv neg kind X Y → eqTy P t kind → (neg = false → bop = .eql) → (neg = true → bop = .neq) → (kind = .iface → isConstX X = true ∨ isConstX Y = true) →
        ∃ v', (do pure (Next.value (← (do eqGuard bop t x y (a'.eval x) (a'.eval y); Go.binOp bop t (a'.eval x) (a'.eval y) : Sem Value))) : Sem Next).run P w = .ok (.value v') w ∧ rel r v v' := by
      intro kind neg he ht hn hn' hi
      subst he
      simp only [rd] at h
      split at h
      · rename_i b hb
        cases h
        obtain ⟨h1, h2, h3, h4, h5, h6⟩ := eqv_run (w := w) hx hy hb ht
        have hg : (eqGuard bop t x y (a'.eval x) (a'.eval y)).run P w = .ok () w := by
          refine eqGuard_run ?_ h2
          by_cases hk : kind = .iface
          · rcases hi hk with hc | hc
            · rcases const_of hX hc with ⟨v, rfl⟩ | ⟨f, rfl⟩
              · exact .inr (.inr (.inl ⟨v, rfl⟩))
              · exact .inl (by simp [Act.eval])
            · rcases const_of hY hc with ⟨v, rfl⟩ | ⟨f, rfl⟩
              · exact .inr (.inr (.inr ⟨v, rfl⟩))
              · exact .inr (.inl (by simp [Act.eval]))
          · refine .inl fun hnil => ?_
            rw [hnil] at hx
            rw [rel_nilIface hx] at hb
            exact hk (eqv_nilIface hb)
        refine ⟨.bool (bif neg then !b else b), ?_, by simp [rel]⟩
        refine value_run ?_
        cases neg with
        | false =>
          obtain rfl := hn rfl
          simp only [Sem.run_bind, hg, Result.andThen_ok, binOp_eql h3 h4 h5 h6, h1]; rfl
        | true =>
          obtain rfl := hn' rfl
          simp only [Sem.run_bind, hg, Result.andThen_ok, binOp_neq h3 h4 h5 h6, h1]; rfl
      · cases h
    split at hc
    · cases hc
      simp only [rd] at h
      obtain ⟨⟨v', h1, h2⟩, k, n, k', m, e1, e2⟩ := ibin_run (P := P) (w := w) (t := t) hx hy h
      refine ⟨v', value_run ?_, h2⟩
      simp only [Sem.run_bind, eqGuard_run (P := P) (w := w) (op := bop) (t := t) (x := x) (y := y) (a := a'.eval x) (b := a'.eval y) (.inl (by rw [e1]; simp)) (by rw [e1]; simp), Result.andThen_ok, h1]
    · cases hc
      simp only [rd] at h
      obtain ⟨⟨v', h1, h2⟩, s, s', e1, e2⟩ := sbin_run (P := P) (w := w) (t := t) hx hy h
      refine ⟨v', value_run ?_, h2⟩
      simp only [Sem.run_bind, eqGuard_run (P := P) (w := w) (op := bop) (t := t) (x := x) (y := y) (a := a'.eval x) (b := a'.eval y) (.inl (by rw [e1]; simp)) (by rw [e1]; simp), Result.andThen_ok, h1]
    · rename_i ht
      split at hc <;> cases hc
      · exact eq .bool false rfl ht (fun _ => rfl) (fun h => by cases h) (fun h => by cases h)
      · exact eq .bool true rfl ht (fun h => by cases h) (fun _ => rfl) (fun h => by cases h)
    · rename_i e ht
      split at hc <;> cases hc
      · exact eq .ptr false rfl ⟨_, ht⟩ (fun _ => rfl) (fun h => by cases h) (fun h => by cases h)
      · exact eq .ptr true rfl ⟨_, ht⟩ (fun h => by cases h) (fun _ => rfl) (fun h => by cases h)
    · rename_i ms ht
      cases hk : (isConstX X || isConstX Y) with
      | false => rw [hk] at hc; cases hc
      | true =>
        rw [hk] at hc
        simp only [cond_true] at hc
        simp only [Bool.or_eq_true] at hk
        split at hc <;> cases hc
        · exact eq .iface false rfl ⟨_, ht⟩ (fun _ => rfl) (fun h => by cases h) (fun _ => hk)
        · exact eq .iface true rfl ⟨_, ht⟩ (fun h => by cases h) (fun _ => rfl) (fun _ => hk)
    · rename_i e ht
      split at hc <;> cases hc
      · exact eq .slice false rfl ⟨_, ht⟩ (fun _ => rfl) (fun h => by cases h) (fun h => by cases h)
      · exact eq .slice true rfl ⟨_, ht⟩ (fun h => by cases h) (fun _ => rfl) (fun h => by cases h)
    · rename_i k e ht
      split at hc <;> cases hc
      · exact eq .map false rfl ⟨_, _, ht⟩ (fun _ => rfl) (fun h => by cases h) (fun h => by cases h)
      · exact eq .map true rfl ⟨_, _, ht⟩ (fun h => by cases h) (fun _ => rfl) (fun h => by cases h)
    · rename_i p q z ht
      split at hc <;> cases hc
      · exact eq .func false rfl ⟨_, _, _, ht⟩ (fun _ => rfl) (fun h => by cases h) (fun h => by cases h)
      · exact eq .func true rfl ⟨_, _, _, ht⟩ (fun h => by cases h) (fun _ => rfl) (fun h => by cases h)
    · cases hc
  · cases hc

end
end Go.AE
end
