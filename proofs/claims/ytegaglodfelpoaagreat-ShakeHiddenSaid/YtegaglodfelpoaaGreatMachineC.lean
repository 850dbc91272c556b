/- append. -/
import Derived.Test.YtegaglodfelpoaaGreatMachineB
import Derived.Scope
import Derived.Below
set_option linter.unusedVariables false
set_option linter.unusedSimpArgs false
section
namespace Go.AE

/-- a block is given up -/
def Ren.kill (r : Ren) (b : Nat) : Ren := { m := fun d => if d = b then none else r.m d, dead := fun d => d = b ∨ r.dead d, sz := r.sz }

theorem Ren.kill_le (r : Ren) (b : Nat) : r.le (r.kill b) :=
  ⟨fun _ h => .inr h, fun d c h => by
    by_cases e : d = b
    · exact .inr (.inl e)
    · exact .inl ⟨by simp [Ren.kill, e, h], rfl⟩⟩

section
variable {B : Nat} {r : Ren} {H : Heap} {w : World} {P : Program} {a : Frm} {a' : Act}

theorem Sim.kill (hS : Sim B r H w) {b c : Nat} (hm : r.m b = some c) : Sim B (r.kill b) { H with t := H.t.del b } w where
  low := hS.low
  live := fun d e hd => by
    have hne : d ≠ b := fun h => by subst h; simp [Ren.kill] at hd
    have hd' : r.m d = some e := by simpa [Ren.kill, hne] using hd
    obtain ⟨g1, ⟨y, o, g2, g3, g4, g5⟩, g6⟩ := hS.live d e hd'
    exact ⟨g1, ⟨y, o, by simp only [T.get_del]; rw [if_neg (fun h => hne h.symm)]; exact g2, g3, g4.mono (r.kill_le b) rfl, g5⟩, fun h => h.elim hne g6⟩
  inj := fun d d' e hd hd' => by
    have h1 : d ≠ b := fun h => by subst h; simp [Ren.kill] at hd
    have h2 : d' ≠ b := fun h => by subst h; simp [Ren.kill] at hd'
    exact hS.inj d d' e (by simpa [Ren.kill, h1] using hd) (by simpa [Ren.kill, h2] using hd')
  dead := fun d hd => by
    rcases hd with rfl | hd
    · exact ⟨(hS.live d c hm).1, by simp [T.get_del]⟩
    · obtain ⟨g1, g2⟩ := hS.dead d hd
      exact ⟨g1, by rw [T.get_del]; split <;> simp [g2]⟩
  good := hS.good

theorem Step.kill {N b c : Nat} (hm : r.m b = some c) : Step B N r w (r.kill b) w where
  le := r.kill_le b
  img := fun d e h => .inl ⟨d, by
    have hne : d ≠ b := fun h' => by subst h'; simp [Ren.kill] at h
    simpa [Ren.kill, hne] using h⟩
  unborn := fun d _ h1 h2 => by
    have hne : d ≠ b := fun h' => by subst h'; rw [hm] at h1; cases h1
    exact ⟨by simp [Ren.kill, h1], fun h => h.elim hne h2⟩
  os := rfl
  tape := rfl
  output := rfl
  size := Nat.le_refl _
  frame := fun _ _ _ => rfl

/-- a block goes on under a new number -/
theorem Sim.adopt (hS : Sim B r H w) {b c i : Nat} (hm : r.m b = some c) (hB : ¬ c < B) (h1 : r.m i = none) (h2 : ¬ r.dead i) {H' : Heap} (hn : H.next ≤ H'.next) (hi : i < H'.next)
    (hH : ∀ d, d ≠ i → H'.t.get d = (H.t.del b).get d) {x : ABlk} (hx : H'.t.get i = some x) {obj : Obj} {n : Nat}
    (hb : ∀ r', r.le r' → r'.m i = some c → r'.sz i = n → blkRel r' i x obj) :
    Sim B ((r.kill b).add i c n) H' (AE.setBlk w c obj) where
  low := by simp only [AE.setBlk, Array.size_setIfInBounds]; exact hS.low
  live := fun d e hd => by
    have hib : i ≠ b := fun h => by subst h; rw [hm] at h1; cases h1
    have hk : (r.kill b).m i = none := by simp [Ren.kill, hib, h1]
    have hle : r.le ((r.kill b).add i c n) := (r.kill_le b).trans (Ren.add_le hk)
    by_cases e' : d = i
    · subst e'
      have : e = c := by simp [Ren.add] at hd; exact hd.symm
      subst this
      exact ⟨hi, ⟨x, obj, hx, by rw [setBlk_get (hS.lt hm)]; simp, hb _ hle (by simp [Ren.add]) (by simp [Ren.add]), fun h => absurd h hB⟩, fun h => h.elim hib h2⟩
    · have hd1 : (r.kill b).m d = some e := by simpa [Ren.add, e'] using hd
      have hne : d ≠ b := fun h => by subst h; simp [Ren.kill] at hd1
      have hd' : r.m d = some e := by simpa [Ren.kill, hne] using hd1
      obtain ⟨g1, ⟨y, o, g2, g3, g4, g5⟩, g6⟩ := hS.live d e hd'
      have hec : e ≠ c := fun h => hne (hS.inj d b c (h ▸ hd') hm)
      refine ⟨Nat.lt_of_lt_of_le g1 hn, ⟨y, o, ?_, ?_, g4.mono hle (by simp [Ren.add, Ren.kill, e']), g5⟩, fun h => h.elim hne g6⟩
      · rw [hH d e', T.get_del, if_neg (fun h => hne h.symm)]; exact g2
      · rw [setBlk_get (hS.lt hm), if_neg hec]; exact g3
  inj := fun d d' e hd hd' => by
    have key : ∀ d e, ((r.kill b).add i c n).m d = some e → (d = i ∧ e = c) ∨ (d ≠ i ∧ d ≠ b ∧ r.m d = some e) := by
      intro d e h
      by_cases e' : d = i
      · left; subst e'; simp [Ren.add] at h; exact ⟨rfl, h.symm⟩
      · right
        have hd1 : (r.kill b).m d = some e := by simpa [Ren.add, e'] using h
        have hne : d ≠ b := fun h => by subst h; simp [Ren.kill] at hd1
        exact ⟨e', hne, by simpa [Ren.kill, hne] using hd1⟩
    rcases key d e hd with ⟨g1, g2⟩ | ⟨g1, g2, g3⟩ <;> rcases key d' e hd' with ⟨k1, k2⟩ | ⟨k1, k2, k3⟩
    · rw [g1, k1]
    · exact absurd (hS.inj d' b c (g2 ▸ k3) hm) k2
    · exact absurd (hS.inj d b c (k2 ▸ g3) hm) g2
    · exact hS.inj d d' e g3 k3
  dead := fun d hd => by
    have hib : i ≠ b := fun h => by subst h; rw [hm] at h1; cases h1
    rcases hd with rfl | hd
    · exact ⟨Nat.lt_of_lt_of_le (hS.live d c hm).1 hn, by rw [hH d hib.symm, T.get_del]; simp⟩
    · obtain ⟨g1, g2⟩ := hS.dead d hd
      have : d ≠ i := fun h => h2 (h ▸ hd)
      exact ⟨Nat.lt_of_lt_of_le g1 hn, by rw [hH d this, T.get_del]; split <;> simp [g2]⟩
  good := fun w' hw => hS.good w' fun d hd => by rw [hw d hd, setBlk_get (hS.lt hm), if_neg (fun h : d = c => hB (h ▸ hd))]

theorem Step.adopt {N b c i : Nat} (hm : r.m b = some c) (hB : ¬ c < B) (hlt : c < w.heap.size) (h1 : r.m i = none) (hN : N ≤ i) (obj : Obj) (n : Nat) :
    Step B N r w ((r.kill b).add i c n) (AE.setBlk w c obj) where
  le := by
    have hib : i ≠ b := fun h => by subst h; rw [hm] at h1; cases h1
    exact (r.kill_le b).trans (Ren.add_le (by simp [Ren.kill, hib, h1]))
  img := fun d e h => .inl (by
    by_cases e' : d = i
    · have : e = c := by subst e'; simp [Ren.add] at h; exact h.symm
      exact ⟨b, this ▸ hm⟩
    · have hd1 : (r.kill b).m d = some e := by simpa [Ren.add, e'] using h
      have hne : d ≠ b := fun h => by subst h; simp [Ren.kill] at hd1
      exact ⟨d, by simpa [Ren.kill, hne] using hd1⟩)
  unborn := fun d hd g1 g2 => by
    have hne : d ≠ b := fun h' => by subst h'; rw [hm] at g1; cases g1
    exact ⟨by simp [Ren.add, Ren.kill, show d ≠ i by omega, g1], fun h => h.elim hne g2⟩
  os := rfl
  tape := rfl
  output := rfl
  size := by simp [AE.setBlk]
  frame := fun e he hb => by
    have : e ≠ c := fun h => hB (h ▸ hb b (h ▸ hm))
    rw [setBlk_get hlt, if_neg this]

theorem zeroCells_size (z : Array Value) (n : Nat) : (Builtin.zeroCells z n).size = n * z.size := by simp [Builtin.zeroCells]

/-- an append that must make a new row -/
theorem append_new_run {t u e : TypeId} {info : TypeInfo} {d : TypeDesc} {z : List AV} {base : Option Addr} {len cap n : Nat} {x : Value} {old new : Array Value} {ty : TypeId} {ats : Array TypeId}
    (ht : ats[0]? = some t) (hu : ats[1]? = some u) (hut : P.underlying t = some (.slice e)) (huu : P.underlying u = some d) (hd : ∀ k, d ≠ .int k) (hi : P.info? e = some info) (hz : zeroP P e = some z)
    (hlen : (Builtin.lenOf x).run P w = .ok n w) (hneed : cap < len + n) (hfit : (len + n) * info.bytes ≤ 140737488355328) (hb0 : info.bytes ≠ 0)
    (ho : (Builtin.firstCells info.size len (.slice base len cap)).run P { w with drawn := w.drawn + 1 } = .ok old { w with drawn := w.drawn + 1 })
    (hne : (Builtin.firstCells info.size n x).run P { w with drawn := w.drawn + 1 } = .ok new { w with drawn := w.drawn + 1 }) :
    ∃ (newCap : Nat) (rest : Array Value), len + n ≤ newCap ∧ rest.size = (newCap - (len + n)) * info.size ∧
      (Builtin.append_ ats ty #[.slice base len cap, x]).run P w = .ok (.slice (some ⟨w.heap.size, 0, none⟩) (len + n) newCap)
        { w with heap := w.heap.push (.cells (old ++ new ++ rest) e), drawn := w.drawn + 1 } := by
  let w1 : World := { w with drawn := w.drawn + 1 }
  obtain ⟨zv, h1, h2, h3⟩ := zero_run (r := ⟨fun _ => none, fun _ => False, fun _ => 0⟩) (w := w1) hz
  have hsz : zv.cells.size = info.size := by
    have := rels_length h2
    simp only [sizeP, hi, Option.map_some, Option.some.injEq] at h3
    rw [h3, this]; simp
  let newCap := Question.cut (.appendCap (len + n) cap e) (w.tape w.drawn (.appendCap (len + n) cap e))
  have hcap : len + n ≤ newCap := by show len + n ≤ len + n + _; omega
  refine ⟨newCap, Builtin.zeroCells zv.cells (newCap - (len + n)), hcap, by rw [zeroCells_size, hsz], ?_⟩
  have hs0 : sizeP P e = some info.size := by simp [sizeP, hi]
  have hq : (Question.appendCap (len + n) cap e).forced = false := rfl
  have hfits : ¬ (Builtin.nextslicecap (len + n) cap * info.bytes > 281474976710656) := by
    have := growslice_fits hneed hfit; omega
  have hn : ¬ (len + n ≤ cap) := by omega
  unfold Builtin.append_
  simp only [ht, hu, List.getElem?_toArray, List.getElem?_cons_zero, List.getElem?_cons_succ, Sem.run_bind, run_underlying hut, Result.andThen_ok, run_sizeOf hs0, run_underlying huu, Sem.run_pure, Bool.false_eq_true, if_false, hlen, hn,
    run_typeInfo hi, Bool.not_false, if_true, Sem.run_ite, Result.andThen_ite, run_choose, hq, run_askRoom]
  rw [if_neg (by simp [hb0]), if_neg (by simpa using hfits)]
  show ((Sem.run P (Builtin.firstCells info.size len (Value.slice base len cap)) w1).andThen _) = _
  rw [ho]
  simp only [Result.andThen_ok]
  rw [hne]
  simp only [Result.andThen_ok]
  rw [h1]
  simp only [Result.andThen_ok, newRow_run]
  rfl

theorem modAt_rel {f : AV × AV × Nat → AV × AV × Nat} {g : MapEntry → MapEntry} : ∀ {es : List (AV × AV × Nat)} {es' : List MapEntry} (i : Nat), entsRel r es es' →
    (∀ e e', es[i]? = some e → es'[i]? = some e' → rel r (f e).1 (g e').key ∧ rel r (f e).2.1 (g e').val) → entsRel r (modAt f es i) (es'.modify i g)
  | _, _, i, .nil, _ => by cases i <;> exact .nil
  | _, _, 0, .cons (k := k) (v := v) (n := n) (e := e) h1 h2 h4, hf => by
    obtain ⟨g1, g2⟩ := hf (k, v, n) e rfl rfl
    simp only [modAt, List.modify_zero_cons]
    exact .cons g1 g2 h4
  | _, _, i + 1, .cons h1 h2 h4, hf => by
    simp only [modAt, List.modify_succ_cons]
    exact .cons h1 h2 (modAt_rel i h4 fun e e' he he' => hf e e' (by simpa using he) (by simpa using he'))

theorem modAt_mid (f : AV × AV × Nat → AV × AV × Nat) (a : AV × AV × Nat) (l2 : List (AV × AV × Nat)) : ∀ l1 : List (AV × AV × Nat), modAt f (l1 ++ a :: l2) l1.length = l1 ++ f a :: l2
  | [] => rfl
  | x :: l1 => by show x :: modAt f (l1 ++ a :: l2) l1.length = _; rw [modAt_mid f a l2 l1]; rfl
theorem erase_mid (a : AV × AV × Nat) (l2 : List (AV × AV × Nat)) : ∀ l1 : List (AV × AV × Nat), (l1 ++ a :: l2).eraseIdx l1.length = l1 ++ l2
  | [] => rfl
  | x :: l1 => by show x :: (l1 ++ a :: l2).eraseIdx l1.length = _; rw [erase_mid a l2 l1]; rfl

theorem stampsOk.push {es : Array MapEntry} {clock : Nat} (h : stampsOk es clock) (k v : Value) : stampsOk (es.push { key := k, val := v, born := clock }) (clock + 1) := by
  obtain ⟨h1, h2⟩ := h
  refine ⟨?_, fun x hx => ?_⟩
  · simp only [Array.toList_push, List.map_append, List.map_cons, List.map_nil]
    rw [List.nodup_append]
    refine ⟨h1, by simp, fun a ha b hb => ?_⟩
    simp only [List.mem_singleton] at hb
    subst hb
    obtain ⟨e, he, rfl⟩ := List.mem_map.1 ha
    have := h2 e he
    omega
  · simp only [Array.toList_push, List.mem_append, List.mem_singleton] at hx
    rcases hx with hx | rfl
    · exact Nat.lt_succ_of_lt (h2 x hx)
    · exact Nat.lt_succ_self _
theorem map_modify_born {g : MapEntry → MapEntry} (hg : ∀ e, (g e).born = e.born) : ∀ (l : List MapEntry) (i : Nat), (l.modify i g).map (·.born) = l.map (·.born)
  | [], i => by cases i <;> rfl
  | e :: l, 0 => by simp only [List.modify_zero_cons, List.map_cons, hg]
  | e :: l, i + 1 => by simp only [List.modify_succ_cons, List.map_cons, map_modify_born hg l i]
theorem stampsOk.modify {es : Array MapEntry} {clock : Nat} (h : stampsOk es clock) {g : MapEntry → MapEntry} (hg : ∀ e, (g e).born = e.born) (i : Nat) : stampsOk (es.modify i g) clock := by
  obtain ⟨h1, h2⟩ := h
  have e : (es.modify i g).toList.map (·.born) = es.toList.map (·.born) := by rw [Array.toList_modify]; exact map_modify_born hg _ _
  refine ⟨by rw [e]; exact h1, fun x hx => ?_⟩
  have hx' : x.born ∈ (es.modify i g).toList.map (·.born) := List.mem_map_of_mem hx
  rw [e] at hx'
  obtain ⟨y, hy, hyx⟩ := List.mem_map.1 hx'
  rw [← hyx]
  exact h2 y hy
theorem stampsOk.erase {es : Array MapEntry} {clock : Nat} (h : stampsOk es clock) (i : Nat) : stampsOk (es.eraseIdxIfInBounds i) clock := by
  obtain ⟨h1, h2⟩ := h
  by_cases hi : i < es.size
  · have e : (es.eraseIdxIfInBounds i).toList = es.toList.eraseIdx i := by simp [Array.eraseIdxIfInBounds, hi]
    refine ⟨?_, fun x hx => ?_⟩
    · rw [e]
      exact h1.sublist ((List.eraseIdx_sublist _ _).map _)
    · rw [e] at hx
      exact h2 x ((List.eraseIdx_sublist _ _).subset hx)
  · have e : es.eraseIdxIfInBounds i = es := by simp [Array.eraseIdxIfInBounds, hi]
    rw [e]; exact ⟨h1, h2⟩

theorem keysApart.push {es : List (AV × AV × Nat)} {x v : AV} {c : Nat} (h : keysApart es) (hx : keyNot x es) : keysApart (es ++ [(x, v, c)]) := by
  unfold keysApart at h ⊢
  rw [List.map_append, List.pairwise_append]
  refine ⟨h, List.pairwise_singleton _ _, fun a ha b hb => ?_⟩
  simp only [List.map_cons, List.map_nil, List.mem_singleton] at hb
  subst hb
  obtain ⟨e, he, rfl⟩ := List.mem_map.1 ha
  rw [keyEq_comm]
  exact hx e he
theorem keysApart.same {e1 e2 : List (AV × AV × Nat)} {x v v' : AV} {n n' : Nat} (h : keysApart (e1 ++ (x, v, n) :: e2)) : keysApart (e1 ++ (x, v', n') :: e2) := by
  unfold keysApart at h ⊢
  rw [List.map_append, List.map_cons] at h ⊢
  exact h
theorem keysApart.less {e1 e2 : List (AV × AV × Nat)} {a : AV × AV × Nat} (h : keysApart (e1 ++ a :: e2)) : keysApart (e1 ++ e2) := by
  unfold keysApart at h ⊢
  refine h.sublist ?_
  exact ((List.Sublist.refl e1).append (List.sublist_cons_self a e2)).map _

theorem ents_append {es fs : List (AV × AV × Nat)} {es' fs' : List MapEntry} (h : entsRel r es es') (k : entsRel r fs fs') : entsRel r (es ++ fs) (es' ++ fs') := by
  induction h with
  | nil => exact k
  | cons h1 h2 _ ih => exact .cons h1 h2 ih

theorem ents_erase : ∀ {es : List (AV × AV × Nat)} {es' : List MapEntry} (i : Nat), entsRel r es es' → entsRel r (es.eraseIdx i) (es'.eraseIdx i)
  | _, _, i, .nil => by simp; exact .nil
  | _, _, 0, .cons _ _ h => h
  | _, _, i + 1, .cons h1 h2 h4 => .cons h1 h2 (ents_erase i h4)

end
end Go.AE
end
-- append, maps, calls; and every operation.
section
namespace Go.AE
section
variable {B : Nat} {r : Ren} {H : Heap} {w : World} {P : Program} {a : Frm} {a' : Act}

/-- an append within the room -/
theorem append_fit_run {t u e : TypeId} {size : Nat} {d : TypeDesc} {base : Option Addr} {len cap n : Nat} {x : Value} {new : Array Value} {ty : TypeId} {ats : Array TypeId} {w' : World}
    (ht : ats[0]? = some t) (hu : ats[1]? = some u) (hut : P.underlying t = some (.slice e)) (huu : P.underlying u = some d) (hd : ∀ k, d ≠ .int k) (hs0 : sizeP P e = some size)
    (hlen : (Builtin.lenOf x).run P w = .ok n w) (hneed : len + n ≤ cap)
    (hnew : (Builtin.firstCells size n x).run P w = .ok new w)
    (hst : match base with | some b => (Go.storeCells (b.add (len * size)) new.toList).run P w = .ok () w' | none => w' = w) :
    (Builtin.append_ ats ty #[.slice base len cap, x]).run P w = .ok (.slice base (len + n) cap) w' := by
  unfold Builtin.append_
  simp only [ht, hu, List.getElem?_toArray, List.getElem?_cons_zero, List.getElem?_cons_succ, Sem.run_bind, run_underlying hut, Result.andThen_ok, run_sizeOf hs0, run_underlying huu, Sem.run_pure, Bool.false_eq_true, if_false, hlen, hneed,
    if_true, Bool.not_false, hnew]
  cases base with
  | none => simp only at hst; subst hst; rfl
  | some b => simp only at hst; simp only [Sem.run_bind, hst, Result.andThen_ok]; rfl

theorem Sim.fresh (hS : Sim B r H w) : r.m H.next = none ∧ ¬ r.dead H.next := by
  constructor
  · cases h : r.m H.next with
    | none => rfl
    | some c => exact absurd (hS.live _ c h).1 (Nat.lt_irrefl _)
  · intro h; exact absurd (hS.dead _ h).1 (Nat.lt_irrefl _)

theorem new_row_size {old new : List AV} {vo vn rest : Array Value} {len n size newCap : Nat} (g2 : rels r old vo.toList) (k2 : rels r new vn.toList) (hll : old.length + new.length = (len + n) * size)
    (e1 : len + n ≤ newCap) (e2 : rest.size = (newCap - (len + n)) * size) : (vo ++ vn ++ rest).size = newCap * size := by
  have h1 := rels_length g2
  have h2 := rels_length k2
  simp only [Array.length_toList] at h1 h2
  simp only [Array.size_append, e2]
  rw [← h1, ← h2, hll, ← Nat.add_mul]
  congr 1
  omega

theorem new_row_rel {old new : List AV} {vo vn rest : Array Value} {i : Nat} {e : TypeId} (g2 : rels r old vo.toList) (k2 : rels r new vn.toList) (hsz : (vo ++ vn ++ rest).size = r.sz i) :
    blkRel r i (.cells (old ++ new) e true false) (.cells (vo ++ vn ++ rest) e) :=
  ⟨_, (0, 0), rest.toList, rfl, loose_zero _, ⟨vo.toList ++ vn.toList, by simp, rels_append g2 k2⟩, hsz⟩

theorem wr_append {ms : Methods} {call : CallF} {c : Call} {op : AOp} {v : AV} {H' : Heap} {s x : AX} (o : Oper) (ho : o.op = .call c) (hb : c.callee = .builtin .append) (hargs : cXs c.args.toList = some [s, x])
    (hc : cBuiltin P .append c.argTypes [s, x] = some op) (hS : Sim B r H w) (hF : FRel r a a') (h : wr ms call op a H = some (v, H')) : OpOk B P r H w a' o v H' := by
  obtain ⟨p, q, hpq, hp, hq⟩ := cXs_two hargs
  have hrs := cX_rel hF hp
  have hrx := cX_rel hF hq
  simp only [cBuiltin] at hc
  split at hc
  · rename_i t u ht hu
    split at hc
    · rename_i e d hut huu
      have hc' : (∀ k, d ≠ .int k) ∧ ∃ i z, P.info? e = some i ∧ zeroP P e = some z ∧ op = .append e i.size i.bytes s x := by
        split at hc
        · cases hc
        · rename_i hd
          split at hc
          · rename_i i hi
            split at hc
            · rename_i z hz
              cases hc
              exact ⟨fun k hk => hd k hk, i, z, hi, hz, rfl⟩
            · cases hc
          · cases hc
      clear hc
      obtain ⟨hd, info, z, hi, hz, rfl⟩ := hc'
      have hs0 : sizeP P e = some info.size := by simp [sizeP, hi]
      have exec : ∀ {z : Value} {w' : World}, (Builtin.append_ c.argTypes o.type #[a'.eval p, a'.eval q]).run P w = .ok z w' → (execOp a'.eval o).run P w = .ok (.value z) w' := by
        intro z w' hz
        rw [builtin_run ho hb, args_two hpq]
        exact value_run hz
      simp only [wr] at h
      generalize evalX a s = S at *
      generalize evalX a x = X at *
      unfold appendA at h
      split at h
      · rename_i S0 Ln base len cap n hn
        have hlen := lenOf_run (P := P) (w := w) hn hrx
        simp only [natbeq, natble] at h
        by_cases hn0 : n = 0
        · -- nothing is appended
          subst hn0
          simp only [decide_true, cond_true] at h
          have hfit : (∃ cap', (∃ base', a'.eval p = .slice base' len cap') ∧ len ≤ cap') ∧ v = .slice base len cap ∧ H' = H := by
            cases base with
            | none =>
              simp only [rel] at hrs
              obtain ⟨m, rfl, hv⟩ := hrs
              simp only at h
              by_cases hle : len ≤ m
              · simp only [hle, decide_true, cond_true, Option.some.injEq, Prod.mk.injEq] at h
                exact ⟨⟨m, ⟨_, hv⟩, hle⟩, h.1.symm, h.2.symm⟩
              · simp [hle] at h
            | some bq =>
              obtain ⟨b, q0⟩ := bq
              simp only [rel] at hrs
              obtain ⟨b', o', c', hv, _, hcap, _⟩ := hrs
              cases cap with
              | known m =>
                simp only at h
                simp only [capOk] at hcap
                subst hcap
                by_cases hle : len ≤ c'
                · simp only [hle, decide_true, cond_true, Option.some.injEq, Prod.mk.injEq] at h
                  exact ⟨⟨c', ⟨_, hv⟩, hle⟩, h.1.symm, h.2.symm⟩
                · simp [hle] at h
              | unk sz =>
                simp only [Option.some.injEq, Prod.mk.injEq] at h
                exact ⟨⟨c', ⟨_, hv⟩, hcap.1⟩, h.1.symm, h.2.symm⟩
          obtain ⟨⟨cap', ⟨base', hv⟩, hle⟩, rfl, rfl⟩ := hfit
          have hfc : ∃ new, (Builtin.firstCells info.size 0 (a'.eval q)).run P w = .ok new w ∧ new.toList = [] := by
            cases X with
            | slice p l cc =>
              cases p <;> simp only [rel] at hrx
              · obtain ⟨_, _, e⟩ := hrx; rw [e]; exact ⟨#[], rfl, rfl⟩
              · obtain ⟨_, _, _, e, _⟩ := hrx; rw [e]; exact ⟨#[], by simp [Builtin.firstCells, loadCells, loadCellsFrom], rfl⟩
            | str st => simp only [rel] at hrx; rw [hrx]; exact ⟨_, rfl, by simp [ByteArray.data_extract]⟩
            | _ => simp [lenOfA] at hn
          obtain ⟨new, hf1, hf2⟩ := hfc
          refine OpOk.of_value (Nat.le_refl _) (exec (z := .slice base' len cap') (w' := w) ?_) hS (Step.refl _ _ _ _) (hv ▸ hrs)
          rw [hv]
          have := append_fit_run (P := P) (w := w) (w' := w) (base := base') (len := len) (cap := cap') (n := 0) (ty := o.type) ht hu hut huu hd hs0 hlen (by omega) hf1 (by
            cases base' with
            | none => rfl
            | some b => simp only [hf2]; rfl)
          simpa using this
        · simp only [hn0, decide_false, cond_false] at h
          by_cases hg : ((len + n) * info.bytes ≤ 140737488355328) ∧ info.bytes ≠ 0 ∧ info.size ≠ 0
          · obtain ⟨hfit, hb0, hsz0⟩ := hg
            rw [show (!decide ((len + n) * info.bytes ≤ 140737488355328) || decide (info.bytes = 0) || decide (info.size = 0)) = false by simp [hfit, hb0, hsz0]] at h
            simp only [cond_false] at h
            split at h
            · cases h
            · rename_i new hnew
              have src : ∀ w' : World, w'.heap = w.heap → w'.tape = w.tape → True := fun _ _ _ => trivial
              have hSd : Sim B r H { w with drawn := w.drawn + 1 } := hS.drawn _
              split at h
              · -- the room is known
                rename_i cc
                by_cases hfitc : len + n ≤ cc
                · simp only [hfitc, decide_true, cond_true] at h
                  cases base with
                  | none => cases h
                  | some bq =>
                    obtain ⟨b, q0⟩ := bq
                    simp only at h
                    split at h
                    · rename_i H2 hst
                      cases h
                      have hrs0 := hrs
                      simp only [rel] at hrs
                      obtain ⟨b', o', c', hv, ha, hcap, hoff⟩ := hrs
                      simp only [capOk] at hcap
                      subst hcap
                      have ho' : o' = q0 := by
                        rcases hoff with h | h
                        · exact h
                        · simp [amb] at h; omega
                      subst ho'
                      obtain ⟨vs, h1, h2⟩ := source_run (P := P) hS hn (Nat.le_refl _) hnew hrx
                      obtain ⟨w', h3, h4, h5, h6⟩ := hS.storeCells (P := P) ha h2 hst H.next
                      refine OpOk.of_value (v' := .slice (some ⟨b', o', none⟩) (len + n) c') (by omega) (exec ?_) h4 h5 ?_
                      · rw [hv]
                        exact append_fit_run (w' := w') ht hu hut huu hd hs0 hlen hfitc h1 (by simpa only [Addr.add_eq] using h3)
                      · simp only [rel]; exact ⟨b', o', c', rfl, ha, rfl, .inl rfl⟩
                    · cases h
                · simp only [hfitc, decide_false, cond_false] at h
                  split at h
                  · rename_i old hold
                    by_cases hll : old.length + new.length = (len + n) * info.size
                    · simp only [hll, decide_true, cond_true, Option.some.injEq, Prod.mk.injEq] at h
                      obtain ⟨rfl, rfl⟩ := h
                      have hdim : ∃ base' , a'.eval p = .slice base' len cc := by
                        cases base with
                        | none => simp only [rel] at hrs; obtain ⟨m, e, hv⟩ := hrs; cases e; exact ⟨_, hv⟩
                        | some bq => obtain ⟨b, q0⟩ := bq; simp only [rel] at hrs; obtain ⟨_, _, _, hv, _, hcap, _⟩ := hrs; simp only [capOk] at hcap; exact ⟨_, hcap ▸ hv⟩
                      obtain ⟨base', hv⟩ := hdim
                      obtain ⟨vo, g1, g2⟩ := source_run (P := P) hSd (x := .slice base len (.known cc)) (m := len) rfl (Nat.le_refl _) hold hrs
                      obtain ⟨vn, k1, k2⟩ := source_run (P := P) hSd hn (Nat.le_refl _) hnew hrx
                      rw [hv] at g1
                      obtain ⟨newCap, rest, e1, e2, e3⟩ := append_new_run (w := w) (ty := o.type) ht hu hut huu hd hi hz hlen (by omega) hfit hb0 g1 k1
                      obtain ⟨f1, f2⟩ := hS.fresh
                      have hsize := new_row_size g2 k2 hll e1 e2
                      have hA := hS.alloc f1 f2 (H' := H.push (.cells (old ++ new) e true false)) (by simp [Heap.push]) (by simp [Heap.push])
                        (by intro b hb; simp only [Heap.push]; rw [T.get_set, if_neg (fun h => hb h.symm)]) (x := .cells (old ++ new) e true false) (by simp [Heap.push, T.get_set]) (obj := .cells (vo ++ vn ++ rest) e) (n := newCap * info.size) (w.drawn + 1)
                        (fun r' hle hm hsz => new_row_rel (rels.mono hle _ _ g2) (rels.mono hle _ _ k2) (by rw [hsize, hsz]))
                      refine OpOk.of_value (by simp [Heap.push]) (exec (by rw [hv]; exact e3)) hA (Step.alloc f1 (Nat.le_refl _) _ _ _) ?_
                      simp only [rel]
                      exact ⟨_, 0, newCap, rfl, .inl (by simp [Ren.add]), ⟨e1, .inr (.inl (by simp [Ren.add]))⟩, .inl rfl⟩
                    · simp [hll] at h
                  · cases h
              · -- the room is not known
                rename_i sz
                split at h
                · rename_i b
                  by_cases hss : sz = info.size ∧ new.all AV.atom = true
                  · obtain ⟨rfl, hatoms⟩ := hss
                    simp only [decide_true, hatoms, Bool.and_self, cond_true] at h
                    split at h
                    · rename_i cs e' hblk
                      split at h
                      · rename_i old hold
                        by_cases hll : old.length + new.length = (len + n) * info.size ∧ e' = e
                        · obtain ⟨hll, rfl⟩ := hll
                          simp only [hll, decide_true, Bool.and_self, Bool.not_true, cond_false, Option.some.injEq, Prod.mk.injEq] at h
                          obtain ⟨rfl, rfl⟩ := h
                          have hrs0 := hrs
                          simp only [rel] at hrs
                          obtain ⟨b', o', c', hv, ha, ⟨hc1, hc2⟩, hoff⟩ := hrs
                          have ho' : o' = 0 := by
                            rcases hoff with h | h
                            · exact h
                            · exact absurd rfl h.2
                          subst ho'
                          obtain ⟨hm, obj, q1, q2, q3⟩ := hS.block ha hblk
                          have hB : ¬ b' < B := fun hlt => by have := q3 hlt; cases this
                          have hnd := (hS.live b b' hm).2.2
                          obtain ⟨cs', fr, rest, rfl, p4, ⟨l, p5, p6⟩, p7⟩ := q2
                          simp only [cond_true] at p7
                          obtain ⟨f1, f2⟩ := hS.fresh
                          obtain ⟨gr1, gr2⟩ := grab_some hold
                          have hbn : b ≠ H.next := fun h => by rw [h, f1] at hm; cases hm
                          by_cases hfitc : len + n ≤ c'
                          · -- in its place
                            obtain ⟨vn, k1, k2⟩ := source_run (P := P) hS hn (Nat.le_refl _) hnew hrx
                            have hnl : new.length = n * info.size := by
                              have := rels_length p6
                              rw [gr2, Nat.add_mul] at hll; omega
                            have hsum : cs'.size = c' * info.size := by
                              rcases hc2 with h | h | h
                              · exact absurd h hnd
                              · rw [p7]; omega
                              · omega
                            have hroom : 0 + len * info.size + vn.toList.length ≤ cs'.size := by
                              rw [← rels_length k2, hnl, hsum]
                              have : (len + n) * info.size ≤ c' * info.size := Nat.mul_le_mul_right _ hfitc
                              rw [Nat.add_mul] at this; omega
                            obtain ⟨cs3, s1, s2, s3⟩ := storeCells_run (P := P) (w := w) (b := b') (o := 0 + len * info.size) (e := e') (fr := fr) (hS.lt hm) vn.toList 0 cs' p4 (by omega) (rels_atoms k2 hatoms)
                            rw [setBlk_self q1] at s1
                            have hl5 : len * info.size ≤ l.length := by
                              rw [← rels_length p6]
                              have := congrArg List.length gr1
                              simp only [List.drop_zero, List.length_take] at this
                              omega
                            have hA := hS.adopt hm hB f1 f2 (H' := { t := (H.t.del b).set H.next (.cells (old ++ new) e' true false), next := Nat.succ H.next }) (by simp) (by simp)
                              (by intro d hd; rw [T.get_set, if_neg (fun h => hd h.symm)]) (x := .cells (old ++ new) e' true false) (by rw [T.get_set]; simp) (obj := .cells cs3 e' fr) (n := r.sz b)
                              (fun r' hle hm' hsz => ⟨cs3, fr, cs'.toList.drop (len * info.size + vn.toList.length), rfl, by rw [s2]; exact p4, ⟨l.take (len * info.size) ++ vn.toList, by
                                  rw [s3, p5]; simp only [Nat.zero_add, Nat.add_zero]; rw [List.take_append_of_le_length hl5], by
                                  refine rels_append ?_ (rels.mono hle _ _ k2)
                                  rw [gr1, List.drop_zero]
                                  exact rels_take _ (rels.mono hle _ _ p6)⟩, by simp only [cond_true]; rw [s2, p7, hsz]⟩)
                            refine OpOk.of_value (v' := .slice (some ⟨b', 0, none⟩) (len + n) c') (by simp) (exec ?_) hA (Step.adopt hm hB (hS.lt hm) f1 (Nat.le_refl _) _ _) ?_
                            · rw [hv]
                              exact append_fit_run (w' := _) ht hu hut huu hd hs0 hlen hfitc k1 (by simpa only [Addr.add_eq] using s1)
                            · simp only [rel]
                              refine ⟨b', 0, c', rfl, .inl (by simp [Ren.add]), ⟨hfitc, .inr (.inl ?_)⟩, .inl rfl⟩
                              simp only [Ren.add, if_true]
                              rcases hc2 with h | h | h
                              · exact absurd h hnd
                              · exact h
                              · omega
                          · -- in a new row
                            have hsrc : source info.size H len (.slice (some (b, 0)) len (.unk info.size)) = some old := by
                              unfold source
                              cases len with
                              | zero => simp only; rw [Nat.zero_mul] at gr2; rw [List.length_eq_zero_iff.1 gr2]
                              | succ k => simp only [Heap.loadN, Heap.cellsAt, hblk]; exact hold
                            obtain ⟨vo, g1, g2⟩ := source_run (P := P) hSd (m := len) rfl (Nat.le_refl _) hsrc hrs0
                            obtain ⟨vn, k1, k2⟩ := source_run (P := P) hSd hn (Nat.le_refl _) hnew hrx
                            rw [hv] at g1
                            obtain ⟨newCap, rest2, e1, e2, e3⟩ := append_new_run (w := w) (ty := o.type) ht hu hut huu hd hi hz hlen (by omega) hfit hb0 g1 k1
                            have hsize := new_row_size g2 k2 hll e1 e2
                            have hK := hS.kill hm
                            have f1' : (r.kill b).m H.next = none := by simp [Ren.kill, f1]
                            have f2' : ¬ (r.kill b).dead H.next := fun h => h.elim (fun h => hbn h.symm) f2
                            have hA := hK.alloc f1' f2' (H' := { t := (H.t.del b).set H.next (.cells (old ++ new) e' true false), next := Nat.succ H.next }) (by simp) (by simp)
                              (by intro d hd; simp only; rw [T.get_set, if_neg (fun h => hd h.symm)]) (x := .cells (old ++ new) e' true false) (by rw [T.get_set]; simp) (obj := .cells (vo ++ vn ++ rest2) e') (n := newCap * info.size) (w.drawn + 1)
                              (fun r' hle hm hsz => new_row_rel (rels.mono ((r.kill_le b).trans hle) _ _ g2) (rels.mono ((r.kill_le b).trans hle) _ _ k2) (by rw [hsize, hsz]))
                            refine OpOk.of_value (by simp) (exec (by rw [hv]; exact e3)) hA ((Step.kill hm).trans (Step.alloc f1' (Nat.le_refl _) _ _ _)) ?_
                            simp only [rel]
                            exact ⟨_, 0, newCap, rfl, .inl (by simp [Ren.add]), ⟨e1, .inr (.inl (by simp [Ren.add]))⟩, .inl rfl⟩
                        · rw [show (!(decide (old.length + new.length = (len + n) * info.size) && decide (e' = e))) = true by
                            simp only [Bool.not_eq_true', Bool.and_eq_false_iff, decide_eq_false_iff_not]
                            by_cases h1 : old.length + new.length = (len + n) * info.size
                            · exact .inr fun h2 => hll ⟨h1, h2⟩
                            · exact .inl h1] at h
                          cases h
                      · cases h
                    · cases h
                  · rw [show (decide (sz = info.size) && new.all AV.atom) = false by
                      by_cases h1 : sz = info.size
                      · have : new.all AV.atom = false := Bool.eq_false_iff.2 fun h2 => hss ⟨h1, h2⟩
                        simp only [this, Bool.and_false]
                      · simp [h1]] at h
                    cases h
                · cases h
          · rw [show (!decide ((len + n) * info.bytes ≤ 140737488355328) || decide (info.bytes = 0) || decide (info.size = 0)) = true by
              simp only [Bool.or_eq_true, Bool.not_eq_true', decide_eq_false_iff_not, decide_eq_true_eq]
              by_cases h1 : (len + n) * info.bytes ≤ 140737488355328
              · by_cases h2 : info.bytes = 0
                · exact .inl (.inr h2)
                · by_cases h3 : info.size = 0
                  · exact .inr h3
                  · exact absurd ⟨h1, h2, h3⟩ hg
              · exact .inl (.inl h1)] at h
            cases h
      · cases h
    · cases hc
  · cases hc

end
end Go.AE
end
-- maps, calls; and every operation.
section
namespace Go.AE
section
variable {B : Nat} {r : Ren} {H : Heap} {w : World} {P : Program} {a : Frm} {a' : Act}

theorem key_unique {kk : KeyKind} {x : AV} {v v' : Value} (hk : isKey kk x = true) (h : rel r x v) (h' : rel r x v') : v = v' := by
  unfold isKey at hk
  split at hk <;> first | (simp only [rel] at h h'; rw [h, h']) | cases hk

theorem sameBits_key {kk : KeyKind} {x : AV} {v : Value} (hk : isKey kk x = true) (h : rel r x v) (n : Nat) : Instr.sameBits (n + 1) v v = true := by
  unfold isKey at hk
  split at hk
  · simp only [rel] at h; subst h; simp [Instr.sameBits]
  · simp only [rel] at h; subst h; simp [Instr.sameBits, bbeq]
  · simp only [rel] at h; subst h; simp [Instr.sameBits]
  · cases hk

theorem setObj_run {b : Nat} {es : Array MapEntry} {clock : Nat} (h : w.heap[b]? = some (.map es clock)) (o : Obj) : (setObj b o).run P w = .ok () (AE.setBlk w b o) := by
  simp [setObj, Sem.run, h, AE.setBlk]

theorem wr_mapUpdate {ms : Methods} {call : CallF} {t : TypeId} {m k x : Operand} {op : AOp} {v : AV} {H' : Heap} (o : Oper) (ho : o.op = .mapUpdate t m k x ∨ o.op = .insert t m k x) (hc : cOp P o.op = some op) (hS : Sim B r H w) (hF : FRel r a a')
    (h : wr ms call op a H = some (v, H')) : OpOk B P r H w a' o v H' := by
  have hexec : execOp a'.eval o = (do Instr.mapUpdate t (a'.eval m) (a'.eval k) (a'.eval x); pure Next.skip) := by
    unfold execOp; rcases ho with ho | ho <;> rw [ho]
  have hc' : (match cX m, cX k, cX x, P.underlying t with
    | some m, some k, some x, some (.map kt _) => (match keyP P kt with | some kk => some (.mapUpdate kk m k x) | none => none)
    | _, _, _, _ => none) = some op := by
    rcases ho with ho | ho <;> rw [ho] at hc <;> exact hc
  clear hc
  split at hc'
  · rename_i m' k' x' kt e hm hkx hx hu
    split at hc'
    · rename_i kk hkk
      cases hc'
      obtain ⟨d, hud, hd⟩ := keyP_some hkk
      simp only [wr] at h
      split at h
      · rename_i b hmv
        split at h
        · rename_i es clock hb
          cases hkey : isKey kk (evalX a k') with
          | false => rw [hkey] at h; cases h
          | true =>
            rw [hkey] at h
            simp only [cond_true] at h
            have hxr := cX_rel hF hkx
            have hmr := cX_rel hF hm
            rw [hmv] at hmr; simp only [rel] at hmr
            obtain ⟨b', hv, ha⟩ := hmr
            obtain ⟨hmm, es', clock', l, h1, hpm, h2, hap, hst, hB⟩ := hS.map ha hb
            cases hfk : findKey (evalX a k') es 0 with
            | none => rw [hfk] at h; cases h
            | some res =>
              rw [hfk] at h
              obtain ⟨res', h3, h4⟩ := findKey_now hd hkey hxr hpm h2 hap hfk
              have find : (Instr.findKey kt (a'.eval k) es'.toList).run P w = .ok res' w := by
                simp [Instr.findKey, run_underlying hud, h3]
              cases res with
              | none =>
                cases res' with
                | some q => exact h4.elim
                | none =>
                  simp only [Option.some.injEq, Prod.mk.injEq] at h
                  obtain ⟨rfl, rfl⟩ := h
                  have hblk : blkRel r b (.map (es ++ [(evalX a k', evalX a x', clock)]) (Nat.succ clock)) (.map (es'.push { key := a'.eval k, val := a'.eval x, born := clock' }) (clock' + 1)) :=
                    ⟨_, _, l ++ [(evalX a k', evalX a x', clock)], rfl, hpm.append_right _, by simp only [Array.toList_push]; exact ents_append h2 (.cons hxr (cX_rel hF hx) .nil), hap.push h4, hst.push _ _⟩
                  refine OpOk.of_skip (Nat.le_refl _) ?_ (hS.setBlk hmm hB hb hblk) (Step.setBlk hmm hB (hS.lt hmm) _)
                  rw [hexec]
                  refine skip_run ?_
                  unfold Instr.mapUpdate
                  simp only [Sem.run_bind, run_underlying hu, Result.andThen_ok, hv, run_getObj_map h1, checkKey_run hud hd, find, setObj_run h1]
              | some p =>
                cases res' with
                | none => exact h4.elim
                | some q =>
                  obtain ⟨j, pv⟩ := p
                  obtain ⟨j', qv⟩ := q
                  simp only at h4
                  obtain ⟨h5, e1, n, e2, l1, l2, ee', hes, rfl, rfl, rfl, hpp, h7, hkr⟩ := h4
                  subst hes
                  simp only [Option.some.injEq, Prod.mk.injEq] at h
                  obtain ⟨rfl, rfl⟩ := h
                  have hkeys : ee'.key = a'.eval k := key_unique hkey hkr hxr
                  have hold : ((es'[l1.length]?).map (·.key)).getD (a'.eval k) = a'.eval k := by
                    rw [← Array.getElem?_toList, h7]; simp [hkeys]
                  have hblk : blkRel r b (.map (modAt (fun e => (evalX a k', evalX a x', e.2.2)) (e1 ++ (evalX a k', pv, n) :: e2) e1.length) clock) (.map (es'.modify l1.length fun e => { e with key := a'.eval k, val := a'.eval x }) clock') := by
                    refine ⟨_, _, modAt (fun e => (evalX a k', evalX a x', e.2.2)) (l1 ++ (evalX a k', pv, n) :: l2) l1.length, rfl, ?_, ?_, ?_, hst.modify (g := fun e => { e with key := a'.eval k, val := a'.eval x }) (fun _ => rfl) l1.length⟩
                    · rw [modAt_mid, modAt_mid]
                      exact List.perm_middle.trans ((hpp.cons _).trans List.perm_middle.symm)
                    · rw [Array.toList_modify]
                      exact modAt_rel l1.length h2 fun e1 e2 he1 he2 => ⟨hxr, cX_rel hF hx⟩
                    · rw [modAt_mid]
                      exact hap.same
                  refine OpOk.of_skip (Nat.le_refl _) ?_ (hS.setBlk hmm hB hb hblk) (Step.setBlk hmm hB (hS.lt hmm) _)
                  rw [hexec]
                  refine skip_run ?_
                  unfold Instr.mapUpdate
                  simp only [Sem.run_bind, run_underlying hu, Result.andThen_ok, hv, run_getObj_map h1, checkKey_run hud hd, find, hold]
                  unfold Instr.keyThatStays
                  rw [sameBits_key hkey hxr 9999]
                  simp only [if_true, Sem.run_pure, Result.andThen_ok, setObj_run h1]
        · cases h
      · cases h
    · cases hc'
  · cases hc'

theorem wr_delete {ms : Methods} {call : CallF} {c : Call} {op : AOp} {v : AV} {H' : Heap} {m k : AX} (o : Oper) (ho : o.op = .call c) (hb : c.callee = .builtin .delete) (hargs : cXs c.args.toList = some [m, k])
    (hc : cBuiltin P .delete c.argTypes [m, k] = some op) (hS : Sim B r H w) (hF : FRel r a a') (h : wr ms call op a H = some (v, H')) : OpOk B P r H w a' o v H' := by
  obtain ⟨p, q, hpq, hp, hq⟩ := cXs_two hargs
  have hmr := cX_rel hF hp
  have hxr := cX_rel hF hq
  simp only [cBuiltin] at hc
  split at hc
  · rename_i t ht
    split at hc
    · rename_i kt e hu
      split at hc
      · rename_i kk hkk
        cases hc
        obtain ⟨d, hud, hd⟩ := keyP_some hkk
        have exec : ∀ {z : Value} {w' : World}, (Builtin.delete_ c.argTypes o.type #[a'.eval p, a'.eval q]).run P w = .ok z w' → (execOp a'.eval o).run P w = .ok (.value z) w' := by
          intro z w' hz
          rw [builtin_run ho hb, args_two hpq]
          exact value_run hz
        have hret : rel r (.tuple []) (.tuple #[]) := by simp only [rel]; exact ⟨#[], rfl, rels_nil⟩
        simp only [wr] at h
        split at h
        · rename_i hmv
          cases hkey : isKey kk (evalX a k) with
          | false => rw [hkey] at h; cases h
          | true =>
            rw [hkey] at h
            simp only [cond_true, Option.some.injEq, Prod.mk.injEq] at h
            obtain ⟨rfl, rfl⟩ := h
            rw [hmv] at hmr; simp only [rel] at hmr
            refine OpOk.of_value (Nat.le_refl _) (exec (z := .tuple #[]) (w' := w) ?_) hS (Step.refl _ _ _ _) hret
            unfold Builtin.delete_
            simp only [ht, hmr, List.getElem?_toArray, List.getElem?_cons_zero, List.getElem?_cons_succ, Sem.run_bind, run_underlying hu, Result.andThen_ok, checkKey_run hud hd]
            rfl
        · rename_i b hmv
          split at h
          · rename_i es clock hbk
            cases hkey : isKey kk (evalX a k) with
            | false => rw [hkey] at h; cases h
            | true =>
              rw [hkey] at h
              simp only [cond_true] at h
              rw [hmv] at hmr; simp only [rel] at hmr
              obtain ⟨b', hv, ha⟩ := hmr
              obtain ⟨hmm, es', clock', l0, h1, hpm, h2, hap, hst, hB⟩ := hS.map ha hbk
              cases hfk : findKey (evalX a k) es 0 with
              | none => rw [hfk] at h; cases h
              | some res =>
                rw [hfk] at h
                obtain ⟨res', h3, h4⟩ := findKey_now hd hkey hxr hpm h2 hap hfk
                have find : (Instr.findKey kt (a'.eval q) es'.toList).run P w = .ok res' w := by
                  simp [Instr.findKey, run_underlying hud, h3]
                have fin : ∀ (l lp : List (AV × AV × Nat)) (l' : Array MapEntry), lp.Perm l → entsRel r lp l'.toList → keysApart l → stampsOk l' clock' → v = .tuple [] → H' = { H with t := H.t.set b (.map l clock) } →
                    ((match res' with
                      | some (i, _) => setObj b' (.map (es'.eraseIdxIfInBounds i) clock')
                      | none => setObj b' (.map es' clock')).run P w = .ok () (AE.setBlk w b' (.map l' clock'))) → OpOk B P r H w a' o v H' := by
                  rintro l lp l' hlp hl hla hls rfl rfl hrun
                  have hblk : blkRel r b (.map l clock) (.map l' clock') := ⟨_, _, lp, rfl, hlp, hl, hla, hls⟩
                  refine OpOk.of_value (v' := .tuple #[]) (Nat.le_refl _) (exec ?_) (hS.setBlk hmm hB hbk hblk) (Step.setBlk hmm hB (hS.lt hmm) _) hret
                  unfold Builtin.delete_
                  simp only [ht, hv, List.getElem?_toArray, List.getElem?_cons_zero, List.getElem?_cons_succ, Sem.run_bind, run_underlying hu, Result.andThen_ok, run_getObj_map h1, checkKey_run hud hd, find]
                  cases res' with
                  | none => simp only at hrun ⊢; rw [Sem.run_bind, hrun]; rfl
                  | some p => simp only at hrun ⊢; rw [Sem.run_bind, hrun]; rfl
                cases res with
                | none =>
                  cases res' with
                  | some q => exact h4.elim
                  | none =>
                    simp only [Option.some.injEq, Prod.mk.injEq] at h
                    exact fin es l0 es' hpm h2 hap hst h.1.symm h.2.symm (setObj_run h1 _)
                | some p =>
                  cases res' with
                  | none => exact h4.elim
                  | some q =>
                    obtain ⟨j, pv⟩ := p
                    obtain ⟨j', qv⟩ := q
                    simp only at h4
                    obtain ⟨h5, e1, n, e2, l1, l2, ee', hes, rfl, rfl, rfl, hpp, h7, hkr⟩ := h4
                    subst hes
                    simp only [Option.some.injEq, Prod.mk.injEq] at h
                    have hlt : l1.length < es'.size := by
                      have := (List.getElem?_eq_some_iff.1 h7).1
                      simpa using this
                    rw [erase_mid] at h
                    refine fin _ (l1 ++ l2) (es'.eraseIdxIfInBounds l1.length) hpp ?_ hap.less (hst.erase _) h.1.symm h.2.symm (setObj_run h1 _)
                    rw [show (es'.eraseIdxIfInBounds l1.length).toList = es'.toList.eraseIdx l1.length by simp [Array.eraseIdxIfInBounds, hlt]]
                    have := ents_erase l1.length h2
                    rwa [erase_mid] at this
          · cases h
        · cases h
      · cases hc
    · cases hc
  · cases hc

theorem callFunc_run {f : Nat} {args : Array Value} {fn : Func} (h1 : P.funcs[f]? = some fn) (h2 : (fn.name == "runtime.NumGoroutine") = false) (h3 : fn.body.isNone = false) :
    (callFunc f args).run P w = .ok (.enter f args) w := by
  unfold callFunc
  simp only [Sem.run_bind, run_program, Result.andThen_ok, h1, h2, h3]
  rfl

theorem OpOk.of_call {o : Oper} {call : CallF} (hcall : CallOk P call) {f : Nat} {args : List AV} {args' : Array Value} {v : AV} {H' : Heap} (h : call f args H = some (v, H')) (hS : Sim B r H w) (hr : rels r args args'.toList)
    (hex : ∀ fn, P.funcs[f]? = some fn → (fn.name == "runtime.NumGoroutine") = false → fn.body.isNone = false → (execOp a'.eval o).run P w = .ok (.enter f args') w) : OpOk B P r H w a' o v H' := by
  obtain ⟨⟨fn, h1, h2, h3⟩, hn, hcalls⟩ := hcall f args H v H' h
  refine ⟨hn, fun K Q hK => ?_⟩
  unfold Oper.wp
  rw [hex fn h1 h2 h3]
  rw [Oper.upon_enter]
  refine (hcalls B r w args' hS hr).mono fun e w' he => ?_
  obtain ⟨r', v', rfl, g1, g2, g3⟩ := he
  exact hK r' w' v' g1 g2 g3

theorem wr_call {ms : Methods} {call : CallF} (hcall : CallOk P call) {c : Call} {fx : AX} {args : List AX} {v : AV} {H' : Heap} {f : Operand} (o : Oper) (ho : o.op = .call c) (hb : c.callee = .value f) (hargs : cXs c.args.toList = some args) (hf : cX f = some fx)
    (hS : Sim B r H w) (hF : FRel r a a') (h : wr ms call (.call fx args) a H = some (v, H')) : OpOk B P r H w a' o v H' := by
  simp only [wr] at h
  split at h
  · rename_i g first captured he
    have hr := cX_rel hF hf
    rw [he] at hr; simp only [rel] at hr
    obtain ⟨f', c', hv, h1, h2⟩ := hr
    have hra := cXs_rel hF hargs
    refine OpOk.of_call hcall h hS (args' := f' ++ c.args.map a'.eval ++ c') ?_ ?_
    · simp only [Array.toList_append, Array.toList_map]
      exact rels_append (rels_append h1 hra) h2
    · intro fn g1 g2 g3
      unfold execOp
      rw [ho]
      simp only [resolve, hb, hv, Deferred.ofValue, Sem.run_bind, Sem.run_pure, Result.andThen_ok, invoke]
      exact callFunc_run g1 g2 g3
  · cases h

theorem wr_callM {ms : Methods} (hms : MethodsOk P ms) {call : CallF} (hcall : CallOk P call) {c : Call} {rx : AX} {args : List AX} {v : AV} {H' : Heap} {rc : Operand} {name : String} (o : Oper) (ho : o.op = .call c) (hb : c.callee = .invoke rc name)
    (hargs : cXs c.args.toList = some args) (hf : cX rc = some rx) (hS : Sim B r H w) (hF : FRel r a a') (h : wr ms call (.callM rx name args) a H = some (v, H')) : OpOk B P r H w a' o v H' := by
  simp only [wr] at h
  split at h
  · rename_i t u he
    split at h
    · rename_i g hg
      have hr := cX_rel hF hf
      rw [he] at hr; simp only [rel] at hr
      obtain ⟨u', hv, h1⟩ := hr
      have hra := cXs_rel hF hargs
      refine OpOk.of_call hcall h hS (args' := #[u'] ++ c.args.map a'.eval) ?_ ?_
      · simp only [Array.toList_append, Array.toList_map]
        exact rels_cons h1 hra
      · intro fn g1 g2 g3
        unfold execOp
        rw [ho]
        have hex : (#[Value.iface t u'] ++ c.args.map a'.eval).extract 1 (#[Value.iface t u'] ++ c.args.map a'.eval).size = c.args.map a'.eval := by
          apply Array.ext'
          simp [List.extract_eq_take_drop, List.take_of_length_le]
        have h0 : (#[Value.iface t u'] ++ c.args.map a'.eval)[0]? = some (Value.iface t u') := by rw [← Array.getElem?_toList]; simp
        simp only [resolve, hb, hv, Sem.run_bind, Sem.run_pure, Result.andThen_ok, invoke, h0, hex, callMethod, run_program, hms t name g hg u' w]
        exact callFunc_run g1 g2 g3
    · cases h
  · cases h

/-- an operation that makes a block is the model's -/
theorem al_sound (o : Oper) {op : AOp} {x : ABlk} {f : Nat → AV} (hc : cOp P o.op = some op) (hk : kindOf op = .al) (hF : FRel r a a') (h : al op a = some (x, f)) : AlOk P r w a' o x f := by
  cases ho : o.op with
  | alloc e => rw [ho] at hc; exact al_alloc o ho hc h
  | box e x => rw [ho] at hc; exact al_box o ho hc hF h
  | buildSlice t n ps => rw [ho] at hc; exact al_buildSlice o ho hc hF h
  | makeMap t hh => rw [ho] at hc; exact al_makeMap o ho hc hF h
  | makeSlice t l c => rw [ho] at hc; exact al_makeSlice o ho hc hF h
  | convert s d x => rw [ho] at hc; exact al_strToBytes o ho hc hF h
  | call c =>
    rw [ho] at hc
    simp only [cOp] at hc
    exfalso
    split at hc
    · split at hc
      · split at hc <;> cases hc; cases hk
      · split at hc <;> cases hc; cases hk
      · unfold cBuiltin at hc
        (repeat' split at hc) <;> first | (cases hc; done) | (cases hc; cases hk)
    · cases hc
  | binOp b t x y u =>
    rw [ho] at hc; exfalso
    simp only [cOp, cBin] at hc
    split at hc
    · rename_i X Y _ _
      split at hc
      · cases hc; cases hk
      · cases hc; cases hk
      · split at hc <;> cases hc <;> cases hk
      · split at hc <;> cases hc <;> cases hk
      · cases hcc : (isConstX X || isConstX Y) with
        | false => rw [hcc] at hc; cases hc
        | true => rw [hcc] at hc; simp only [cond_true] at hc; split at hc <;> cases hc <;> cases hk
      · split at hc <;> cases hc <;> cases hk
      · split at hc <;> cases hc <;> cases hk
      · split at hc <;> cases hc <;> cases hk
      · cases hc
    · cases hc
  | slice t x lo hi mx =>
    rw [ho] at hc; exfalso
    simp only [cOp, cSlice] at hc
    (repeat' split at hc) <;> first | (cases hc; done) | (cases hc; cases hk)
  | fieldAddr t x i =>
    rw [ho] at hc; exfalso
    simp only [cOp] at hc
    split at hc
    · split at hc
      · rename_i q n _
        cases hcc : Nat.beq n 0 with
        | true => rw [hcc] at hc; cases hc
        | false => rw [hcc] at hc; cases hc; cases hk
      · cases hc
    · cases hc
  | _ =>
    rw [ho] at hc; exfalso
    simp only [cOp] at hc
    first
      | (cases hc; done)
      | ((repeat' split at hc) <;> first | (cases hc; done) | (cases hc; cases hk))

/-- an operation of whatever kind -/
theorem op_sound {ms : Methods} (hms : MethodsOk P ms) {call : CallF} (hcall : CallOk P call) (o : Oper) {op : AOp} {v : AV} {H' : Heap} (hc : cOp P o.op = some op) (hS : Sim B r H w) (hF : FRel r a a')
    (hk : kindOf op = .wr) (h : wr ms call op a H = some (v, H')) : OpOk B P r H w a' o v H' := by
  cases ho : o.op with
  | store t x y => rw [ho] at hc; exact wr_store o ho hc hS hF h
  | mapUpdate t m k x => exact wr_mapUpdate o (.inl ho) hc hS hF h
  | insert t m k x => exact wr_mapUpdate o (.inr ho) hc hS hF h
  | call c =>
    rw [ho] at hc
    simp only [cOp] at hc
    split at hc
    · rename_i args hargs
      split at hc
      · rename_i f hcf
        split at hc
        · rename_i fx hfx; cases hc; exact wr_call hcall o ho hcf hargs hfx hS hF h
        · cases hc
      · rename_i rc n hcf
        split at hc
        · rename_i rx hrx; cases hc; exact wr_callM hms hcall o ho hcf hargs hrx hS hF h
        · cases hc
      · rename_i b hb
        have hc0 := hc
        unfold cBuiltin at hc
        split at hc
        · exfalso; (repeat' split at hc) <;> first | (cases hc; done) | (cases hc; cases hk)
        · exact wr_append o ho hb hargs hc0 hS hF h
        · exact wr_copy o ho hb hargs hc0 hS hF h
        · cases hc; cases hk
        · cases hc; cases hk
        · exact wr_delete o ho hb hargs hc0 hS hF h
        · cases hc
    · cases hc
  | binOp b t x y u =>
    rw [ho] at hc; exfalso
    simp only [cOp, cBin] at hc
    split at hc
    · rename_i X Y _ _
      split at hc
      · cases hc; cases hk
      · cases hc; cases hk
      · split at hc <;> cases hc <;> cases hk
      · split at hc <;> cases hc <;> cases hk
      · cases hcc : (isConstX X || isConstX Y) with
        | false => rw [hcc] at hc; cases hc
        | true => rw [hcc] at hc; simp only [cond_true] at hc; split at hc <;> cases hc <;> cases hk
      · split at hc <;> cases hc <;> cases hk
      · split at hc <;> cases hc <;> cases hk
      · split at hc <;> cases hc <;> cases hk
      · cases hc
    · cases hc
  | slice t x lo hi mx =>
    rw [ho] at hc; exfalso
    simp only [cOp, cSlice] at hc
    (repeat' split at hc) <;> first | (cases hc; done) | (cases hc; cases hk)
  | convert s d x =>
    rw [ho] at hc; exfalso
    simp only [cOp, cConv] at hc
    (repeat' split at hc) <;> first | (cases hc; done) | (cases hc; cases hk)
  | buildSlice t n ps =>
    rw [ho] at hc; exfalso
    simp only [cOp] at hc
    split at hc
    · split at hc
      · rename_i z n' _ _
        cases hcc : Nat.ble (n * n') 16777216 with
        | false => rw [hcc] at hc; cases hc
        | true => rw [hcc] at hc; simp only [cond_true] at hc; split at hc <;> cases hc; cases hk
      · cases hc
    · cases hc
  | fieldAddr t x i =>
    rw [ho] at hc; exfalso
    simp only [cOp] at hc
    split at hc
    · split at hc
      · rename_i q n _
        cases hcc : Nat.beq n 0 with
        | true => rw [hcc] at hc; cases hc
        | false => rw [hcc] at hc; cases hc; cases hk
      · cases hc
    · cases hc
  | _ =>
    rw [ho] at hc; exfalso
    simp only [cOp] at hc
    first
      | (cases hc; done)
      | ((repeat' split at hc) <;> first | (cases hc; done) | (cases hc; cases hk))

end
end Go.AE
end
-- Statements: operations in the order of the text.
section
namespace Go.AE

def cOper (P : Program) (N : Nat) (o : Oper) : Option AOper :=
  match cOp P o.op with
  | some op => bif (match o.dst with | some d => Nat.ble (Nat.succ d) N | none => true) then some { dst := o.dst, op := op, guard := o.guard } else none
  | none => none

def cOpers (P : Program) (N : Nat) : List Oper → Option (List AOper)
  | [] => some []
  | o :: os => match cOper P N o, cOpers P N os with
    | some x, some xs => some (x :: xs)
    | _, _ => none

theorem cOper_some {P : Program} {N : Nat} {o : Oper} {x : AOper} (h : cOper P N o = some x) : cOp P o.op = some x.op ∧ x.dst = o.dst ∧ x.guard = o.guard ∧ ∀ d, o.dst = some d → d < N := by
  unfold cOper at h
  split at h
  · rename_i op hop
    cases hd : o.dst with
    | none => simp only [hd, cond_true, Option.some.injEq] at h; subst h; exact ⟨hop, rfl, rfl, fun _ h => by cases h⟩
    | some d =>
      simp only [hd, natble] at h
      by_cases hlt : d + 1 ≤ N
      · simp only [Nat.succ_eq_add_one, hlt, decide_true, cond_true, Option.some.injEq] at h
        subst h
        exact ⟨hop, rfl, rfl, fun e he => by have := Option.some.inj he; subst this; exact hlt⟩
      · simp [hlt] at h
  · cases h

theorem cOpers_get {P : Program} {N : Nat} : ∀ {os : List Oper} {xs : List AOper}, cOpers P N os = some xs → os.length = xs.length ∧ ∀ (i : Nat) (o : Oper), os[i]? = some o → ∃ x, xs[i]? = some x ∧ cOper P N o = some x
  | [], xs, h => by simp only [cOpers, Option.some.injEq] at h; subst h; exact ⟨rfl, fun i o h => by simp at h⟩
  | o :: os, xs, h => by
    simp only [cOpers] at h
    split at h
    · rename_i x ys h1 h2
      cases h
      obtain ⟨h3, h4⟩ := cOpers_get h2
      refine ⟨by simp [h3], fun i u hu => ?_⟩
      cases i with
      | zero => simp at hu; subst hu; exact ⟨x, rfl, h1⟩
      | succ i => exact h4 i u (by simpa using hu)
    · cases h

/-- a frame, and the model's: of so many slots, with nothing deferred -/
structure ARel (r : Ren) (N : Nat) (a : Frm) (a' : Act) : Prop where
  rel : FRel r a a'
  size : N ≤ a'.tmps.size
  defers : a'.defers = []

theorem ARel.mono {r r' : Ren} (h : r.le r') {N : Nat} {a : Frm} {a' : Act} (k : ARel r N a a') : ARel r' N a a' := ⟨k.rel.mono h, k.size, k.defers⟩

theorem ARel.put {r : Ren} {N : Nat} {a : Frm} {a' : Act} (h : ARel r N a a') {v : AV} {v' : Value} (hv : AE.rel r v v') {dst : Option Nat} (hd : ∀ d, dst = some d → d < N) : ARel r N (AE.put a dst v) (a'.put dst v') where
  rel := h.rel.put hv fun d e => Nat.lt_of_lt_of_le (hd d e) h.size
  size := by cases dst <;> simp [Act.put, h.size]
  defers := by cases dst <;> simp [Act.put, h.defers]

section
variable {B : Nat} {r : Ren} {H : Heap} {w : World} {P : Program} {a : Frm} {a' : Act} {N : Nat}

theorem rel_bool {x : AV} {v : Value} {b : Bool} (h : rel r x v) (hv : v = .bool b) : x = .bool b := by
  subst hv
  cases x with
  | ptr p => cases p <;> simp [rel] at h
  | slice p l c => cases p <;> simp [rel] at h
  | map p => cases p <;> simp [rel] at h
  | bool c => simp only [rel, Value.bool.injEq] at h; rw [h]
  | _ => simp [rel] at h

/-- the guard -/
theorem wanted_eq {ops : List Oper} {xs : List AOper} (hops : cOpers P N ops = some xs) {arr : Array Oper} (harr : arr.toList = ops) (hF : FRel r a a') {o : Oper} :
    Region.wanted o (yielded arr a'.tmps) = wantedA xs a o.guard := by
  unfold Region.wanted wantedA
  cases hg : o.guard with
  | none => rfl
  | some gw =>
    obtain ⟨j, want⟩ := gw
    simp only
    obtain ⟨hlen, hget⟩ := cOpers_get hops
    unfold yielded dstOf
    have hj : arr[j]? = ops[j]? := by rw [← harr]; simp
    rw [hj]
    cases ho : ops[j]? with
    | none =>
      have : xs[j]? = none := by
        rw [List.getElem?_eq_none_iff] at ho ⊢; omega
      rw [this]
      simp
    | some u =>
      obtain ⟨x, hx, hc⟩ := hget j u ho
      obtain ⟨_, h2, _, _⟩ := cOper_some hc
      rw [hx]
      simp only [Option.bind_some, h2]
      cases hd : u.dst with
      | none => simp
      | some d =>
        simp only [Option.bind_some]
        have hr := hF d
        rw [show a'.tmps.getD d undef = (a'.tmps[d]?).getD undef by simp] at hr
        cases ht : a'.tmps[d]? with
        | none =>
          rw [ht] at hr
          simp only [Option.getD_none] at hr
          cases hq : a.get d with
          | none => simp
          | some y =>
            rw [hq] at hr
            cases y with
            | bool b => simp [rel, undef] at hr
            | _ => simp
        | some v =>
          rw [ht] at hr
          simp only [Option.getD_some] at hr
          cases v with
          | bool b =>
            have := rel_bool hr rfl
            cases hq : a.get d with
            | none => rw [hq] at this; simp [aundef] at this
            | some y =>
              rw [hq] at this
              simp only [Option.getD_some] at this
              subst this
              simp
          | _ =>
            cases hq : a.get d with
            | none => simp
            | some y =>
              rw [hq] at hr
              simp only [Option.getD_some] at hr
              cases y with
              | bool b => simp [rel] at hr
              | _ => simp

/-- a step, whatever it is -/
theorem step_ok {ms : Methods} (hms : MethodsOk P ms) {call : CallF} (hcall : CallOk P call) (o : Oper) {op : AOp} {v : AV} {H' : Heap} (hc : cOp P o.op = some op) (hS : Sim B r H w) (hF : FRel r a a')
    (h : stepOp ms call op a H = some (v, H')) : OpOk B P r H w a' o v H' := by
  unfold stepOp at h
  split at h
  · rename_i hk
    split at h
    · rename_i v0 hv
      cases h
      obtain ⟨v', h1, h2⟩ := rd_sound o hc hk hS hF hv
      exact OpOk.of_value (Nat.le_refl _) h1 hS (Step.refl _ _ _ _) h2
    · cases h
  · rename_i hk
    split at h
    · rename_i x f hx
      cases h
      obtain ⟨obj, n, v', d, h1, h2⟩ := al_sound (r := r) (w := w) o hc hk hF hx
      obtain ⟨f1, f2⟩ := hS.fresh
      have hA := hS.alloc f1 f2 (H' := H.push x) (by simp [Heap.push]) (by simp [Heap.push]) (by intro b hb; simp only [Heap.push]; rw [T.get_set, if_neg (fun h => hb h.symm)]) (x := x) (by simp [Heap.push, T.get_set])
        (obj := obj) (n := n) d (fun r' hle hm hsz => (h2 r' H.next hle hm hsz).1)
      exact OpOk.of_value (by simp [Heap.push]) h1 hA (Step.alloc f1 (Nat.le_refl _) _ _ _) (h2 _ H.next (Ren.add_le f1) (by simp [Ren.add]) (by simp [Ren.add])).2
    · cases h
  · rename_i hk
    exact op_sound hms hcall o hc hS hF hk h

theorem runOps_sound {ms : Methods} (hms : MethodsOk P ms) {call : CallF} (hcall : CallOk P call) {arr : Array Oper} {xs : List AOper} (hops : cOpers P N arr.toList = some xs) {Q : Exit → Act → World → Prop} :
    ∀ (k i : Nat), i + k = xs.length → ∀ (r : Ren) (H : Heap) (w : World) (a : Frm) (a' : Act) (a2 : Frm) (H2 : Heap), runOps ms call xs (xs.drop i) a H = some (a2, H2) → Sim B r H w → ARel r N a a' →
      (∀ r' a2' w', Sim B r' H2 w' → Step B H.next r w r' w' → H.next ≤ H2.next → ARel r' N a2 a2' → Q .normal a2' w') → wpOps P arr Q (List.range' i k) a' w := by
  obtain ⟨hlen, hget⟩ := cOpers_get hops
  intro k
  induction k with
  | zero =>
    intro i hi r H w a a' a2 H2 h hS hA hQ
    rw [List.drop_eq_nil_of_le (by omega)] at h
    simp only [runOps, Option.some.injEq, Prod.mk.injEq] at h
    obtain ⟨rfl, rfl⟩ := h
    exact hQ r a' w hS (Step.refl _ _ _ _) (Nat.le_refl _) hA
  | succ k ih =>
    intro i hi r H w a a' a2 H2 h hS hA hQ
    have hlt : i < arr.toList.length := by omega
    obtain ⟨x, hx, hc⟩ := hget i arr.toList[i] (by simp)
    obtain ⟨c1, c2, c3, c4⟩ := cOper_some hc
    have hxd : xs.drop i = x :: xs.drop (i + 1) := by
      obtain ⟨hl, he⟩ := List.getElem?_eq_some_iff.1 hx
      rw [List.drop_eq_getElem_cons hl, he]
    rw [hxd] at h
    simp only [runOps] at h
    have ho : arr[i]? = some arr.toList[i] := by simp
    rw [List.range'_succ]
    simp only [wpOps, ho]
    have hw := wanted_eq (o := arr.toList[i]) hops rfl hA.rel
    rw [hw, ← c3]
    cases hwa : wantedA xs a x.guard with
    | false =>
      rw [hwa] at h
      simp only [cond_false] at h
      simp only [Bool.false_eq_true, if_false]
      rw [c2] at h
      exact ih (i + 1) (by omega) r H w _ _ a2 H2 h hS (hA.put rel_undef c4) hQ
    | true =>
      rw [hwa] at h
      simp only [cond_true] at h
      simp only [if_true]
      split at h
      · rename_i v H' hst
        refine .inl ?_
        obtain ⟨hn, hok⟩ := step_ok hms hcall arr.toList[i] c1 hS hA.rel hst
        refine hok _ Q fun r' w' v' g1 g2 g3 => ?_
        rw [c2] at h
        refine ih (i + 1) (by omega) r' H' w' _ _ a2 H2 h g1 ((hA.mono g2.le).put g3 c4) fun r'' a2' w'' k1 k2 k3 k4 => ?_
        exact hQ r'' a2' w'' k1 (g2.trans (k2.weaken hn)) (Nat.le_trans hn k3) k4
      · cases h

end
end Go.AE
end
-- Statements that draw their order: what an operation looks at.
section
namespace Go.AE

theorem evalX_congr {a b : Frm} {x : AX} (h : ∀ t ∈ x.tmps, a.get t = b.get t) : evalX a x = evalX b x := by
  cases x with
  | tmp t => simp only [evalX]; rw [h t (by simp [AX.tmps])]
  | const v => rfl

theorem map_congr {a b : Frm} {l : List AX} (h : ∀ t ∈ l.flatMap AX.tmps, a.get t = b.get t) : l.map (evalX a) = l.map (evalX b) :=
  List.map_congr_left fun x hx => evalX_congr fun t ht => h t (List.mem_flatMap.2 ⟨x, hx, ht⟩)

theorem parts_congr {a b : Frm} {l : List (Nat × Nat × AX)} (h : ∀ t ∈ l.flatMap (fun p => p.2.2.tmps), a.get t = b.get t) :
    (l.map fun (o, n, x) => (o, n, evalX a x)) = l.map fun (o, n, x) => (o, n, evalX b x) :=
  List.map_congr_left fun p hp => by
    obtain ⟨o, n, x⟩ := p
    simp only
    rw [evalX_congr fun t ht => h t (List.mem_flatMap.2 ⟨(o, n, x), hp, ht⟩)]

theorem bound_congr {a b : Frm} {x : AX} {m : Nat} (h : ∀ t ∈ x.tmps, a.get t = b.get t) : bound a x m = bound b x m := by
  unfold bound; rw [evalX_congr h]

theorem bounds_congr {a b : Frm} {len cap : Nat} {lo hi mx : Option AX} (h1 : ∀ t ∈ optTmps lo, a.get t = b.get t) (h2 : ∀ t ∈ optTmps hi, a.get t = b.get t) (h3 : ∀ t ∈ optTmps mx, a.get t = b.get t) :
    bounds a len cap lo hi mx = bounds b len cap lo hi mx := by
  have e : ∀ (x : Option AX), (∀ t ∈ optTmps x, a.get t = b.get t) → ∀ m y, x = some y → bound a y m = bound b y m := fun x hx m y hy => by
    subst hy; exact bound_congr hx
  unfold bounds
  cases mx with
  | none =>
    cases hi with
    | none => cases lo with
      | none => rfl
      | some l => simp only [e _ h1 _ l rfl]
    | some hh => cases lo with
      | none => simp only [e _ h2 _ hh rfl]
      | some l => simp only [e _ h2 _ hh rfl, e _ h1 _ l rfl]
  | some m =>
    cases hi with
    | none => simp only [e _ h3 _ m rfl]
    | some hh => cases lo with
      | none => simp only [e _ h3 _ m rfl, e _ h2 _ hh rfl]
      | some l => simp only [e _ h3 _ m rfl, e _ h2 _ hh rfl, e _ h1 _ l rfl]

section
variable {a b : Frm} {H : Heap}

theorem rd_congr {op : AOp} (h : ∀ t ∈ op.opnds, a.get t = b.get t) : rd op a H = rd op b H := by
  cases op with
  | mov x => simp only [rd]; rw [evalX_congr (a := a) (b := b) (x := x) h]
  | pick c x y =>
    simp only [AOp.opnds, List.mem_append] at h
    simp only [rd]
    rw [evalX_congr (a := a) (b := b) (x := c) fun t ht => h t (.inl ht), evalX_congr (a := a) (b := b) (x := x) fun t ht => h t (.inr (.inl ht)), evalX_congr (a := a) (b := b) (x := y) fun t ht => h t (.inr (.inr ht))]
  | build z ps => simp only [rd]; rw [parts_congr (a := a) (b := b) h]
  | load1 x => simp only [rd]; rw [evalX_congr (a := a) (b := b) (x := x) h]
  | loadN n x => simp only [rd]; rw [evalX_congr (a := a) (b := b) (x := x) h]
  | nilCheck x => simp only [rd]; rw [evalX_congr (a := a) (b := b) (x := x) h]
  | ibin o x y =>
    simp only [AOp.opnds, List.mem_append] at h
    simp only [rd]
    rw [evalX_congr (a := a) (b := b) (x := x) fun t ht => h t (.inl ht), evalX_congr (a := a) (b := b) (x := y) fun t ht => h t (.inr ht)]
  | sbin o x y =>
    simp only [AOp.opnds, List.mem_append] at h
    simp only [rd]
    rw [evalX_congr (a := a) (b := b) (x := x) fun t ht => h t (.inl ht), evalX_congr (a := a) (b := b) (x := y) fun t ht => h t (.inr ht)]
  | eqv n k x y =>
    simp only [AOp.opnds, List.mem_append] at h
    simp only [rd]
    rw [evalX_congr (a := a) (b := b) (x := x) fun t ht => h t (.inl ht), evalX_congr (a := a) (b := b) (x := y) fun t ht => h t (.inr ht)]
  | un o x => simp only [rd]; rw [evalX_congr (a := a) (b := b) (x := x) h]
  | convInt k x => simp only [rd]; rw [evalX_congr (a := a) (b := b) (x := x) h]
  | strToStr x => simp only [rd]; rw [evalX_congr (a := a) (b := b) (x := x) h]
  | bytesToStr x => simp only [rd]; rw [evalX_congr (a := a) (b := b) (x := x) h]
  | arrPtr n x => simp only [rd]; rw [evalX_congr (a := a) (b := b) (x := x) h]
  | mkIface t x => simp only [rd]; rw [evalX_congr (a := a) (b := b) (x := x) h]
  | mkFunc fn f c =>
    simp only [AOp.opnds, List.mem_append] at h
    simp only [rd]
    rw [map_congr (a := a) (b := b) (l := f) fun t ht => h t (.inl ht), map_congr (a := a) (b := b) (l := c) fun t ht => h t (.inr ht)]
  | sliceStr x l hh =>
    simp only [AOp.opnds, List.mem_append] at h
    simp only [rd]
    rw [evalX_congr (a := a) (b := b) (x := x) fun t ht => h t (.inl ht)]
    have e : ∀ n m, bounds a n m l hh none = bounds b n m l hh none := fun n m => bounds_congr (fun t ht => h t (.inr (.inl ht))) (fun t ht => h t (.inr (.inr ht))) (fun t ht => by simp [optTmps] at ht)
    simp only [e]
  | sliceSl s x l hh m =>
    simp only [AOp.opnds, List.mem_append] at h
    simp only [rd]
    rw [evalX_congr (a := a) (b := b) (x := x) fun t ht => h t (.inl ht)]
    have e : ∀ n k, bounds a n k l hh m = bounds b n k l hh m := fun n k => bounds_congr (fun t ht => h t (.inr (.inl ht))) (fun t ht => h t (.inr (.inr (.inl ht)))) (fun t ht => h t (.inr (.inr (.inr ht))))
    simp only [e]
  | sliceArr n s x l hh m =>
    simp only [AOp.opnds, List.mem_append] at h
    simp only [rd]
    rw [evalX_congr (a := a) (b := b) (x := x) fun t ht => h t (.inl ht)]
    have e : ∀ n k, bounds a n k l hh m = bounds b n k l hh m := fun n k => bounds_congr (fun t ht => h t (.inr (.inl ht))) (fun t ht => h t (.inr (.inr (.inl ht)))) (fun t ht => h t (.inr (.inr (.inr ht))))
    simp only [e]
  | fieldAddr o x => simp only [rd]; rw [evalX_congr (a := a) (b := b) (x := x) h]
  | part o x => simp only [rd]; rw [evalX_congr (a := a) (b := b) (x := x) h]
  | partN o n x => simp only [rd]; rw [evalX_congr (a := a) (b := b) (x := x) h]
  | indexArr n s x i =>
    simp only [AOp.opnds, List.mem_append] at h
    simp only [rd]
    rw [evalX_congr (a := a) (b := b) (x := x) fun t ht => h t (.inl ht), evalX_congr (a := a) (b := b) (x := i) fun t ht => h t (.inr ht)]
  | indexSl s x i =>
    simp only [AOp.opnds, List.mem_append] at h
    simp only [rd]
    rw [evalX_congr (a := a) (b := b) (x := x) fun t ht => h t (.inl ht), evalX_congr (a := a) (b := b) (x := i) fun t ht => h t (.inr ht)]
  | indexVal n s x i =>
    simp only [AOp.opnds, List.mem_append] at h
    simp only [rd]
    rw [evalX_congr (a := a) (b := b) (x := x) fun t ht => h t (.inl ht), evalX_congr (a := a) (b := b) (x := i) fun t ht => h t (.inr ht)]
  | indexValN n s x i =>
    simp only [AOp.opnds, List.mem_append] at h
    simp only [rd]
    rw [evalX_congr (a := a) (b := b) (x := x) fun t ht => h t (.inl ht), evalX_congr (a := a) (b := b) (x := i) fun t ht => h t (.inr ht)]
  | indexStr x i =>
    simp only [AOp.opnds, List.mem_append] at h
    simp only [rd]
    rw [evalX_congr (a := a) (b := b) (x := x) fun t ht => h t (.inl ht), evalX_congr (a := a) (b := b) (x := i) fun t ht => h t (.inr ht)]
  | lookup kk z ok x i =>
    simp only [AOp.opnds, List.mem_append] at h
    simp only [rd]
    rw [evalX_congr (a := a) (b := b) (x := x) fun t ht => h t (.inl ht), evalX_congr (a := a) (b := b) (x := i) fun t ht => h t (.inr ht)]
  | assert t z ok x => simp only [rd]; rw [evalX_congr (a := a) (b := b) (x := x) h]
  | extract i x => simp only [rd]; rw [evalX_congr (a := a) (b := b) (x := x) h]
  | lenStr x => simp only [rd]; rw [evalX_congr (a := a) (b := b) (x := x) h]
  | lenSl x => simp only [rd]; rw [evalX_congr (a := a) (b := b) (x := x) h]
  | lenMap x => simp only [rd]; rw [evalX_congr (a := a) (b := b) (x := x) h]
  | minI xs => simp only [rd]; rw [map_congr (a := a) (b := b) (l := xs) h]
  | maxI xs => simp only [rd]; rw [map_congr (a := a) (b := b) (l := xs) h]
  | _ => rfl

theorem al_congr {op : AOp} (h : ∀ t ∈ op.opnds, a.get t = b.get t) : al op a = al op b := by
  cases op with
  | box e x => simp only [al]; rw [evalX_congr (a := a) (b := b) (x := x) h]
  | buildSlice e z n ps => simp only [al]; rw [parts_congr (a := a) (b := b) h]
  | strToBytes e x => simp only [al]; rw [evalX_congr (a := a) (b := b) (x := x) h]
  | makeSlice e n z x y =>
    simp only [AOp.opnds, List.mem_append] at h
    simp only [al]
    rw [evalX_congr (a := a) (b := b) (x := x) fun t ht => h t (.inl ht), evalX_congr (a := a) (b := b) (x := y) fun t ht => h t (.inr ht)]
  | makeMap hh =>
    cases hh with
    | none => rfl
    | some x => simp only [al]; rw [evalX_congr (a := a) (b := b) (x := x) h]
  | _ => rfl

theorem wr_congr {ms : Methods} {call : CallF} {op : AOp} (h : ∀ t ∈ op.opnds, a.get t = b.get t) : wr ms call op a H = wr ms call op b H := by
  cases op with
  | store n x y =>
    simp only [AOp.opnds, List.mem_append] at h
    simp only [wr]
    rw [evalX_congr (a := a) (b := b) (x := x) fun t ht => h t (.inl ht), evalX_congr (a := a) (b := b) (x := y) fun t ht => h t (.inr ht)]
  | append e s n x y =>
    simp only [AOp.opnds, List.mem_append] at h
    simp only [wr]
    rw [evalX_congr (a := a) (b := b) (x := x) fun t ht => h t (.inl ht), evalX_congr (a := a) (b := b) (x := y) fun t ht => h t (.inr ht)]
  | copy n x y =>
    simp only [AOp.opnds, List.mem_append] at h
    simp only [wr]
    rw [evalX_congr (a := a) (b := b) (x := x) fun t ht => h t (.inl ht), evalX_congr (a := a) (b := b) (x := y) fun t ht => h t (.inr ht)]
  | mapUpdate kk x y z =>
    simp only [AOp.opnds, List.mem_append] at h
    simp only [wr]
    rw [evalX_congr (a := a) (b := b) (x := x) fun t ht => h t (.inl ht), evalX_congr (a := a) (b := b) (x := y) fun t ht => h t (.inr (.inl ht)), evalX_congr (a := a) (b := b) (x := z) fun t ht => h t (.inr (.inr ht))]
  | delete kk x y =>
    simp only [AOp.opnds, List.mem_append] at h
    simp only [wr]
    rw [evalX_congr (a := a) (b := b) (x := x) fun t ht => h t (.inl ht), evalX_congr (a := a) (b := b) (x := y) fun t ht => h t (.inr ht)]
  | call f axs =>
    simp only [AOp.opnds, List.mem_append] at h
    simp only [wr]
    rw [evalX_congr (a := a) (b := b) (x := f) fun t ht => h t (.inl ht), map_congr (a := a) (b := b) (l := axs) fun t ht => h t (.inr ht)]
  | callM rc n axs =>
    simp only [AOp.opnds, List.mem_append] at h
    simp only [wr]
    rw [evalX_congr (a := a) (b := b) (x := rc) fun t ht => h t (.inl ht), map_congr (a := a) (b := b) (l := axs) fun t ht => h t (.inr ht)]
  | _ => rfl

theorem rd_blind {op : AOp} (h : looks op = false) (H' : Heap) : rd op a H = rd op a H' := by
  cases op <;> first | rfl | cases h

theorem wanted_congr {xs : List AOper} {g : Option (Nat × Bool)} (h : ∀ t ∈ guardTmps xs g, a.get t = b.get t) : wantedA xs a g = wantedA xs b g := by
  unfold wantedA
  cases g with
  | none => rfl
  | some jw =>
    obtain ⟨j, want⟩ := jw
    simp only [guardTmps] at h
    simp only
    cases hd : dstOf xs j with
    | none => rfl
    | some d => rw [hd] at h; simp only; rw [h d (by simp)]
end

/-! equality that is reckoned -/

mutual
theorem beq_eq : ∀ (x y : AV), AV.beq x y = true → x = y
  | .bool a, y, h => by cases y <;> simp [AV.beq] at h; rw [h]
  | .int k n, y, h => by
    cases y <;> simp [AV.beq] at h
    rw [kindEq_iff.1 h.1]; rw [ieq_eq] at h; have := eq_of_beq h.2; rw [this]
  | .str s, y, h => by
    cases y <;> simp [AV.beq] at h
    rw [beqBytes_eq] at h; rw [eq_of_beq h]
  | .ptr none, y, h => by
    cases y with
    | ptr p => cases p with
      | none => rfl
      | some p => simp [AV.beq] at h
    | _ => simp [AV.beq] at h
  | .ptr (some (a, b)), y, h => by
    cases y with
    | ptr p => cases p with
      | none => simp [AV.beq] at h
      | some p => obtain ⟨c, d⟩ := p; simp [AV.beq] at h; rw [h.1, h.2]
    | _ => simp [AV.beq] at h
  | .slice none l (.known n), y, h => by
    cases y with
    | slice p l' c => cases p with
      | none => cases c with
        | known m => simp [AV.beq] at h; rw [h.1, h.2]
        | unk m => simp [AV.beq] at h
      | some p => obtain ⟨c', d⟩ := p; cases c <;> simp [AV.beq] at h
    | _ => simp [AV.beq] at h
  | .slice none l (.unk n), y, h => by
    cases y with
    | slice p l' c => cases p with
      | none => cases c <;> simp [AV.beq] at h
      | some p => obtain ⟨c', d⟩ := p; cases c <;> simp [AV.beq] at h
    | _ => simp [AV.beq] at h
  | .slice (some (a, b)) l (.known n), y, h => by
    cases y with
    | slice p l' c => cases p with
      | none => cases c <;> simp [AV.beq] at h
      | some p => obtain ⟨c', d⟩ := p; cases c with
        | known m => simp [AV.beq] at h; rw [h.1.1, h.1.2, h.2.1, h.2.2]
        | unk m => simp [AV.beq] at h
    | _ => simp [AV.beq] at h
  | .slice (some (a, b)) l (.unk n), y, h => by
    cases y with
    | slice p l' c => cases p with
      | none => cases c <;> simp [AV.beq] at h
      | some p => obtain ⟨c', d⟩ := p; cases c with
        | unk m => simp [AV.beq] at h; rw [h.1.1, h.1.2, h.2.1, h.2.2]
        | known m => simp [AV.beq] at h
    | _ => simp [AV.beq] at h
  | .map none, y, h => by
    cases y with
    | map p => cases p with
      | none => rfl
      | some p => simp [AV.beq] at h
    | _ => simp [AV.beq] at h
  | .map (some a), y, h => by
    cases y with
    | map p => cases p with
      | none => simp [AV.beq] at h
      | some p => simp [AV.beq] at h; rw [h]
    | _ => simp [AV.beq] at h
  | .func (.func f) x z, y, h => by
    cases y with
    | func fn x' z' => cases fn with
      | func g => simp [AV.beq] at h; rw [h.1.1, beqs_eq x x' h.1.2, beqs_eq z z' h.2]
      | _ => simp [AV.beq] at h
    | _ => simp [AV.beq] at h
  | .func (.method n) x z, y, h => by cases y <;> simp [AV.beq] at h
  | .func (.methodOf t n) x z, y, h => by cases y <;> simp [AV.beq] at h
  | .func (.via t p f b) x z, y, h => by cases y <;> simp [AV.beq] at h
  | .func (.yield l) x z, y, h => by cases y <;> simp [AV.beq] at h
  | .nilFunc, y, h => by cases y <;> simp [AV.beq] at h <;> rfl
  | .iface t v, y, h => by
    cases y <;> simp [AV.beq] at h
    rw [h.1, beq_eq v _ h.2]
  | .nilIface, y, h => by cases y <;> simp [AV.beq] at h <;> rfl
  | .agg x, y, h => by
    cases y <;> simp [AV.beq] at h
    rw [beqs_eq x _ h]
  | .tuple x, y, h => by
    cases y <;> simp [AV.beq] at h
    rw [beqs_eq x _ h]
theorem beqs_eq : ∀ (x y : List AV), AV.beqs x y = true → x = y
  | [], y, h => by cases y <;> simp [AV.beqs] at h <;> rfl
  | a :: x, y, h => by
    cases y with
    | nil => simp [AV.beqs] at h
    | cons b y => simp [AV.beqs] at h; rw [beq_eq a b h.1, beqs_eq x y h.2]
end

theorem blkIs_eq {H : Heap} {i : Nat} {x : ABlk} (h : blkIs H i x = true) : H.t.get i = some x := by
  unfold blkIs at h
  split at h
  · rename_i cs e op ro
    split at h
    · rename_i cs' e' op' ro' hg
      simp only [Bool.and_eq_true, natbeq, decide_eq_true_eq, beq_iff_eq] at h
      obtain ⟨⟨⟨h1, h2⟩, h3⟩, h4⟩ := h
      rw [hg, beqs_eq _ _ h1, h2, h3, h4]
    · cases h
  · rename_i c
    split at h
    · rename_i c' hg; simp only [natbeq, decide_eq_true_eq] at h; rw [hg, h]
    · cases h
  · cases h

end Go.AE
end
-- Statements that draw their order: the check of the text, and what it gives.
section
namespace Go.AE

/-- the operations that an operation waits for, as the text has them -/
def edgesOf (o : Oper) : List Nat := (o.after.toList.filter (Region.binds .any)).map (·.on)

def kindAt (xs : List AOper) (i : Nat) : Kind := match xs[i]? with
  | some x => kindOf x.op
  | none => .rd

def looksAt (xs : List AOper) (i : Nat) : List Nat := match xs[i]? with
  | some x => looksOf xs x
  | none => []

/-- an order: none waits for one behind it; no two write one slot; what stands behind a writer and makes a block waits for that writer -/
def okOrd (d : ADraw) : Option Nat → List Nat → Bool
  | _, [] => true
  | last, i :: is =>
    (i :: is).all (fun j => !(Nat.testBit (get2 0 d.pre i) j)) &&
    (match dstOf d.ops i with | some t => is.all fun j => !(dstOf d.ops j == some t) | none => true) &&
    !(is.contains i) &&
    (match kindAt d.ops i, last with
      | .wr, some l => Nat.testBit (get2 0 d.pre i) l
      | .al, some l => Nat.testBit (get2 0 d.pre i) l
      | _, _ => true) &&
    okOrd d (match kindAt d.ops i with | .wr => some i | _ => last) is

/-- the writers, in order -/
def writers (d : ADraw) : List Nat := d.ord.filter fun i => kindAt d.ops i == .wr

/-- so many writers must have been done -/
def loOk (d : ADraw) (i : Nat) : Nat → Bool
  | 0 => true
  | l + 1 => match (writers d)[l]? with
    | some k => Nat.testBit (get2 0 d.pre i) k
    | none => false

/-- no more can have been done -/
def hiOk (d : ADraw) (i hh : Nat) : Bool :=
  match (writers d)[hh]? with
  | some k => Nat.testBit (get2 0 d.pre k) i
  | none => Nat.beq hh (writers d).length

/-- what an operation is said to wait for, it waits for -/
def okPre (es : List (List Nat)) (d : ADraw) (i : Nat) : Bool :=
  (get2 [] es i).all (fun e => Nat.ble (Nat.succ e) i) &&
  (List.range d.ops.length).all (fun j => !(Nat.testBit (get2 0 d.pre i) j) || (get2 [] es i).contains j || (get2 [] es i).any fun e => Nat.testBit (get2 0 d.pre e) j) &&
  Nat.ble (Nat.succ (get2 0 d.pre i)) (Nat.pow 2 d.ops.length) &&
  (looksAt d.ops i).all (fun t => (List.range d.ops.length).all fun j => !(dstOf d.ops j == some t) || Nat.testBit (get2 0 d.pre i) j || (d.war && (Nat.testBit (get2 0 d.pre j) i || Nat.beq i j))) &&
  (match kindAt d.ops i with
    | .wr => true
    | _ =>
      loOk d i (get2 (0, 0) d.lohi i).1 && hiOk d i (get2 (0, 0) d.lohi i).2)

def okDraw (es : List (List Nat)) (d : ADraw) : Bool :=
  Nat.beq es.length d.ops.length && Nat.beq d.ord.length d.ops.length && (List.range d.ops.length).all (fun i => d.ord.contains i) && d.ord.all (fun i => Nat.ble (Nat.succ i) d.ops.length) && okOrd d none d.ord && (List.range d.ops.length).all (okPre es d)

section
variable {es : List (List Nat)} {d : ADraw}

/-- a set of operations with all that each waits for -/
def Closed (es : List (List Nat)) (L : Nat → Prop) : Prop := ∀ i, L i → ∀ e ∈ get2 [] es i, L e

theorem okPre_sound (h : ∀ i, i < d.ops.length → okPre es d i = true) {L : Nat → Prop} (hL : Closed es L) (hlt : ∀ i, L i → i < d.ops.length) :
    ∀ i, i < d.ops.length → (∀ e ∈ get2 [] es i, L e) → ∀ j, Nat.testBit (get2 0 d.pre i) j = true → L j := by
  intro i
  induction i using Nat.strongRecOn with
  | _ i ih =>
    intro hi hes j hj
    have hp := h i hi
    simp only [okPre, Bool.and_eq_true] at hp
    obtain ⟨⟨⟨⟨p1, p2⟩, p3⟩, _⟩, _⟩ := hp
    have hjn : j < d.ops.length := by
      rcases Nat.lt_or_ge j d.ops.length with hlt | hge
      · exact hlt
      · exfalso
        rw [natble, decide_eq_true_eq] at p3
        have h1 : get2 0 d.pre i < 2 ^ d.ops.length := p3
        have h2 : get2 0 d.pre i < 2 ^ j := Nat.lt_of_lt_of_le h1 (Nat.pow_le_pow_right (by decide) hge)
        rw [Nat.testBit_lt_two_pow h2] at hj
        cases hj
    have hq := List.all_eq_true.1 p2 j (List.mem_range.2 hjn)
    simp only [hj, Bool.not_true, Bool.false_or, Bool.or_eq_true, List.contains_iff_mem, List.any_eq_true] at hq
    rcases hq with hq | ⟨e, he, hq⟩
    · exact hes j hq
    · have hlt' : e < i := by
        have := List.all_eq_true.1 p1 e he
        rw [natble, decide_eq_true_eq] at this
        exact this
      exact ih e hlt' (by omega) (hL e (hes e he)) j hq

theorem mem_testBit_of (hok : okDraw es d = true) : (∀ i, i < d.ops.length → okPre es d i = true) ∧ okOrd d none d.ord = true ∧ es.length = d.ops.length ∧ (∀ i, i < d.ops.length ↔ i ∈ d.ord) := by
  simp only [okDraw, Bool.and_eq_true, natbeq, decide_eq_true_eq] at hok
  obtain ⟨⟨⟨⟨⟨h1, h2⟩, h3⟩, h4⟩, h5⟩, h6⟩ := hok
  refine ⟨fun i hi => List.all_eq_true.1 h6 i (List.mem_range.2 hi), h5, h1, fun i => ⟨fun hi => ?_, fun hi => ?_⟩⟩
  · have := List.all_eq_true.1 h3 i (List.mem_range.2 hi)
    simpa using this
  · have := List.all_eq_true.1 h4 i hi
    rw [natble, decide_eq_true_eq] at this
    exact this

/-! the run along the order -/

theorem okOrd_tail {last : Option Nat} {i : Nat} {is : List Nat} (h : okOrd d last (i :: is) = true) : okOrd d (match kindAt d.ops i with | .wr => some i | _ => last) is = true := by
  simp only [okOrd, Bool.and_eq_true] at h
  exact h.2

theorem okOrd_pre {last : Option Nat} {i : Nat} {is : List Nat} (h : okOrd d last (i :: is) = true) : ∀ j ∈ i :: is, Nat.testBit (get2 0 d.pre i) j = false := by
  simp only [okOrd, Bool.and_eq_true] at h
  intro j hj
  have h1 := List.all_eq_true.1 h.1.1.1.1 j hj
  simpa using h1

theorem okOrd_dst {last : Option Nat} {i : Nat} {is : List Nat} (h : okOrd d last (i :: is) = true) {t : Nat} (ht : dstOf d.ops i = some t) : ∀ j ∈ is, dstOf d.ops j ≠ some t := by
  simp only [okOrd, Bool.and_eq_true] at h
  intro j hj e
  have h1 := h.1.1.1.2
  rw [ht] at h1
  have h2 := List.all_eq_true.1 h1 j hj
  rw [e] at h2
  simp at h2

theorem okOrd_nodup {last : Option Nat} {i : Nat} {is : List Nat} (h : okOrd d last (i :: is) = true) : i ∉ is := by
  simp only [okOrd, Bool.and_eq_true] at h
  have h1 := h.1.1.2
  simpa using h1

theorem okOrd_last {l i : Nat} {is : List Nat} (h : okOrd d (some l) (i :: is) = true) (hk : kindAt d.ops i = .wr ∨ kindAt d.ops i = .al) : Nat.testBit (get2 0 d.pre i) l = true := by
  simp only [okOrd, Bool.and_eq_true] at h
  have h1 := h.1.2
  rcases hk with hk | hk <;> rw [hk] at h1 <;> exact h1

/-- of one operation, along the order: the frame and the heap at which it is done, and what it comes to -/
structure Done (ms : Methods) (call : CallF) (d : ADraw) (base : Nat) (a0 afin : Frm) (hs : List Heap) (i : Nat) (x : AOper) (a : Frm) (H : Heap) (k : Nat) : Prop where
  get : d.ops[i]? = some x
  looks : ∀ t, (∀ j, dstOf d.ops j = some t → Nat.testBit (get2 0 d.pre i) j = true) → a.get t = afin.get t
  looks0 : ∀ t j, dstOf d.ops j = some t → j ∈ d.ord → (Nat.testBit (get2 0 d.pre j) i = true ∨ i = j) → a.get t = a0.get t
  unwanted : wantedA d.ops a x.guard = false → ∀ t, x.dst = some t → afin.get t = some aundef
  rd : wantedA d.ops a x.guard = true → kindOf x.op = .rd → ∃ v, AE.rd x.op a H = some v ∧ ∀ t, x.dst = some t → afin.get t = some v
  al : wantedA d.ops a x.guard = true → kindOf x.op = .al → ∃ b f, AE.al x.op a = some (b, f) ∧ ∀ t, x.dst = some t → afin.get t = some (f (base + i))
  wr : kindOf x.op = .wr → hs.reverse[k]? = some H ∧ ∃ (v : AV) (H' H2 : Heap), (wantedA d.ops a x.guard = true → AE.wr ms call x.op a H = some (v, H')) ∧ (wantedA d.ops a x.guard = false → H' = H) ∧
    (wantedA d.ops a x.guard = true → ∀ t, x.dst = some t → afin.get t = some v) ∧
    hs.reverse[k + 1]? = some H2 ∧ H2.next = H'.next ∧ ∀ b, (∀ j, kindAt d.ops j = .al → (Nat.testBit (get2 0 d.pre j) i = true) → b ≠ base + j) → H2.t.get b = H'.t.get b

theorem runOrd_keep {ms : Methods} {call : CallF} {base : Nat} : ∀ (is : List Nat) (last : Option Nat) (a : Frm) (H : Heap) (hs : List Heap) (afin : Frm) (hs' : List Heap), runOrd ms call d.ops base is a H hs = some (afin, hs') →
    okOrd d last is = true →
    (∃ q, hs' = q ++ hs ∧ 0 < q.length) ∧ (∀ t, (∀ j ∈ is, dstOf d.ops j ≠ some t) → afin.get t = a.get t) ∧
    (∃ H2, hs'.reverse[hs.length]? = some H2 ∧ H2.next = H.next ∧ ∀ b, (∀ j ∈ is, kindAt d.ops j = .al → (∀ l, last = some l → Nat.testBit (get2 0 d.pre j) l = true) → b ≠ base + j) → H2.t.get b = H.t.get b) := by
  intro is
  induction is with
  | nil =>
    intro last a H hs afin hs' h _
    simp only [runOrd, Option.some.injEq, Prod.mk.injEq] at h
    obtain ⟨rfl, rfl⟩ := h
    refine ⟨⟨[H], rfl, by simp⟩, fun _ _ => rfl, H, by simp, rfl, fun _ _ => rfl⟩
  | cons i is ih =>
    intro last a H hs afin hs' h hok
    have htail := okOrd_tail hok
    simp only [runOrd] at h
    split at h
    · cases h
    · rename_i x hx
      have hk : kindAt d.ops i = kindOf x.op := by simp [kindAt, hx]
      have hd : dstOf d.ops i = x.dst := by simp [dstOf, hx]
      have keep : ∀ (v : AV) (H1 : Heap) (hs1 : List Heap), runOrd ms call d.ops base is (put a x.dst v) H1 hs1 = some (afin, hs') → ∀ t, (∀ j ∈ i :: is, dstOf d.ops j ≠ some t) → afin.get t = a.get t := by
        intro v H1 hs1 hr t ht
        rw [(ih _ _ _ _ _ _ hr htail).2.1 t fun j hj => ht j (by simp [hj])]
        cases hdx : x.dst with
        | none => rfl
        | some e =>
          have : e ≠ t := fun h => ht i (by simp) (by rw [hd, hdx, h])
          simp [put, T.get_set, this]
      split at h
      · rename_i hkk
        rw [hk, hkk] at htail
        have hdo : ∃ v, runOrd ms call d.ops base is (put a x.dst v) H hs = some (afin, hs') := by
          cases hw : wantedA d.ops a x.guard with
          | true => rw [hw] at h; simp only [cond_true] at h; split at h
                    · exact ⟨_, h⟩
                    · cases h
          | false => rw [hw] at h; exact ⟨_, h⟩
        obtain ⟨v, hr⟩ := hdo
        obtain ⟨g1, _, H2, g3, g4, g5⟩ := ih last _ _ _ _ _ hr htail
        exact ⟨g1, keep _ _ _ hr, H2, g3, g4, fun b hb => g5 b fun j hj => hb j (by simp [hj])⟩
      · rename_i hkk
        rw [hk, hkk] at htail
        cases hw : wantedA d.ops a x.guard with
        | true =>
          rw [hw] at h; simp only [cond_true] at h
          split at h
          · rename_i b0 f hal
            obtain ⟨g1, _, H2, g3, g4, g5⟩ := ih last _ _ _ _ _ h htail
            refine ⟨g1, keep _ _ _ h, H2, g3, g4, fun b hb => ?_⟩
            rw [g5 b fun j hj => hb j (by simp [hj])]
            have : b ≠ base + i := hb i (by simp) (by rw [hk, hkk]) (fun l hl => by
              subst hl
              exact okOrd_last hok (.inr (by rw [hk, hkk])))
            rw [T.get_set, if_neg fun h => this h.symm]
          · cases h
        | false =>
          rw [hw] at h
          obtain ⟨g1, _, H2, g3, g4, g5⟩ := ih last _ _ _ _ _ h htail
          exact ⟨g1, keep _ _ _ h, H2, g3, g4, fun b hb => g5 b fun j hj => hb j (by simp [hj])⟩
      · rename_i hkk
        rw [hk, hkk] at htail
        have hdo : ∃ v H1, runOrd ms call d.ops base is (put a x.dst v) H1 (H :: hs) = some (afin, hs') := by
          cases hw : wantedA d.ops a x.guard with
          | true => rw [hw] at h; simp only [cond_true] at h; split at h
                    · exact ⟨_, _, h⟩
                    · cases h
          | false => rw [hw] at h; exact ⟨_, _, h⟩
        obtain ⟨v, H1, hr⟩ := hdo
        obtain ⟨⟨q, g1, g2⟩, _, _⟩ := ih (some i) _ _ _ _ _ hr htail
        refine ⟨⟨q ++ [H], by rw [g1]; simp, by simp⟩, keep _ _ _ hr, H, ?_, rfl, fun _ _ => rfl⟩
        rw [g1, List.reverse_append, List.getElem?_append_left (by simp)]
        simp

/-- what is known of each operation along the order -/
theorem runOrd_done {ms : Methods} {call : CallF} {base : Nat} {a0 : Frm} : ∀ (is : List Nat) (last : Option Nat) (a : Frm) (H : Heap) (hs : List Heap) (afin : Frm) (hs' : List Heap), runOrd ms call d.ops base is a H hs = some (afin, hs') →
    okOrd d last is = true → (∀ t j, j ∈ is → dstOf d.ops j = some t → a.get t = a0.get t) → (∀ j, j ∈ d.ord → j ∉ is → ∀ k ∈ is, Nat.testBit (get2 0 d.pre j) k = false) → ∀ i ∈ is, ∃ x a1 H1 k, Done ms call d base a0 afin hs' i x a1 H1 k ∧
      (kindAt d.ops i = .wr → ∃ l, k = hs.length + l ∧ (is.filter fun i => kindAt d.ops i == .wr)[l]? = some i) := by
  intro is
  induction is with
  | nil => intro _ _ _ _ _ _ _ _ _ _ i hi; simp at hi
  | cons i is ih =>
    intro last a H hs afin hs' h hok hfresh hpast m hm
    have htail := okOrd_tail hok
    have h0 := h
    simp only [runOrd] at h
    split at h
    · cases h
    · rename_i x hx
      have hk : kindAt d.ops i = kindOf x.op := by simp [kindAt, hx]
      have hd : dstOf d.ops i = x.dst := by simp [dstOf, hx]
      have hlooks : ∀ t, (∀ j, dstOf d.ops j = some t → Nat.testBit (get2 0 d.pre i) j = true) → a.get t = afin.get t := fun t ht => by
        rw [(runOrd_keep (i :: is) last a H hs afin hs' h0 hok).2.1 t fun j hj e => by
          have h1 := ht j e
          rw [okOrd_pre hok j hj] at h1; cases h1]
      have hlooks0 : ∀ t j, dstOf d.ops j = some t → j ∈ d.ord → (Nat.testBit (get2 0 d.pre j) i = true ∨ i = j) → a.get t = a0.get t := fun t j hj hjo hb => by
        refine hfresh t j (Classical.byContradiction fun hno => ?_) hj
        rcases hb with hb | rfl
        · rw [hpast j hjo hno i (by simp)] at hb; cases hb
        · exact hno (by simp)
      have hfresh' : ∀ v : AV, ∀ t j, j ∈ is → dstOf d.ops j = some t → (put a x.dst v).get t = a0.get t := fun v t j hj hjt => by
        rw [← hfresh t j (by simp [hj]) hjt]
        cases hdx : x.dst with
        | none => rfl
        | some e =>
          have : e ≠ t := fun h => by subst h; exact okOrd_dst hok (by rw [hd, hdx]) j hj hjt
          simp [put, T.get_set, this]
      have hpast' : ∀ j, j ∈ d.ord → j ∉ is → ∀ k ∈ is, Nat.testBit (get2 0 d.pre j) k = false := fun j hj hno k hk' => by
        by_cases e : j = i
        · subst e; exact okOrd_pre hok k (by simp [hk'])
        · exact hpast j hj (fun h => (List.mem_cons.1 h).elim e hno) k (by simp [hk'])
      have hput : ∀ (v : AV) (H1 : Heap) (hs1 : List Heap) (last' : Option Nat), runOrd ms call d.ops base is (put a x.dst v) H1 hs1 = some (afin, hs') → okOrd d last' is = true → ∀ t, x.dst = some t → afin.get t = some v := by
        intro v H1 hs1 last' hr hok' t ht
        rw [(runOrd_keep is last' _ _ _ _ _ hr hok').2.1 t (okOrd_dst hok (by rw [hd]; exact ht))]
        simp [put, ht, T.get_set]
      split at h
      · rename_i hkk
        rw [hk, hkk] at htail
        have hfilt : (List.filter (fun i => kindAt d.ops i == .wr) (i :: is)) = List.filter (fun i => kindAt d.ops i == .wr) is := by
          rw [List.filter_cons_of_neg]; rw [hk, hkk]; decide
        have go : ∀ v, runOrd ms call d.ops base is (put a x.dst v) H hs = some (afin, hs') → m ∈ is → ∃ x a1 H1 k, Done ms call d base a0 afin hs' m x a1 H1 k ∧
            (kindAt d.ops m = .wr → ∃ l, k = hs.length + l ∧ ((i :: is).filter fun i => kindAt d.ops i == .wr)[l]? = some m) := by
          intro v hr hmi
          obtain ⟨x', a1, H1, k, g1, g2⟩ := ih last _ _ _ _ _ hr htail (hfresh' _) hpast' m hmi
          exact ⟨x', a1, H1, k, g1, fun hw => by rw [hfilt]; exact g2 hw⟩
        cases hw : wantedA d.ops a x.guard with
        | true =>
          rw [hw] at h; simp only [cond_true] at h
          split at h
          · rename_i v hv
            rcases List.mem_cons.1 hm with rfl | hmi
            · refine ⟨x, a, H, 0, ⟨hx, hlooks, hlooks0, fun hf => by rw [hw] at hf; (cases hf), fun _ _ => ⟨v, hv, hput _ _ _ _ h htail⟩, fun _ hf => by rw [hkk] at hf; (cases hf), fun hf => by rw [hkk] at hf; (cases hf)⟩, fun hf => by rw [hk, hkk] at hf; (cases hf)⟩
            · exact go _ h hmi
          · cases h
        | false =>
          rw [hw] at h; simp only [cond_false] at h
          rcases List.mem_cons.1 hm with rfl | hmi
          · refine ⟨x, a, H, 0, ⟨hx, hlooks, hlooks0, fun _ => hput _ _ _ _ h htail, fun hf => by rw [hw] at hf; (cases hf), fun hf => by rw [hw] at hf; (cases hf), fun hf => by rw [hkk] at hf; (cases hf)⟩, fun hf => by rw [hk, hkk] at hf; (cases hf)⟩
          · exact go _ h hmi
      · rename_i hkk
        rw [hk, hkk] at htail
        have hfilt : (List.filter (fun i => kindAt d.ops i == .wr) (i :: is)) = List.filter (fun i => kindAt d.ops i == .wr) is := by
          rw [List.filter_cons_of_neg]; rw [hk, hkk]; decide
        have go : ∀ v H0, runOrd ms call d.ops base is (put a x.dst v) H0 hs = some (afin, hs') → m ∈ is → ∃ x a1 H1 k, Done ms call d base a0 afin hs' m x a1 H1 k ∧
            (kindAt d.ops m = .wr → ∃ l, k = hs.length + l ∧ ((i :: is).filter fun i => kindAt d.ops i == .wr)[l]? = some m) := by
          intro v H0 hr hmi
          obtain ⟨x', a1, H1, k, g1, g2⟩ := ih last _ _ _ _ _ hr htail (hfresh' _) hpast' m hmi
          exact ⟨x', a1, H1, k, g1, fun hw => by rw [hfilt]; exact g2 hw⟩
        cases hw : wantedA d.ops a x.guard with
        | true =>
          rw [hw] at h; simp only [cond_true] at h
          split at h
          · rename_i b0 f hal
            rcases List.mem_cons.1 hm with rfl | hmi
            · refine ⟨x, a, H, 0, ⟨hx, hlooks, hlooks0, fun hf => by rw [hw] at hf; (cases hf), fun _ hf => by rw [hkk] at hf; (cases hf), fun _ _ => ⟨b0, f, hal, hput _ _ _ _ h htail⟩, fun hf => by rw [hkk] at hf; (cases hf)⟩, fun hf => by rw [hk, hkk] at hf; (cases hf)⟩
            · exact go _ _ h hmi
          · cases h
        | false =>
          rw [hw] at h; simp only [cond_false] at h
          rcases List.mem_cons.1 hm with rfl | hmi
          · refine ⟨x, a, H, 0, ⟨hx, hlooks, hlooks0, fun _ => hput _ _ _ _ h htail, fun hf => by rw [hw] at hf; (cases hf), fun hf => by rw [hw] at hf; (cases hf), fun hf => by rw [hkk] at hf; (cases hf)⟩, fun hf => by rw [hk, hkk] at hf; (cases hf)⟩
          · exact go _ _ h hmi
      · rename_i hkk
        rw [hk, hkk] at htail
        have hfilt : (List.filter (fun i => kindAt d.ops i == .wr) (i :: is)) = i :: List.filter (fun i => kindAt d.ops i == .wr) is := by
          rw [List.filter_cons_of_pos]; rw [hk, hkk]; decide
        have go : ∀ v H0, runOrd ms call d.ops base is (put a x.dst v) H0 (H :: hs) = some (afin, hs') → m ∈ is → ∃ x a1 H1 k, Done ms call d base a0 afin hs' m x a1 H1 k ∧
            (kindAt d.ops m = .wr → ∃ l, k = hs.length + l ∧ ((i :: is).filter fun i => kindAt d.ops i == .wr)[l]? = some m) := by
          intro v H0 hr hmi
          obtain ⟨x', a1, H1, k, g1, g2⟩ := ih (some i) _ _ _ _ _ hr htail (hfresh' _) hpast' m hmi
          refine ⟨x', a1, H1, k, g1, fun hw => ?_⟩
          obtain ⟨l, e1, e2⟩ := g2 hw
          exact ⟨l + 1, by simp only [List.length_cons] at e1; omega, by rw [hfilt]; exact e2⟩
        have here : ∀ v H0, runOrd ms call d.ops base is (put a x.dst v) H0 (H :: hs) = some (afin, hs') → hs'.reverse[hs.length]? = some H ∧ ∃ H2, hs'.reverse[hs.length + 1]? = some H2 ∧ H2.next = H0.next ∧
            ∀ b, (∀ j, kindAt d.ops j = .al → (Nat.testBit (get2 0 d.pre j) i = true) → b ≠ base + j) → H2.t.get b = H0.t.get b := by
          intro v H0 hr
          obtain ⟨⟨q, g1, g2⟩, _, H2, g3, g4, g5⟩ := runOrd_keep is (some i) _ _ _ _ _ hr htail
          refine ⟨?_, H2, by simpa using g3, g4, fun b hb => g5 b fun j _ hj hl => hb j hj (hl i rfl)⟩
          rw [g1, List.reverse_append, List.getElem?_append_left (by simp)]
          simp
        have idx : kindAt d.ops i = .wr → ∃ l, hs.length = hs.length + l ∧ ((i :: is).filter fun i => kindAt d.ops i == .wr)[l]? = some i := fun _ => ⟨0, rfl, by rw [hfilt]; rfl⟩
        cases hw : wantedA d.ops a x.guard with
        | true =>
          rw [hw] at h; simp only [cond_true] at h
          split at h
          · rename_i v H0 hwr
            rcases List.mem_cons.1 hm with rfl | hmi
            · obtain ⟨e1, H2, e2, e3, e4⟩ := here _ _ h
              refine ⟨x, a, H, hs.length, ⟨hx, hlooks, hlooks0, fun hf => by rw [hw] at hf; (cases hf), fun _ hf => by rw [hkk] at hf; (cases hf), fun _ hf => by rw [hkk] at hf; (cases hf),
                fun _ => ⟨e1, v, H0, H2, fun _ => hwr, fun hf => by rw [hw] at hf; (cases hf), fun _ => hput _ _ _ _ h htail, e2, e3, e4⟩⟩, idx⟩
            · exact go _ _ h hmi
          · cases h
        | false =>
          rw [hw] at h; simp only [cond_false] at h
          rcases List.mem_cons.1 hm with rfl | hmi
          · obtain ⟨e1, H2, e2, e3, e4⟩ := here _ _ h
            refine ⟨x, a, H, hs.length, ⟨hx, hlooks, hlooks0, fun _ => hput _ _ _ _ h htail, fun hf => by rw [hw] at hf; (cases hf), fun hf => by rw [hw] at hf; (cases hf),
              fun _ => ⟨e1, aundef, H, H2, fun hf => by rw [hw] at hf; (cases hf), fun _ => rfl, fun hf => by rw [hw] at hf; (cases hf), e2, e3, e4⟩⟩, idx⟩
          · exact go _ _ h hmi

end
end Go.AE
end
-- Statements that draw their order: whatever order is drawn.
section
namespace Go.AE

theorem chain {d : ADraw} : ∀ (is : List Nat) (last : Option Nat), okOrd d last is = true →
    (∀ m i j, (is.filter fun i => kindAt d.ops i == .wr)[m + 1]? = some i → (is.filter fun i => kindAt d.ops i == .wr)[m]? = some j → Nat.testBit (get2 0 d.pre i) j = true) ∧
    (∀ i l, last = some l → (is.filter fun i => kindAt d.ops i == .wr)[0]? = some i → Nat.testBit (get2 0 d.pre i) l = true) := by
  intro is
  induction is with
  | nil => intro last _; exact ⟨fun m i j h => by simp at h, fun i l _ h => by simp at h⟩
  | cons x is ih =>
    intro last h
    have htail := okOrd_tail h
    cases hk : kindAt d.ops x with
    | wr =>
      rw [hk] at htail
      obtain ⟨g1, g2⟩ := ih _ htail
      have hf : ((x :: is).filter fun i => kindAt d.ops i == .wr) = x :: is.filter fun i => kindAt d.ops i == .wr := by
        rw [List.filter_cons_of_pos]; rw [hk]; decide
      rw [hf]
      refine ⟨fun m i j hi hj => ?_, fun i l hl hi => ?_⟩
      · rw [List.getElem?_cons_succ] at hi
        cases m with
        | zero => simp only [List.getElem?_cons_zero, Option.some.injEq] at hj; subst hj; exact g2 i x rfl hi
        | succ m => rw [List.getElem?_cons_succ] at hj; exact g1 m i j hi hj
      · simp only [List.getElem?_cons_zero, Option.some.injEq] at hi
        subst hi; subst hl
        exact okOrd_last h (.inl hk)
    | rd =>
      rw [hk] at htail
      have hf : ((x :: is).filter fun i => kindAt d.ops i == .wr) = is.filter fun i => kindAt d.ops i == .wr := by
        rw [List.filter_cons_of_neg]; rw [hk]; decide
      rw [hf]; exact ih _ htail
    | al =>
      rw [hk] at htail
      have hf : ((x :: is).filter fun i => kindAt d.ops i == .wr) = is.filter fun i => kindAt d.ops i == .wr := by
        rw [List.filter_cons_of_neg]; rw [hk]; decide
      rw [hf]; exact ih _ htail

theorem runOrd_len {d : ADraw} {ms : Methods} {call : CallF} {base : Nat} : ∀ (is : List Nat) (a : Frm) (H : Heap) (hs : List Heap) (afin : Frm) (hs' : List Heap), runOrd ms call d.ops base is a H hs = some (afin, hs') →
    hs'.length = hs.length + (is.filter fun i => kindAt d.ops i == .wr).length + 1 := by
  intro is
  induction is with
  | nil => intro a H hs afin hs' h; simp only [runOrd, Option.some.injEq, Prod.mk.injEq] at h; rw [← h.2]; simp
  | cons i is ih =>
    intro a H hs afin hs' h
    simp only [runOrd] at h
    split at h
    · cases h
    · rename_i x hx
      have hk : kindAt d.ops i = kindOf x.op := by simp [kindAt, hx]
      split at h
      · rename_i hkk
        rw [List.filter_cons_of_neg (by rw [hk, hkk]; decide)]
        cases hw : wantedA d.ops a x.guard with
        | true => rw [hw] at h; simp only [cond_true] at h; split at h
                  · exact ih _ _ _ _ _ h
                  · cases h
        | false => rw [hw] at h; exact ih _ _ _ _ _ h
      · rename_i hkk
        rw [List.filter_cons_of_neg (by rw [hk, hkk]; decide)]
        cases hw : wantedA d.ops a x.guard with
        | true => rw [hw] at h; simp only [cond_true] at h; split at h
                  · exact ih _ _ _ _ _ h
                  · cases h
        | false => rw [hw] at h; exact ih _ _ _ _ _ h
      · rename_i hkk
        rw [List.filter_cons_of_pos (by rw [hk, hkk]; decide)]
        cases hw : wantedA d.ops a x.guard with
        | true => rw [hw] at h; simp only [cond_true] at h; split at h
                  · have := ih _ _ _ _ _ h; simp only [List.length_cons] at this ⊢; omega
                  · cases h
        | false => rw [hw] at h; have := ih _ _ _ _ _ h; simp only [List.length_cons] at this ⊢; omega

theorem stable_get {xs : ADraw} {b a : Frm} {base : Nat} {hs : List Heap} : ∀ (os : List AOper) (ls : List (Nat × Nat)) (i : Nat), stable xs b a base hs os ls i = true → ∀ (m : Nat) (o : AOper), os[m]? = some o →
    ∃ lo hi, ls[m]? = some (lo, hi) ∧ sameAt xs b a base (i + m) o ((hs.drop lo).take (Nat.succ hi - lo)) = true
  | [], ls, i, h, m, o, ho => by simp at ho
  | x :: os, [], i, h, m, o, ho => by simp [stable] at h
  | x :: os, (lo, hi) :: ls, i, h, m, o, ho => by
    simp only [stable, Bool.and_eq_true] at h
    cases m with
    | zero => simp only [List.getElem?_cons_zero, Option.some.injEq] at ho; subst ho; exact ⟨lo, hi, rfl, h.1⟩
    | succ m =>
      obtain ⟨l, hh, h1, h2⟩ := stable_get os ls _ h.2 m o (by simpa using ho)
      exact ⟨l, hh, by simpa using h1, by rw [show i + (m + 1) = i.succ + m by omega]; exact h2⟩

theorem mem_window {α : Type} {l : List α} {lo hi k : Nat} {x : α} (h : l[k]? = some x) (h1 : lo ≤ k) (h2 : k ≤ hi) : x ∈ (l.drop lo).take (Nat.succ hi - lo) := by
  refine List.mem_of_getElem? (i := k - lo) ?_
  rw [List.getElem?_take, if_pos (by omega), List.getElem?_drop, show lo + (k - lo) = k by omega]
  exact h

/-- how many are not listed -/
def left (listed : Array Bool) (n : Nat) : Nat := ((List.range n).filter fun i => !(listed.getD i false)).length

theorem left_zero {listed : Array Bool} {n : Nat} (h : left listed n = 0) : ∀ i, i < n → listed.getD i false = true := by
  intro i hi
  have h' := List.length_eq_zero_iff.1 h
  have := List.filter_eq_nil_iff.1 h' i (List.mem_range.2 hi)
  simpa using this

theorem left_set {listed : Array Bool} {n i : Nat} (hs : listed.size = n) (hi : i < n) (h : listed.getD i false = false) : left listed n = left (listed.setIfInBounds i true) n + 1 := by
  unfold left
  have key : ∀ m, i < m → ((List.range m).filter fun j => !(listed.getD j false)).length = ((List.range m).filter fun j => !((listed.setIfInBounds i true).getD j false)).length + 1 := by
    intro m
    induction m with
    | zero => intro h; omega
    | succ m ih =>
      intro hm
      rw [List.range_succ, List.filter_append, List.filter_append, List.length_append, List.length_append]
      by_cases e : i = m
      · subst e
        have e1 : (List.range i).filter (fun j => !(listed.getD j false)) = (List.range i).filter fun j => !((listed.setIfInBounds i true).getD j false) := by
          refine List.filter_congr fun j hj => ?_
          have : i ≠ j := by have := List.mem_range.1 hj; omega
          rw [getD_set_ne false this]
        rw [e1]
        have e2 : (listed.setIfInBounds i true).getD i false = true := by simp [hs, hi]
        simp only [List.filter_cons, List.filter_nil, h, e2, Bool.not_false, Bool.not_true, if_true, Bool.false_eq_true, if_false, List.length_singleton, List.length_nil]
      · rw [ih (by omega)]
        have : (listed.setIfInBounds i true).getD m false = listed.getD m false := getD_set_ne false e
        simp only [List.filter_cons, List.filter_nil, this]
        omega
  exact key n hi

/-- the least that is not listed -/
theorem least {p : Nat → Prop} [DecidablePred p] : ∀ {n : Nat}, (∃ i, i < n ∧ p i) → ∃ i, i < n ∧ p i ∧ ∀ j, j < i → ¬ p j := by
  intro n
  induction n with
  | zero => rintro ⟨i, h, _⟩; omega
  | succ n ih =>
    rintro ⟨i, hi, hp⟩
    by_cases h : ∃ i, i < n ∧ p i
    · obtain ⟨j, h1, h2, h3⟩ := ih h
      exact ⟨j, by omega, h2, h3⟩
    · have : i = n := by
        rcases Nat.lt_or_ge i n with hlt | hge
        · exact absurd ⟨i, hlt, hp⟩ h
        · omega
      exact ⟨i, hi, hp, fun j hj hpj => h ⟨j, by omega, hpj⟩⟩

theorem Sim.sameHeap {B : Nat} {r : Ren} {H H' : Heap} {w : World} (hS : Sim B r H w) (hn : H.next ≤ H'.next) (h : ∀ b, (r.m b ≠ none ∨ r.dead b) → H'.t.get b = H.t.get b) : Sim B r H' w where
  low := hS.low
  live := fun b c hm => by
    obtain ⟨g1, ⟨y, o, g2, g3, g4, g5⟩, g6⟩ := hS.live b c hm
    exact ⟨Nat.lt_of_lt_of_le g1 hn, ⟨y, o, by rw [h b (.inl (by rw [hm]; simp))]; exact g2, g3, g4, g5⟩, g6⟩
  inj := hS.inj
  dead := fun b hd => by
    obtain ⟨g1, g2⟩ := hS.dead b hd
    exact ⟨Nat.lt_of_lt_of_le g1 hn, by rw [h b (.inr hd)]; exact g2⟩
  good := hS.good

section
variable {B N : Nat} {P : Program} {ms : Methods} {call : CallF} {arr : Array Oper} {d : ADraw} {r0 : Ren} {w0 : World} {afin : Frm} {hs : List Heap} {base : Nat}

abbrev isL (listed : Array Bool) (i : Nat) : Prop := listed.getD i false = true

structure Inv (B N : Nat) (es : List (List Nat)) (d : ADraw) (r0 : Ren) (w0 : World) (a0 afin : Frm) (hs : List Heap) (base : Nat) (listed : Array Bool) (a' : Act) (w : World) (r : Ren) (k : Nat) (F : Heap) (aL : Frm) : Prop where
  size : listed.size = d.ops.length
  closed : Closed es (isL listed)
  count : ∀ m i, (writers d)[m]? = some i → (isL listed i ↔ m < k)
  kle : k ≤ (writers d).length
  heap : hs.reverse[k]? = some F
  sim : Sim B r F w
  step : Step B base r0 w0 r w
  next : base + d.ops.length ≤ F.next
  arel : ARel r N aL a'
  frame : ∀ t, (∀ j, dstOf d.ops j = some t → isL listed j) → aL.get t = afin.get t
  frame0 : ∀ t, (∀ j, dstOf d.ops j = some t → ¬ isL listed j) → aL.get t = a0.get t
  unborn : ∀ i, i < d.ops.length → ¬ isL listed i → r.m (base + i) = none ∧ ¬ r.dead (base + i)

theorem isL_set {listed : Array Bool} {i j : Nat} (hi : i < listed.size) : isL (listed.setIfInBounds i true) j ↔ isL listed j ∨ j = i := by
  unfold isL
  by_cases e : i = j
  · subst e; simp [hi]
  · rw [getD_set_ne false e]
    constructor
    · exact .inl
    · rintro (h | h)
      · exact h
      · exact absurd h.symm e

theorem mix_get {a0 a1 : Frm} {i : Nat} : ∀ (l : List Nat) (f : Frm) (t : Nat), (l.foldl (mixSet d a0 a1 i) f).get t = if t ∈ l then (match (bif ahead d i t then a1.get t else a0.get t) with | some v => some v | none => f.get t) else f.get t
  | [], f, t => by simp
  | u :: l, f, t => by
    simp only [List.foldl_cons]
    rw [mix_get l _ t]
    have e : ∀ t, (mixSet d a0 a1 i f u).get t = if u = t then (match (bif ahead d i t then a1.get t else a0.get t) with | some v => some v | none => f.get t) else f.get t := by
      intro t
      unfold mixSet
      by_cases h : u = t
      · subst h
        rw [if_pos rfl]
        cases (bif ahead d i u then T.get a1 u else T.get a0 u) with
        | none => rfl
        | some v => simp [T.get_set]
      · rw [if_neg h]
        cases (bif ahead d i u then T.get a1 u else T.get a0 u) with
        | none => rfl
        | some v => simp [T.get_set, h]
    rw [e]
    generalize (bif ahead d i t then T.get a1 t else T.get a0 t) = s
    by_cases h1 : t ∈ l
    · rw [if_pos h1, if_pos (List.mem_cons_of_mem _ h1)]
      cases s with
      | none => by_cases h2 : u = t <;> simp [h2]
      | some v => rfl
    · rw [if_neg h1]
      by_cases h2 : u = t
      · subst h2; rw [if_pos rfl, if_pos List.mem_cons_self]
      · rw [if_neg h2, if_neg (by simp [h1]; exact fun h => h2 h.symm)]

theorem draw_sound (hms : MethodsOk P ms) (hcall : CallOk P call) (hops : cOpers P N arr.toList = some d.ops) (hok : okDraw (arr.toList.map edgesOf) d = true) {a0 : Frm} {H0 : Heap}
    (hrun : runOrd ms call d.ops base d.ord a0 H0 [] = some (afin, hs)) (hst : stable d a0 afin base hs.reverse d.ops d.lohi 0 = true) {Q : Exit → Act → World → Prop}
    (hQ : ∀ r k F aL a' w listed, Inv B N (arr.toList.map edgesOf) d r0 w0 a0 afin hs base listed a' w r k F aL → (∀ i, i < d.ops.length → isL listed i) → Q .normal a' w) :
    ∀ (fuel : Nat) (listed : Array Bool) (a' : Act) (w : World) (r : Ren) (k : Nat) (F : Heap) (aL : Frm), Inv B N (arr.toList.map edgesOf) d r0 w0 a0 afin hs base listed a' w r k F aL → left listed d.ops.length = fuel → wpAny P .any arr Q fuel listed a' w := by
  obtain ⟨hpre, hord, hlen, hmem⟩ := mem_testBit_of hok
  obtain ⟨hlen2, hget⟩ := cOpers_get hops
  have hn : arr.size = d.ops.length := by rw [← hlen2]; simp
  have hchain := (chain d.ord none hord).1
  have hdone := runOrd_done (a0 := a0) d.ord none a0 H0 [] afin hs hrun hord (fun _ _ _ _ => rfl) (fun j hj hno => absurd hj hno)
  have kindlt : ∀ {j : Nat}, kindAt d.ops j ≠ .rd → j < d.ops.length := by
    intro j h
    rcases Nat.lt_or_ge j d.ops.length with hlt | hge
    · exact hlt
    · exact absurd (by simp [kindAt, List.getElem?_eq_none hge]) h
  -- the set is closed under all that each waits for
  have preL : ∀ {listed : Array Bool}, listed.size = d.ops.length → Closed (arr.toList.map edgesOf) (isL listed) → ∀ i, i < d.ops.length → (∀ e ∈ get2 [] (arr.toList.map edgesOf) i, isL listed e) → ∀ j, Nat.testBit (get2 0 d.pre i) j = true → isL listed j := by
    intro listed hs hc i hi he j hj
    refine okPre_sound hpre hc (fun i hi => ?_) i hi he j hj
    rcases Nat.lt_or_ge i d.ops.length with hlt | hge
    · exact hlt
    · exfalso; unfold isL at hi; rw [show listed.getD i false = false by simp [Array.getElem?_eq_none (show listed.size ≤ i by omega)]] at hi; cases hi
  have ltL : ∀ {listed : Array Bool}, listed.size = d.ops.length → ∀ {i}, isL listed i → i < d.ops.length := by
    intro listed hs i hi
    rcases Nat.lt_or_ge i d.ops.length with hlt | hge
    · exact hlt
    · exfalso; unfold isL at hi; rw [show listed.getD i false = false by simp [Array.getElem?_eq_none (show listed.size ≤ i by omega)]] at hi; cases hi
  have edges_at : ∀ {i : Nat} {o : Oper}, arr[i]? = some o → get2 [] (arr.toList.map edgesOf) i = edgesOf o := by
    intro i o ho
    unfold get2
    rw [List.getElem?_map, show arr.toList[i]? = some o by simpa using ho]
    rfl
  intro fuel
  induction fuel with
  | zero =>
    intro listed a' w r k F aL hI hleft
    have hall := left_zero hleft
    refine ⟨?_, hQ r k F aL a' w listed hI hall⟩
    rw [List.eq_nil_iff_forall_not_mem]
    intro j hj
    obtain ⟨h1, o, h2, _⟩ := mem_ready.1 hj
    have hlt : j < d.ops.length := by rw [← hn]; exact (Array.getElem?_eq_some_iff.1 h2).1
    have h3 := hall j hlt
    have : j < listed.size := by rw [hI.size]; exact hlt
    simp [this] at h1 h3
    rw [h1] at h3; cases h3
  | succ fuel ih =>
    intro listed a' w r k F aL hI hleft
    constructor
    · intro hnil
      exfalso
      have hex : ∃ i, i < d.ops.length ∧ ¬ isL listed i := by
        refine Classical.byContradiction fun hno => ?_
        have hall : ∀ i, i < d.ops.length → isL listed i := fun i hi => Classical.byContradiction fun h => hno ⟨i, hi, h⟩
        have : left listed d.ops.length = 0 := by
          unfold left
          rw [List.length_eq_zero_iff, List.filter_eq_nil_iff]
          intro i hi
          have := hall i (List.mem_range.1 hi)
          unfold isL at this
          simp only [this]; decide
        omega
      obtain ⟨i, h1, h2, h3⟩ := least (p := fun i => ¬ isL listed i) hex
      have hm : i ∈ Region.ready .any arr listed := by
        refine mem_ready.2 ⟨?_, arr[i]'(by omega), by simp, fun e he hb => ?_⟩
        · have : i < listed.size := by rw [hI.size]; exact h1
          unfold isL at h2
          simp [this] at h2 ⊢
          exact h2
        · have hp := hpre i h1
          simp only [okPre, Bool.and_eq_true] at hp
          have hmem : e.on ∈ get2 [] (arr.toList.map edgesOf) i := by
            rw [edges_at (o := arr[i]'(by omega)) (by simp)]
            unfold edgesOf
            refine List.mem_map.2 ⟨e, List.mem_filter.2 ⟨by simpa using he, hb⟩, rfl⟩
          have hlt := List.all_eq_true.1 hp.1.1.1.1 e.on hmem
          rw [natble, decide_eq_true_eq] at hlt
          exact Classical.not_not.1 (h3 e.on hlt)
      rw [hnil] at hm
      simp at hm
    · intro i hi
      obtain ⟨hi1, o, ho, hedge⟩ := mem_ready.1 hi
      have hlt : i < d.ops.length := by rw [← hn]; exact (Array.getElem?_eq_some_iff.1 ho).1
      have hsz : i < listed.size := by rw [hI.size]; exact hlt
      have hnotL : ¬ isL listed i := by unfold isL; simp [hsz] at hi1 ⊢; exact hi1
      have hed : ∀ e ∈ get2 [] (arr.toList.map edgesOf) i, isL listed e := by
        intro e he
        rw [edges_at ho] at he
        obtain ⟨ed, h1, rfl⟩ := List.mem_map.1 he
        obtain ⟨h2, h3⟩ := List.mem_filter.1 h1
        exact hedge ed (by simpa using h2) h3
      have hpreL := preL hI.size hI.closed i hlt hed
      obtain ⟨x, hx, hc⟩ := hget i o (by simpa using ho)
      obtain ⟨c1, c2, c3, c4⟩ := cOper_some hc
      obtain ⟨x', a1, H1, kD, hD, hidx⟩ := hdone i ((hmem i).1 hlt)
      obtain rfl : x' = x := by have := hD.get; rw [hx] at this; cases this; rfl
      have hk : kindAt d.ops i = kindOf x'.op := by simp [kindAt, hx]
      have hdst : dstOf d.ops i = x'.dst := by simp [dstOf, hx]
      have hlk : looksAt d.ops i = looksOf d.ops x' := by simp [looksAt, hx]
      have hp := hpre i hlt
      simp only [okPre, Bool.and_eq_true] at hp
      obtain ⟨⟨⟨⟨_, _⟩, _⟩, hplook⟩, hpk⟩ := hp
      -- what it looks at
      have dstlt : ∀ {j t : Nat}, dstOf d.ops j = some t → j < d.ops.length := by
        intro j t hj
        rcases Nat.lt_or_ge j d.ops.length with h | h
        · exact h
        · simp [dstOf, List.getElem?_eq_none h] at hj
      have uniq : ∀ {j j' t : Nat}, dstOf d.ops j = some t → dstOf d.ops j' = some t → j = j' := by
        intro j j' t h1 h2
        have main : ∀ (is : List Nat) (last : Option Nat), okOrd d last is = true → j ∈ is → j' ∈ is → j = j' := by
          intro is
          induction is with
          | nil => intro _ _ hj; simp at hj
          | cons y is ih2 =>
            intro last h hj hj'
            rcases List.mem_cons.1 hj with q1 | q1 <;> rcases List.mem_cons.1 hj' with q2 | q2
            · exact q1.trans q2.symm
            · subst q1; exact absurd h2 (okOrd_dst h h1 j' q2)
            · subst q2; exact absurd h1 (okOrd_dst h h2 j q1)
            · exact ih2 _ (okOrd_tail h) q1 q2
        exact main d.ord none hord ((hmem j).1 (dstlt h1)) ((hmem j').1 (dstlt h2))
      have hcase : ∀ t ∈ looksOf d.ops x', (∀ j, dstOf d.ops j = some t → Nat.testBit (get2 0 d.pre i) j = true) ∨ (d.war = true ∧ ahead d i t = false ∧ ∃ j, dstOf d.ops j = some t ∧ (Nat.testBit (get2 0 d.pre j) i = true ∨ i = j)) := by
        intro t ht
        by_cases hex : ∃ j, dstOf d.ops j = some t ∧ Nat.testBit (get2 0 d.pre i) j = false
        · obtain ⟨j, hj, hb⟩ := hex
          have h1 := List.all_eq_true.1 hplook t (by rw [hlk]; exact ht)
          have h2 := List.all_eq_true.1 h1 j (List.mem_range.2 (dstlt hj))
          rw [hj, hb] at h2
          simp only [beq_self_eq_true, Bool.not_true, Bool.false_or, Bool.and_eq_true, Bool.or_eq_true, natbeq, decide_eq_true_eq] at h2
          refine .inr ⟨h2.1, ?_, j, hj, h2.2⟩
          rw [Bool.eq_false_iff]
          intro ha
          unfold ahead at ha
          obtain ⟨j', _, hj'⟩ := List.any_eq_true.1 ha
          simp only [Bool.and_eq_true] at hj'
          have hd' : dstOf d.ops j' = some t := by
            cases hq : dstOf d.ops j' with
            | none => rw [hq] at hj'; simp at hj'
            | some e => rw [hq] at hj'; simp only [natbeq, decide_eq_true_eq] at hj'; rw [hj'.1]
          rw [uniq hj hd', hj'.2] at hb; cases hb
        · refine .inl fun j hj => ?_
          cases hb : Nat.testBit (get2 0 d.pre i) j with
          | true => rfl
          | false => exact absurd ⟨j, hj, hb⟩ hex
      have hagree : ∀ t ∈ looksOf d.ops x', a1.get t = aL.get t := by
        intro t ht
        rcases hcase t ht with hall | ⟨_, _, j, hj, hb⟩
        · rw [hD.looks t hall, hI.frame t fun j hj => hpreL j (hall j hj)]
        · rw [hD.looks0 t j hj ((hmem j).1 (dstlt hj)) hb, hI.frame0 t fun j' hj' hL => ?_]
          obtain rfl := uniq hj hj'
          rcases hb with hb | rfl
          · exact hnotL (preL hI.size hI.closed j (dstlt hj) (fun e he => hI.closed j hL e he) i hb)
          · exact hnotL hL
      have hopnds : ∀ t ∈ x'.op.opnds, a1.get t = aL.get t := fun t ht => hagree t (List.mem_append_left _ ht)
      have hmix : ∀ t ∈ looksOf d.ops x', (frameFor d a0 afin i x').get t = aL.get t := by
        intro t ht
        unfold frameFor
        cases hwar : d.war with
        | false =>
          simp only [cond_false]
          rcases hcase t ht with hall | ⟨hw, _⟩
          · exact (hI.frame t fun j hj => hpreL j (hall j hj)).symm
          · rw [hwar] at hw; cases hw
        | true =>
          simp only [cond_true]
          rw [mix_get, if_pos ht]
          rcases hcase t ht with hall | ⟨_, hah, j, hj, hb⟩
          · by_cases hex : ∃ j, dstOf d.ops j = some t
            · obtain ⟨j, hj⟩ := hex
              have hah : ahead d i t = true := by
                unfold ahead
                refine List.any_eq_true.2 ⟨j, List.mem_range.2 (dstlt hj), ?_⟩
                rw [hj, hall j hj]; simp
              rw [hah, hI.frame t fun j hj => hpreL j (hall j hj)]
              simp only [cond_true]
              cases T.get afin t <;> rfl
            · have hno : ∀ j, dstOf d.ops j ≠ some t := fun j hj => hex ⟨j, hj⟩
              have e1 := hI.frame t fun j hj => absurd hj (hno j)
              have e2 := hI.frame0 t fun j hj => absurd hj (hno j)
              rw [← e1, ← e2]
              cases ahead d i t <;> (simp only [cond_true, cond_false]; cases T.get aL t <;> rfl)
          · rw [hah]
            simp only [cond_false]
            have e2 := hI.frame0 t fun j' hj' hL => by
              obtain rfl := uniq hj hj'
              rcases hb with hb | rfl
              · exact hnotL (preL hI.size hI.closed j (dstlt hj) (fun e he => hI.closed j hL e he) i hb)
              · exact hnotL hL
            rw [← e2]
            cases T.get aL t <;> rfl
      have hopnds2 : ∀ t ∈ x'.op.opnds, (frameFor d a0 afin i x').get t = aL.get t := fun t ht => hmix t (List.mem_append_left _ ht)
      have hgd : wantedA d.ops a1 x'.guard = wantedA d.ops aL x'.guard := wanted_congr fun t ht => hagree t (List.mem_append_right _ ht)
      have hgd2 : wantedA d.ops (frameFor d a0 afin i x') x'.guard = wantedA d.ops aL x'.guard := wanted_congr fun t ht => hmix t (List.mem_append_right _ ht)
      -- the new listing
      have hL' : ∀ j, isL (listed.setIfInBounds i true) j ↔ isL listed j ∨ j = i := fun j => isL_set hsz
      have hsize' : (listed.setIfInBounds i true).size = d.ops.length := by simp [hI.size]
      have hclosed' : Closed (arr.toList.map edgesOf) (isL (listed.setIfInBounds i true)) := by
        intro j hj e he
        rw [hL'] at hj ⊢
        rcases hj with hj | rfl
        · exact .inl (hI.closed j hj e he)
        · exact .inl (hed e he)
      have hleft' : left (listed.setIfInBounds i true) d.ops.length = fuel := by
        have := left_set (n := d.ops.length) hI.size hlt (by unfold isL at hnotL; simpa using hnotL)
        omega
      have hframe' : ∀ v : AV, (∀ t, x'.dst = some t → afin.get t = some v) → ∀ t, (∀ j, dstOf d.ops j = some t → isL (listed.setIfInBounds i true) j) → (put aL x'.dst v).get t = afin.get t := by
        intro v hv t ht
        cases hd : x'.dst with
        | none =>
          simp only [put]
          refine hI.frame t fun j hj => ?_
          rcases (hL' j).1 (ht j hj) with h | rfl
          · exact h
          · rw [hdst, hd] at hj; cases hj
        | some e =>
          simp only [put, T.get_set]
          by_cases he : e = t
          · subst he; rw [if_pos rfl, hv e hd]
          · rw [if_neg he]
            refine hI.frame t fun j hj => ?_
            rcases (hL' j).1 (ht j hj) with h | rfl
            · exact h
            · rw [hdst, hd] at hj; cases hj; exact absurd rfl he
      have hframe0' : ∀ v : AV, ∀ t, (∀ j, dstOf d.ops j = some t → ¬ isL (listed.setIfInBounds i true) j) → (put aL x'.dst v).get t = a0.get t := by
        intro v t ht
        have h0 := hI.frame0 t fun j hj hL => ht j hj ((hL' j).2 (.inl hL))
        cases hd : x'.dst with
        | none => simp only [put]; exact h0
        | some e =>
          have : e ≠ t := fun h => by subst h; exact ht i (by rw [hdst, hd]) ((hL' i).2 (.inr rfl))
          simp only [put, T.get_set]; rw [if_neg this]; exact h0
      -- the stages of one that is no writer
      have stage : kindOf x'.op ≠ .wr → ∃ lo hh, d.lohi[i]? = some (lo, hh) ∧ sameAt d a0 afin base i x' ((hs.reverse.drop lo).take (Nat.succ hh - lo)) = true ∧ F ∈ (hs.reverse.drop lo).take (Nat.succ hh - lo) := by
        intro hkw
        obtain ⟨lo, hh, h1, h2⟩ := stable_get d.ops d.lohi 0 hst i x' hx
        rw [Nat.zero_add] at h2
        refine ⟨lo, hh, h1, h2, ?_⟩
        have hg : get2 (0, 0) d.lohi i = (lo, hh) := by simp [get2, h1]
        have hpk' : loOk d i lo = true ∧ hiOk d i hh = true := by
          rw [hg] at hpk
          cases hkk : kindAt d.ops i with
          | wr => exact absurd (hk ▸ hkk) hkw
          | rd => rw [hkk] at hpk; simp only [Bool.and_eq_true] at hpk; exact hpk
          | al => rw [hkk] at hpk; simp only [Bool.and_eq_true] at hpk; exact hpk
        refine mem_window hI.heap ?_ ?_
        · cases lo with
          | zero => exact Nat.zero_le _
          | succ l =>
            have h3 := hpk'.1
            simp only [loOk] at h3
            split at h3
            · rename_i kk hkk
              exact (hI.count l kk hkk).1 (hpreL kk h3)
            · cases h3
        · have h3 := hpk'.2
          unfold hiOk at h3
          split at h3
          · rename_i kk hkk
            refine Nat.le_of_not_lt fun hgt => ?_
            have hLk := (hI.count hh kk hkk).2 hgt
            have hkl := ltL hI.size hLk
            exact hnotL (preL hI.size hI.closed kk hkl (fun e he => hI.closed kk hLk e he) i h3)
          · rw [natbeq, decide_eq_true_eq] at h3
            rw [h3]; exact hI.kle
      have count' : kindOf x'.op ≠ .wr → ∀ m j, (writers d)[m]? = some j → (isL (listed.setIfInBounds i true) j ↔ m < k) := by
        intro hkw m j hj
        rw [hL', ← hI.count m j hj]
        constructor
        · rintro (h | rfl)
          · exact h
          · exfalso
            have := List.mem_of_getElem? hj
            have := (List.mem_filter.1 this).2
            rw [hk] at this
            exact hkw (eq_of_beq this)
        · exact .inl
      -- a writer is the next one
      have nextw : kindOf x'.op = .wr → (writers d)[k]? = some i ∧ kD = k := by
        intro hkw
        obtain ⟨l, hl1, hl2⟩ := hidx (by rw [hk]; exact hkw)
        simp only [List.length_nil, Nat.zero_add] at hl1
        have hge : ¬ l < k := fun h => hnotL ((hI.count l i hl2).2 h)
        have hle : l ≤ k := by
          cases l with
          | zero => exact Nat.zero_le _
          | succ l =>
            cases hj : (writers d)[l]? with
            | none =>
              exfalso
              have h1 : (writers d)[l + 1]? = some i := hl2
              rw [List.getElem?_eq_none_iff] at hj
              rw [List.getElem?_eq_none (by omega)] at h1; cases h1
            | some j => exact (hI.count l j hj).1 (hpreL j (hchain l i j hl2 hj))
        have : l = k := by omega
        subst this
        exact ⟨hl2, hl1⟩
      have countw : kindOf x'.op = .wr → ∀ m j, (writers d)[m]? = some j → (isL (listed.setIfInBounds i true) j ↔ m < k + 1) := by
        intro hkw m j hj
        obtain ⟨hw, _⟩ := nextw hkw
        rw [hL']
        constructor
        · rintro (h | rfl)
          · have := (hI.count m j hj).1 h; omega
          · refine Nat.lt_succ_of_le (Nat.le_of_not_lt fun hgt => hnotL ?_)
            -- the same writer at two places
            exfalso
            have hnd : (writers d).Nodup := by
              unfold writers
              have : ∀ (is : List Nat) (last : Option Nat), okOrd d last is = true → is.Nodup := by
                intro is
                induction is with
                | nil => intro _ _; exact List.nodup_nil
                | cons y is ih2 => intro last h; exact List.nodup_cons.2 ⟨okOrd_nodup h, ih2 _ (okOrd_tail h)⟩
              exact (this d.ord none hord).filter _
            have h1 := (List.getElem?_eq_some_iff.1 hj)
            have h2 := (List.getElem?_eq_some_iff.1 hw)
            obtain ⟨q1, e1⟩ := h1
            obtain ⟨q2, e2⟩ := h2
            exact (List.pairwise_iff_getElem.1 hnd) k m q2 q1 hgt (e2.trans e1.symm)
        · intro hm
          rcases Nat.lt_or_ge m k with h | h
          · exact .inl ((hI.count m j hj).2 h)
          · have : m = k := by omega
            subst this
            rw [hw] at hj; cases hj; exact .inr rfl
      have unb' : ∀ j, j < d.ops.length → ¬ isL (listed.setIfInBounds i true) j → ¬ isL listed j ∧ j ≠ i := by
        intro j _ hj
        rw [hL'] at hj
        exact ⟨fun h => hj (.inl h), fun h => hj (.inr h)⟩
      -- the heap behind a writer
      have behind : ∀ {r' : Ren} {w' : World} {H' H2 : Heap}, Sim B r' H' w' → H2.next = H'.next → (∀ j, j < d.ops.length → ¬ isL listed j → r'.m (base + j) = none ∧ ¬ r'.dead (base + j)) →
          (∀ b, (∀ j, kindAt d.ops j = .al → (Nat.testBit (get2 0 d.pre j) i = true) → b ≠ base + j) → H2.t.get b = H'.t.get b) → Sim B r' H2 w' := by
        intro r' w' H' H2 hS hnx hun hH2
        refine hS.sameHeap (by omega) fun b hb => hH2 b fun j hj hbit e => ?_
        have hjlt : j < d.ops.length := kindlt (by rw [hj]; decide)
        have hjL : ¬ isL listed j := fun hLj => hnotL (preL hI.size hI.closed j hjlt (fun e he => hI.closed j hLj e he) i hbit)
        obtain ⟨u1, u2⟩ := hun j hjlt hjL
        subst e
        rcases hb with hb | hb
        · exact hb u1
        · exact u2 hb
      -- the operation
      unfold wpOp
      rw [ho]
      simp only
      rw [wanted_eq (o := o) hops rfl hI.arel.rel, ← c3]
      cases hw : wantedA d.ops aL x'.guard with
      | false =>
        simp only [Bool.false_eq_true, if_false]
        have hun := hD.unwanted (hgd.trans hw)
        rw [← c2]
        cases hkk : kindOf x'.op with
        | wr =>
          obtain ⟨hwk, rfl⟩ := nextw hkk
          obtain ⟨e1, v, H', H2, _, e2, _, e3, e4, e5⟩ := hD.wr hkk
          have hHF : H1 = F := by have := hI.heap; rw [e1] at this; cases this; rfl
          have hH' := e2 (hgd.trans hw)
          subst hH'; subst hHF
          refine ih _ _ _ r (kD + 1) H2 (put aL x'.dst aundef) ⟨hsize', hclosed', countw hkk, ?_, e3, behind hI.sim e4 hI.unborn e5, hI.step, by rw [e4]; exact hI.next, hI.arel.put rel_undef (by rw [c2]; exact c4), hframe' _ hun, hframe0' _, fun j hj hjl => hI.unborn j hj (unb' j hj hjl).1⟩ hleft'
          have := (List.getElem?_eq_some_iff.1 hwk).1; omega
        | rd =>
          exact ih _ _ _ r k F (put aL x'.dst aundef) ⟨hsize', hclosed', count' (by rw [hkk]; decide), hI.kle, hI.heap, hI.sim, hI.step, hI.next, hI.arel.put rel_undef (by rw [c2]; exact c4), hframe' _ hun, hframe0' _, fun j hj hjl => hI.unborn j hj (unb' j hj hjl).1⟩ hleft'
        | al =>
          exact ih _ _ _ r k F (put aL x'.dst aundef) ⟨hsize', hclosed', count' (by rw [hkk]; decide), hI.kle, hI.heap, hI.sim, hI.step, hI.next, hI.arel.put rel_undef (by rw [c2]; exact c4), hframe' _ hun, hframe0' _, fun j hj hjl => hI.unborn j hj (unb' j hj hjl).1⟩ hleft'
      | true =>
        simp only [if_true]
        refine .inl ?_
        cases hkk : kindOf x'.op with
        | rd =>
          have hval : ∃ v, rd x'.op aL F = some v ∧ ∀ t, x'.dst = some t → afin.get t = some v := by
            obtain ⟨v, hv1, hv2⟩ := hD.rd (hgd.trans hw) hkk
            cases hlo : looks x'.op with
            | false => exact ⟨v, ((rd_congr (H := F) hopnds).symm.trans (rd_blind hlo H1)).trans hv1, hv2⟩
            | true =>
              obtain ⟨lo, hh, h1, h2, h3⟩ := stage (by rw [hkk]; decide)
              unfold sameAt at h2
              rw [hkk, hlo] at h2
              simp only [cond_true] at h2
              rw [hgd2, hw] at h2
              simp only [cond_true] at h2
              cases hd : x'.dst with
              | none =>
                rw [hd] at h2
                have h4 := List.all_eq_true.1 h2 F h3
                rw [rd_congr hopnds2, Option.isSome_iff_exists] at h4
                obtain ⟨u, hu⟩ := h4
                exact ⟨u, hu, fun t ht => by cases ht⟩
              | some e =>
                rw [hd] at h2
                have h4 := List.all_eq_true.1 h2 F h3
                rw [rd_congr hopnds2] at h4
                split at h4
                · rename_i u u' hu hu'
                  have := beq_eq _ _ h4
                  subst this
                  exact ⟨u, hu, fun t ht => by cases ht; exact hu'⟩
                · cases h4
          obtain ⟨v, hv1, hv2⟩ := hval
          obtain ⟨v', h1, h2⟩ := rd_sound o c1 hkk hI.sim hI.arel.rel hv1
          unfold Oper.wp
          rw [h1]
          show wpAny P .any arr Q fuel _ (a'.put o.dst v') w
          rw [← c2]
          exact ih _ _ _ r k F (put aL x'.dst v) ⟨hsize', hclosed', count' (by rw [hkk]; decide), hI.kle, hI.heap, hI.sim, hI.step, hI.next, hI.arel.put h2 (by rw [c2]; exact c4), hframe' _ hv2, hframe0' _, fun j hj hjl => hI.unborn j hj (unb' j hj hjl).1⟩ hleft'
        | al =>
          obtain ⟨b, f, hb1, hb2⟩ := hD.al (hgd.trans hw) hkk
          rw [al_congr hopnds] at hb1
          have hblk : F.t.get (base + i) = some b := by
            obtain ⟨lo, hh, h1, h2, h3⟩ := stage (by rw [hkk]; decide)
            unfold sameAt at h2
            rw [hkk] at h2
            simp only at h2
            rw [hgd2, hw] at h2
            simp only [cond_true] at h2
            rw [al_congr hopnds2, hb1] at h2
            exact blkIs_eq (List.all_eq_true.1 h2 F h3)
          obtain ⟨obj, n, v', dd, h1, h2⟩ := al_sound (r := r) (w := w) o c1 hkk hI.arel.rel hb1
          obtain ⟨f1, f2⟩ := hI.unborn i hlt hnotL
          have hA := hI.sim.alloc f1 f2 (H' := F) (Nat.le_refl _) (by have := hI.next; omega) (fun _ _ => rfl) hblk (obj := obj) (n := n) dd (fun r' hle hm hsz => (h2 r' (base + i) hle hm hsz).1)
          have hrel := (h2 (r.add (base + i) w.heap.size n) (base + i) (Ren.add_le f1) (by simp [Ren.add]) (by simp [Ren.add])).2
          unfold Oper.wp
          rw [h1]
          show wpAny P .any arr Q fuel _ (a'.put o.dst v') _
          rw [← c2]
          refine ih _ _ _ (r.add (base + i) w.heap.size n) k F (put aL x'.dst (f (base + i))) ⟨hsize', hclosed', count' (by rw [hkk]; decide), hI.kle, hI.heap, hA, hI.step.trans (Step.alloc f1 (by omega) _ _ _), hI.next, (hI.arel.mono (Ren.add_le f1)).put hrel (by rw [c2]; exact c4), hframe' _ hb2, hframe0' _, fun j hj hjl => ?_⟩ hleft'
          obtain ⟨u1, u2⟩ := unb' j hj hjl
          obtain ⟨u3, u4⟩ := hI.unborn j hj u1
          exact ⟨by simp [Ren.add, u2, u3], u4⟩
        | wr =>
          obtain ⟨hwk, rfl⟩ := nextw hkk
          obtain ⟨e1, v, H', H2, e2, _, e2', e3, e4, e5⟩ := hD.wr hkk
          have hHF : H1 = F := by have := hI.heap; rw [e1] at this; cases this; rfl
          subst hHF
          have hwr := e2 (hgd.trans hw)
          rw [wr_congr hopnds] at hwr
          obtain ⟨hnx, hokk⟩ := op_sound hms hcall o c1 hI.sim hI.arel.rel hkk hwr
          refine hokk _ Q fun r' w' v' g1 g2 g3 => ?_
          have hun : ∀ j, j < d.ops.length → ¬ isL listed j → r'.m (base + j) = none ∧ ¬ r'.dead (base + j) := fun j hj hjl => by
            obtain ⟨u1, u2⟩ := hI.unborn j hj hjl
            exact g2.unborn (base + j) (by have := hI.next; omega) u1 u2
          rw [← c2]
          refine ih _ _ _ r' (kD + 1) H2 (put aL x'.dst v) ⟨hsize', hclosed', countw hkk, ?_, e3, behind g1 e4 hun e5, hI.step.trans (g2.weaken (by have := hI.next; omega)), by rw [e4]; have := hI.next; omega, (hI.arel.mono g2.le).put g3 (by rw [c2]; exact c4), hframe' _ (e2' (hgd.trans hw)), hframe0' _, fun j hj hjl => hun j hj (unb' j hj hjl).1⟩ hleft'
          have := (List.getElem?_eq_some_iff.1 hwk).1; omega

end
end Go.AE
end
-- Code: its translation, and that its run is the model's.
section
namespace Go.AE

def masksFrom : List (List Nat) → List Nat → List Nat
  | [], acc => acc
  | es :: rest, acc => masksFrom rest (acc ++ [es.foldl (fun m e => Nat.lor m (Nat.lor (Nat.pow 2 e) (get2 0 acc e))) 0])

def stages (ops : List AOper) (lo : Nat → Nat) (idx : List Nat) : List Nat → Nat → List Nat
  | [], k => idx.filter fun i => !(kindAt ops i == .wr) && Nat.beq (lo i) k
  | w :: ws, k => (idx.filter fun i => !(kindAt ops i == .wr) && Nat.beq (lo i) k) ++ w :: stages ops lo idx ws (Nat.succ k)

def mkDraw (es : List (List Nat)) (ops : List AOper) : ADraw :=
  let pre := masksFrom es []
  let idx := List.range ops.length
  let ws := idx.filter fun i => kindAt ops i == .wr
  let lo := fun i => (ws.filter fun w => Nat.testBit (get2 0 pre i) w).length
  let hi := fun i => (ws.takeWhile fun w => !(Nat.testBit (get2 0 pre w) i)).length
  { ops := ops, ord := stages ops lo idx ws 0, pre := pre, lohi := idx.map fun i => (lo i, hi i),
    war := idx.any fun i => (looksAt ops i).any fun t => idx.any fun j => (dstOf ops j == some t) && !(Nat.testBit (get2 0 pre i) j) }

def cRegion (P : Program) (N : Nat) (ops : Array Oper) (draw : Bool) : Option ACode :=
  match cOpers P N ops.toList with
  | none => none
  | some l =>
    match draw with
    | false => some (.region l)
    | true =>
      let es := ops.toList.map edgesOf
      let d := mkDraw es l
      bif okDraw es d then some (.draw d) else none

/-- what the machine does not do -/
def trap : ACode := .region [⟨none, .bad, none⟩]

def cCode (P : Program) (N : Nat) : Code → Option ACode
  | .skip => some .skip
  | .region _ ops draw => match cRegion P N ops draw with
    | some x => some x
    | none => some trap
  | .seq x y => match cCode P N x, cCode P N y with
    | some x, some y => some (.seq x y)
    | _, _ => none
  | .cond c x y => match cX c, cCode P N x, cCode P N y with
    | some c, some x, some y => some (.cond c x y)
    | _, _, _ => none
  | .block id x => match cCode P N x with
    | some x => some (.block id x)
    | none => none
  | .loop x => match cCode P N x with
    | some x => some (.loop x)
    | none => none
  | .exit id => some (.exit id)
  | .scope x => match cCode P N x with
    | some x => some (.seq .skip x)
    | none => none
  | .label _ => some .skip
  | .ret => some .ret
  | _ => some trap

def cRes (P : Program) : ResultVar → Option ARes
  | .tmp t => some (.tmp t)
  | .cell t ty => match aggP P ty, sizeP P ty with
    | some true, some n => some (.cellN t n)
    | some false, _ => some (.cell t)
    | _, _ => none

def cRess (P : Program) : List ResultVar → Option (List ARes)
  | [] => some []
  | x :: xs => match cRes P x, cRess P xs with
    | some y, some ys => some (y :: ys)
    | _, _ => none

def cFunc (P : Program) (fn : Func) : Option AFunc :=
  match fn.body with
  | none => none
  | some c => match cCode P fn.ntmps c, cRess P fn.results.toList with
    | some c, some rs => bif fn.name == "runtime.NumGoroutine" then none else some { code := c, results := rs }
    | _, _ => none

structure EnvOk (P : Program) (E : Env) : Prop where
  mixed : P.follows .mixedOrders = true
  sums : CallOk P E.sums
  ms : MethodsOk P E.ms
  funcs : ∀ f af, E.funcs f = some af → ∃ fn, P.funcs[f]? = some fn ∧ cFunc P fn = some af

def AExit.to : AExit → Exit
  | .normal => .normal
  | .exit id => .exit id
  | .ret => .ret

section
variable {P : Program} {E : Env} {B N : Nat}

/-- what is to be shown of a run of code -/
def Ends (B N : Nat) (P : Program) (c : Code) (r : Ren) (H : Heap) (w : World) (a' : Act) (x : AExit) (a2 : Frm) (H2 : Heap) : Prop :=
  H.next ≤ H2.next ∧ c.wp P (fun e a2' w' => ∃ r', e = x.to ∧ Sim B r' H2 w' ∧ Step B H.next r w r' w' ∧ ARel r' N a2 a2') a' w

theorem region_sound (hE : EnvOk P E) {call : CallF} (hcall : CallOk P call) {id : Nat} {ops : Array Oper} {l : List AOper} (hops : cOpers P N ops.toList = some l) {r : Ren} {H : Heap} {w : World} {a : Frm} {a' : Act} {a2 : Frm} {H2 : Heap}
    (h : runOps E.ms call l l a H = some (a2, H2)) (hS : Sim B r H w) (hA : ARel r N a a') : (H.next ≤ H2.next → Ends B N P (.region id ops false) r H w a' .normal a2 H2) := by
  intro hn
  refine ⟨hn, wp_region ?_⟩
  have hlen := (cOpers_get hops).1
  have := runOps_sound hE.ms hcall hops (Q := fun e a2' w' => ∃ r', e = AExit.normal.to ∧ Sim B r' H2 w' ∧ Step B H.next r w r' w' ∧ ARel r' N a2 a2') l.length 0 (by omega) r H w a a' a2 H2 (by simpa using h) hS hA
    (fun r' a2' w' g1 g2 g3 g4 => ⟨r', rfl, g1, g2, g4⟩)
  rw [show ops.size = l.length by rw [← hlen]; simp, List.range_eq_range']
  exact this

theorem store_next {H H' : Heap} {b o : Nat} {xs : List AV} (h : H.store b o xs = some H') : H'.next = H.next := by
  unfold Heap.store at h
  split at h
  · rename_i cs e op ro hb
    cases hro : (ro || !(xs.all AV.atom)) with
    | true => rw [hro] at h; cases h
    | false =>
      rw [hro] at h
      simp only [cond_false] at h
      split at h
      · cases h; rfl
      · cases h
  · cases h

abbrev NextOk (call : CallF) : Prop := ∀ f args H v H', call f args H = some (v, H') → H.next ≤ H'.next

theorem append_next {elem : TypeId} {size bytes : Nat} {H H' : Heap} {s x v : AV} (h : appendA elem size bytes H s x = some (v, H')) : H.next ≤ H'.next := by
  unfold appendA at h
  split at h
  · rename_i base len cap n hn
    cases h0 : Nat.beq n 0 with
    | true =>
      rw [h0] at h
      simp only [cond_true] at h
      split at h
      · rename_i c
        cases h1 : Nat.ble len c with
        | true => rw [h1] at h; cases h; exact Nat.le_refl _
        | false => rw [h1] at h; cases h
      · cases h; exact Nat.le_refl _
    | false =>
      rw [h0] at h
      simp only [cond_false] at h
      generalize hg : (!(Nat.ble ((len + n) * bytes) 140737488355328) || Nat.beq bytes 0 || Nat.beq size 0) = g at h
      cases g with
      | true => cases h
      | false =>
        simp only [cond_false] at h
        split at h
        · cases h
        · rename_i new hnew
          split at h
          · rename_i c
            cases h1 : Nat.ble (len + n) c with
            | true =>
              rw [h1] at h
              simp only [cond_true] at h
              split at h
              · split at h
                · rename_i H2 hst; cases h; rw [store_next hst]; exact Nat.le_refl _
                · cases h
              · cases h
            | false =>
              rw [h1] at h
              simp only [cond_false] at h
              split at h
              · rename_i old hold
                generalize hg2 : Nat.beq (old.length + new.length) ((len + n) * size) = g2 at h
                cases g2 with
                | true => cases h; simp [Heap.push]
                | false => cases h
              · cases h
          · rename_i s'
            split at h
            · rename_i b
              generalize hg3 : (Nat.beq s' size && new.all AV.atom) = g3 at h
              cases g3 with
              | false => cases h
              | true =>
                simp only [cond_true] at h
                split at h
                · rename_i cs e hb
                  split at h
                  · rename_i old hold
                    generalize hg4 : (!(Nat.beq (old.length + new.length) ((len + n) * size) && Nat.beq e elem)) = g4 at h
                    cases g4 with
                    | true => cases h
                    | false => cases h; simp
                  · cases h
                · cases h
            · cases h
  · cases h

theorem wr_next {ms : Methods} {call : CallF} (hcall : NextOk call) {op : AOp} {a : Frm} {H H' : Heap} {v : AV} (h : wr ms call op a H = some (v, H')) : H.next ≤ H'.next := by
  cases op with
  | store n p x =>
    simp only [wr] at h
    split at h
    · generalize Nat.beq (evalX a x).cells.length n = g at h
      cases g with
      | false => cases h
      | true =>
        simp only [cond_true] at h
        split at h
        · rename_i H2 hst; cases h; rw [store_next hst]; exact Nat.le_refl _
        · cases h
    · cases h
  | append e sz by' s x => exact append_next h
  | copy sz d s =>
    simp only [wr] at h
    split at h
    · split at h
      · cases h; exact Nat.le_refl _
      · split at h
        · split at h
          · rename_i H2 hst; cases h; rw [store_next hst]; exact Nat.le_refl _
          · cases h
        · cases h
      · cases h
    · cases h
  | mapUpdate kk m k x =>
    simp only [wr] at h
    split at h
    · split at h
      · generalize isKey kk (evalX a k) = g at h
        cases g with
        | false => cases h
        | true =>
          simp only [cond_true] at h
          split at h <;> first | (cases h; exact Nat.le_refl _) | cases h
      · cases h
    · cases h
  | delete kk m k =>
    simp only [wr] at h
    generalize isKey kk (evalX a k) = g at h
    split at h
    · cases g with
      | false => cases h
      | true => cases h; exact Nat.le_refl _
    · split at h
      · cases g with
        | false => cases h
        | true =>
          simp only [cond_true] at h
          split at h <;> first | (cases h; exact Nat.le_refl _) | cases h
      · cases h
    · cases h
  | call f axs =>
    simp only [wr] at h
    split at h
    · exact hcall _ _ _ _ _ h
    · cases h
  | callM rc n axs =>
    simp only [wr] at h
    split at h
    · split at h
      · exact hcall _ _ _ _ _ h
      · cases h
    · cases h
  | _ => simp [wr] at h

theorem step_next {ms : Methods} {call : CallF} (hcall : NextOk call) {op : AOp} {a : Frm} {H H' : Heap} {v : AV} (h : stepOp ms call op a H = some (v, H')) : H.next ≤ H'.next := by
  unfold stepOp at h
  split at h
  · split at h <;> cases h; exact Nat.le_refl _
  · split at h <;> cases h; simp [Heap.push]
  · exact wr_next hcall h

theorem runOps_next {ms : Methods} {call : CallF} (hcall : NextOk call) : ∀ (l all : List AOper) (a : Frm) (H : Heap) (a2 : Frm) (H2 : Heap), runOps ms call all l a H = some (a2, H2) → H.next ≤ H2.next
  | [], all, a, H, a2, H2, h => by simp only [runOps, Option.some.injEq, Prod.mk.injEq] at h; rw [h.2]; exact Nat.le_refl _
  | o :: os, all, a, H, a2, H2, h => by
    simp only [runOps] at h
    cases hw : wantedA all a o.guard with
    | true =>
      rw [hw] at h
      simp only [cond_true] at h
      split at h
      · rename_i v H' hst; exact Nat.le_trans (step_next hcall hst) (runOps_next hcall os all _ _ _ _ h)
      · cases h
    | false => rw [hw] at h; exact runOps_next hcall os all _ _ _ _ h

theorem runOrd_next {d : List AOper} {ms : Methods} {call : CallF} (hcall : NextOk call) {base : Nat} : ∀ (is : List Nat) (a : Frm) (H : Heap) (hs : List Heap) (afin : Frm) (hs' : List Heap), runOrd ms call d base is a H hs = some (afin, hs') →
    ∀ H2 t, hs' = H2 :: t → H.next ≤ H2.next
  | [], a, H, hs, afin, hs', h, H2, t, ht => by
    simp only [runOrd, Option.some.injEq, Prod.mk.injEq] at h
    rw [ht] at h
    rw [(List.cons.inj h.2).1]; exact Nat.le_refl _
  | i :: is, a, H, hs, afin, hs', h, H2, t, ht => by
    simp only [runOrd] at h
    split at h
    · cases h
    · rename_i x hx
      split at h
      · cases hw : wantedA d a x.guard with
        | true => rw [hw] at h; simp only [cond_true] at h; split at h
                  · exact runOrd_next hcall is _ _ _ _ _ h H2 t ht
                  · cases h
        | false => rw [hw] at h; exact runOrd_next hcall is _ _ _ _ _ h H2 t ht
      · cases hw : wantedA d a x.guard with
        | true => rw [hw] at h; simp only [cond_true] at h; split at h
                  · exact runOrd_next hcall is _ _ _ _ _ h H2 t ht
                  · cases h
        | false => rw [hw] at h; exact runOrd_next hcall is _ _ _ _ _ h H2 t ht
      · cases hw : wantedA d a x.guard with
        | true => rw [hw] at h; simp only [cond_true] at h; split at h
                  · rename_i v H' hwr
                    exact Nat.le_trans (wr_next hcall hwr) (runOrd_next hcall is _ _ _ _ _ h H2 t ht)
                  · cases h
        | false => rw [hw] at h; exact runOrd_next hcall is _ _ _ _ _ h H2 t ht

theorem CallOk.next {call : CallF} (h : CallOk P call) : NextOk call := fun f args H v H' hc => (h f args H v H' hc).2.1

/-- a statement that draws its order -/
theorem drawn_sound (hE : EnvOk P E) {call : CallF} (hcall : CallOk P call) {id : Nat} {ops : Array Oper} {d : ADraw} (hops : cOpers P N ops.toList = some d.ops) (hok : okDraw (ops.toList.map edgesOf) d = true)
    {r : Ren} {H : Heap} {w : World} {a : Frm} {a' : Act} {a2 : Frm} {H2 : Heap}
    (h : runDraw E.ms call d a H = some (a2, H2)) (hS : Sim B r H w) (hA : ARel r N a a') : Ends B N P (.region id ops true) r H w a' .normal a2 H2 := by
  unfold runDraw at h
  split at h
  · rename_i afin hs hrun
    generalize hst : stable d a afin H.next hs.reverse d.ops d.lohi 0 = g at h
    cases g with
    | false => cases h
    | true =>
      simp only [cond_true] at h
      split at h
      · rename_i H' t
        cases h
        have hnext := runOrd_next hcall.next d.ord _ _ _ _ _ hrun H2 t rfl
        refine ⟨by simp only at hnext; omega, wp_region_any hE.mixed ?_⟩
        obtain ⟨hpre, hord, hlen, hmem⟩ := mem_testBit_of hok
        have hsize : ops.size = d.ops.length := by rw [← (cOpers_get hops).1]; simp
        obtain ⟨_, hkeep, F, hF1, hF2, hF3⟩ := runOrd_keep d.ord none _ _ _ _ _ hrun hord
        have hfalse : ∀ i, ¬ isL (Array.replicate ops.size false) i := by
          intro i hi
          unfold isL at hi
          by_cases hlt : i < ops.size
          · simp [hlt] at hi
          · simp [hlt] at hi
        have hidlt : ∀ {b : Nat}, (r.m b ≠ none ∨ r.dead b) → b < H.next := by
          intro b hb
          rcases hb with hb | hb
          · cases hm : r.m b with
            | none => exact absurd hm hb
            | some c => exact (hS.live b c hm).1
          · exact (hS.dead b hb).1
        have hSF : Sim B r F { w with drawn := w.drawn + 1 } := by
          refine (hS.drawn _).sameHeap (by rw [hF2]; simp) fun b hb => ?_
          rw [hF3 b fun j _ _ _ e => by have := hidlt hb; omega]
        have hI : Inv B N (ops.toList.map edgesOf) d r w a a2 (H2 :: t) H.next (Array.replicate ops.size false) a' { w with drawn := w.drawn + 1 } r 0 F a := by
          refine ⟨by simp [hsize], fun i hi => absurd hi (hfalse i), fun m i _ => ⟨fun hi => absurd hi (hfalse i), fun hm => by omega⟩, Nat.zero_le _, by simpa using hF1, hSF, Step.drawn _ _ _ _ _, by rw [hF2]; exact Nat.le_refl _, hA, fun t ht => ?_, fun _ _ => rfl, fun i hi _ => ?_⟩
          · exact (hkeep t fun j hj e => hfalse j (ht j e)).symm
          · constructor
            · cases hm : r.m (H.next + i) with
              | none => rfl
              | some c => have := hidlt (b := H.next + i) (.inl (by rw [hm]; simp)); omega
            · intro hd; have := hidlt (b := H.next + i) (.inr hd); omega
        refine draw_sound (w0 := w) (r0 := r) hE.ms hcall hops hok hrun hst ?_ ops.size _ _ _ _ _ _ _ hI ?_
        · intro r' k F' aL a3 w3 listed hI' hall
          have hk : k = (writers d).length := by
            rcases Nat.lt_or_ge k (writers d).length with hlt | hge
            · exfalso
              have h1 := hI'.count k (writers d)[k] (by simp)
              have h2 : (writers d)[k] ∈ d.ord := (List.mem_filter.1 (List.getElem_mem hlt)).1
              have := h1.1 (hall _ ((hmem _).2 h2))
              omega
            · exact Nat.le_antisymm hI'.kle hge
          have hlenhs := runOrd_len d.ord _ _ _ _ _ hrun
          have hFF : F' = H2 := by
            have h1 := hI'.heap
            rw [hk] at h1
            have h2 : (H2 :: t).length = (writers d).length + 1 := by simpa [writers] using hlenhs
            rw [List.getElem?_reverse (by omega), show (H2 :: t).length - 1 - (writers d).length = 0 by omega] at h1
            simpa using h1.symm
          subst hFF
          refine ⟨r', rfl, hI'.sim, hI'.step, ⟨fun t => ?_, hI'.arel.size, hI'.arel.defers⟩⟩
          rw [← hI'.frame t fun j hj => hall j (by
            rcases Nat.lt_or_ge j d.ops.length with hlt | hge
            · exact hlt
            · simp [dstOf, List.getElem?_eq_none hge] at hj)]
          exact hI'.arel.rel t
        · unfold left
          rw [List.filter_eq_self.2 fun i _ => by
            have := hfalse i
            unfold isL at this
            simpa using this]
          simp [hsize]
      · cases h
  · cases h

end
end Go.AE
end
-- Code, calls: the abstract machine's run is the model's.
section
namespace Go.AE
section
variable {P : Program} {E : Env} {B N : Nat}

theorem Ends.mono_w {c : Code} {r : Ren} {H : Heap} {w : World} {a' : Act} {x : AExit} {a2 : Frm} {H2 : Heap} (h : Ends B N P c r H w a' x a2 H2) {Q : Exit → Act → World → Prop}
    (hQ : ∀ r' a2' w', Sim B r' H2 w' → Step B H.next r w r' w' → ARel r' N a2 a2' → Q x.to a2' w') : c.wp P Q a' w :=
  wp_mono h.2 fun e a2' w' ⟨r', he, g1, g2, g3⟩ => he ▸ hQ r' a2' w' g1 g2 g3

theorem unroll {c : Code} {Q : Exit → Act → World → Prop} {n : Nat} : ∀ {a : Act} {w : World}, Code.rounds P c Q n a w → (Code.loop c).wp P Q a w := fun h => wp_loop_rounds n h

/-- a result, as the model reads it -/
def resSem (tmps : Array Value) : ResultVar → Sem Value
  | .tmp t => pure (tmps.getD t undef)
  | .cell a t => do loadVar t (← asAddr (tmps.getD a undef))

theorem resOf_run {r : Ren} {H : Heap} {w : World} {a : Frm} {a' : Act} (hS : Sim B r H w) (hF : FRel r a a') {x : ResultVar} {y : ARes} (hc : cRes P x = some y) {v : AV} (h : resOf a H y = some v) :
    ∃ v', (resSem a'.tmps x).run P w = .ok v' w ∧ rel r v v' := by
  cases x with
  | tmp t =>
    simp only [cRes, Option.some.injEq] at hc
    subst hc
    simp only [resOf, Option.some.injEq] at h
    subst h
    exact ⟨_, rfl, hF t⟩
  | cell t ty =>
    simp only [cRes] at hc
    split at hc
    · rename_i n hg hn
      cases hc
      simp only [resOf] at h
      split at h
      · rename_i b o he
        split at h
        · rename_i l hl
          cases h
          have hr := hF t
          rw [he] at hr
          obtain ⟨b', hv, ha⟩ := rel_ptr hr
          obtain ⟨vs, h1, h2⟩ := hS.loadCells (P := P) ha hl
          refine ⟨.agg vs.toArray, ?_, by simp only [rel]; exact ⟨_, rfl, h1⟩⟩
          have hv' : a'.tmps.getD t undef = .pointer (some ⟨b', o, none⟩) := hv
          simp only [resSem, hv', asAddr, Sem.run_bind, Sem.run_pure, Result.andThen_ok, loadVar, run_isAgg hg, if_true, run_sizeOf hn, h2]
        · cases h
      · cases h
    · rename_i hg
      cases hc
      simp only [resOf] at h
      split at h
      · rename_i b o he
        have hr := hF t
        rw [he] at hr
        obtain ⟨b', hv, ha⟩ := rel_ptr hr
        unfold Heap.load at h
        split at h
        · rename_i cs hcs
          obtain ⟨v', h1, h2⟩ := hS.cell ha hcs h
          refine ⟨v', ?_, h2⟩
          have hv' : a'.tmps.getD t undef = .pointer (some ⟨b', o, none⟩) := hv
          simp only [resSem, hv', asAddr, Sem.run_bind, Sem.run_pure, Result.andThen_ok, loadVar, run_isAgg hg, Bool.false_eq_true, if_false, run_load_cell h1]
        · cases h
      · cases h
    · cases hc

theorem resultsOf_run {r : Ren} {H : Heap} {w : World} {a : Frm} {a' : Act} (hS : Sim B r H w) (hF : FRel r a a') : ∀ {xs : List ResultVar} {ys : List ARes} {vs : List AV}, cRess P xs = some ys → resultsOf a H ys = some vs →
    ∃ vs' : List Value, (xs.mapM (resSem a'.tmps)).run P w = .ok vs' w ∧ rels r vs vs'
  | [], ys, vs, hc, h => by
    simp only [cRess, Option.some.injEq] at hc
    subst hc
    simp only [resultsOf, Option.some.injEq] at h
    subst h
    exact ⟨[], rfl, rels_nil⟩
  | x :: xs, ys, vs, hc, h => by
    simp only [cRess] at hc
    split at hc
    · rename_i y zs h1 h2
      cases hc
      simp only [resultsOf] at h
      split at h
      · rename_i v hv
        split at h
        · rename_i us hus
          cases h
          obtain ⟨v', g1, g2⟩ := resOf_run (P := P) hS hF h1 hv
          obtain ⟨vs', g3, g4⟩ := resultsOf_run hS hF h2 hus
          refine ⟨v' :: vs', ?_, rels_cons g2 g4⟩
          rw [List.mapM_cons]
          simp only [Sem.run_bind, Sem.run_pure]
          rw [g1]
          simp only [Result.andThen_ok]
          rw [g3]
          rfl
        · cases h
      · cases h
    · cases hc

theorem results_run {r : Ren} {H : Heap} {w : World} {a : Frm} {a' : Act} (hS : Sim B r H w) (hF : FRel r a a') {fn : Func} {ys : List ARes} {vs : List AV} (hc : cRess P fn.results.toList = some ys) (h : resultsOf a H ys = some vs) :
    ∃ v', (results fn a'.tmps).run P w = .ok v' w ∧ rel r (oneOf vs) v' := by
  obtain ⟨vs', h1, h2⟩ := resultsOf_run hS hF hc h
  have hm : (fn.results.mapM (resSem a'.tmps)).run P w = .ok vs'.toArray w := by
    rw [Array.mapM_eq_mapM_toList, Sem.run_map]
    rw [h1]; rfl
  have he : results fn a'.tmps = (do
      let vs ← fn.results.mapM (resSem a'.tmps)
      pure (if h : vs.size = 1 then vs[0] else .tuple vs)) := by
    unfold results
    have : (fun (x : ResultVar) => (match x with | .tmp t => pure (a'.tmps.getD t undef) | .cell a t => do loadVar t (← asAddr (a'.tmps.getD a undef)) : Sem Value)) = resSem a'.tmps := by
      funext x; cases x <;> rfl
    rw [← this]; rfl
  rw [he, Sem.run_bind, hm]
  simp only [Result.andThen_ok, Sem.run_pure]
  refine ⟨_, rfl, ?_⟩
  have hlen := rels_length h2
  cases vs with
  | nil =>
    cases vs' with
    | nil => simp only [oneOf]; rw [dif_neg (by simp)]; simp only [rel]; exact ⟨_, rfl, rels_nil⟩
    | cons _ _ => simp at hlen
  | cons v vs =>
    cases vs' with
    | nil => simp at hlen
    | cons v' vs' =>
      cases vs with
      | nil =>
        cases vs' with
        | nil => simp only [oneOf]; rw [dif_pos (by simp)]; exact (rels_cons_iff.1 h2).1
        | cons _ _ => simp at hlen
      | cons u vs =>
        cases vs' with
        | nil => simp at hlen
        | cons u' vs' =>
          simp only [oneOf]; rw [dif_neg (by simp)]; simp only [rel]; exact ⟨_, rfl, h2⟩

theorem frameOf_get : ∀ (args : List AV) (i : Nat) (a : Frm) (t : Nat), (frameOf args i a).get t = if i ≤ t ∧ t < i + args.length then args[t - i]? else a.get t
  | [], i, a, t => by simp [frameOf]; omega
  | v :: vs, i, a, t => by
    simp only [frameOf]
    rw [frameOf_get vs (Nat.succ i) _ t]
    by_cases h1 : Nat.succ i ≤ t ∧ t < Nat.succ i + vs.length
    · rw [if_pos h1, if_pos ⟨by omega, by simp only [List.length_cons]; omega⟩, show t - i = (t - Nat.succ i) + 1 by omega, List.getElem?_cons_succ]
    · rw [if_neg h1, T.get_set]
      by_cases h2 : i = t
      · subst h2; rw [if_pos rfl, if_pos ⟨Nat.le_refl _, by simp⟩]; simp
      · rw [if_neg h2, if_neg (by simp only [List.length_cons]; omega)]

theorem enter_rel {r : Ren} {args : List AV} {args' : Array Value} (h : rels r args args'.toList) (n : Nat) : ARel r n (frameOf args 0 .nil) { tmps := args' ++ Array.replicate (n - args'.size) undef, defers := [] } where
  rel := fun t => by
    have hlen := rels_length h
    simp only [Array.length_toList] at hlen
    rw [frameOf_get]
    by_cases ht : t < args.length
    · rw [if_pos ⟨Nat.zero_le _, by omega⟩, Nat.sub_zero]
      have hx : args[t]? = some args[t] := by simp
      obtain ⟨y, hy, hr⟩ := rels_get h t _ hx
      have hy' : args'[t]? = some y := by simpa using hy
      rw [hx]
      simp only [Option.getD_some]
      have : (args' ++ Array.replicate (n - args'.size) undef).getD t undef = y := by
        have h1 : (args' ++ Array.replicate (n - args'.size) undef)[t]? = some y := by
          rw [Array.getElem?_append_left (by omega), hy']
        simp [Array.getD_eq_getD_getElem?, h1]
      rw [this]; exact hr
    · rw [if_neg (by omega)]
      have : (args' ++ Array.replicate (n - args'.size) undef).getD t undef = undef := by
        rw [Array.getD_eq_getD_getElem?, Array.getElem?_append_right (by omega), Array.getElem?_replicate]
        split <;> rfl
      rw [this]
      simp only [T.get_nil, Option.getD_none]
      exact rel_undef
  size := by simp; omega
  defers := rfl

/-- the run of code at n is the model's -/
def ExecOk (P : Program) (E : Env) (n : Nat) : Prop :=
  ∀ (B N : Nat) (c : Code) (ac : ACode), cCode P N c = some ac → ∀ (r : Ren) (H : Heap) (w : World) (a : Frm) (a' : Act) (x : AExit) (a2 : Frm) (H2 : Heap), exec E n ac a H = some (x, a2, H2) → Sim B r H w → ARel r N a a' → Ends B N P c r H w a' x a2 H2

theorem call_sound (hE : EnvOk P E) {n : Nat} (hn : ExecOk P E n) (hnext : ∀ ac a H x a2 H2, exec E n ac a H = some (x, a2, H2) → H.next ≤ H2.next) : CallOk P (acall E n) := by
  intro f args H v H' h
  unfold acall at h
  split at h
  · rename_i res hs
    cases h
    exact hE.sums f args H v H' hs
  · split at h
    · cases h
    · rename_i af haf
      obtain ⟨fn, hfn, hcf⟩ := hE.funcs f af haf
      unfold cFunc at hcf
      split at hcf
      · cases hcf
      · rename_i body hbody
        split at hcf
        · rename_i ac rs hac hrs
          cases hname : (fn.name == "runtime.NumGoroutine") with
          | true => rw [hname] at hcf; cases hcf
          | false =>
            rw [hname] at hcf
            simp only [cond_false, Option.some.injEq] at hcf
            subst hcf
            simp only at h
            have key : ∀ (x : AExit) (a2 : Frm) (H2 : Heap) (vs : List AV), (x = .normal ∨ x = .ret) → exec E n ac (frameOf args 0 .nil) H = some (x, a2, H2) → resultsOf a2 H2 rs = some vs → v = oneOf vs → H' = H2 →
                (∃ fn, P.funcs[f]? = some fn ∧ (fn.name == "runtime.NumGoroutine") = false ∧ fn.body.isNone = false) ∧ H.next ≤ H'.next ∧
                ∀ (B : Nat) (r : Ren) (w : World) (args' : Array Value), Sim B r H w → rels r args args'.toList →
                  Calls P f args' w fun e w' => ∃ r' v', e = .returned v' ∧ Sim B r' H' w' ∧ Step B H.next r w r' w' ∧ rel r' v v' := by
              rintro x a2 H2 vs hx hex hres rfl rfl
              refine ⟨⟨fn, hfn, hname, by rw [hbody]; rfl⟩, hnext _ _ _ _ _ _ hex, fun B r w args' hS hr => ?_⟩
              refine calls_of_wp hfn hbody ?_
              have hend := hn B fn.ntmps body ac hac r H w _ _ x a2 H' hex hS (enter_rel hr fn.ntmps)
              refine hend.mono_w fun r' a2' w' g1 g2 g3 => ?_
              obtain ⟨v', h1, h2⟩ := results_run g1 g3.rel hrs hres
              rcases hx with rfl | rfl
              · exact ⟨g3.defers, v', h1, r', v', rfl, g1, g2, h2⟩
              · exact ⟨g3.defers, v', h1, r', v', rfl, g1, g2, h2⟩
            split at h
            · rename_i a2 H2 hex
              split at h
              · rename_i vs hvs
                cases h
                exact key .normal a2 H' vs (.inl rfl) hex hvs rfl rfl
              · cases h
            · rename_i a2 H2 hex
              split at h
              · rename_i vs hvs
                cases h
                exact key .ret a2 H' vs (.inr rfl) hex hvs rfl rfl
              · cases h
            · cases h
        · cases hcf

theorem exec_succ (E : Env) (n : Nat) (c : ACode) (a : Frm) (H : Heap) : exec E (n + 1) c a H = (match c with
    | .skip => some (.normal, a, H)
    | .ret => some (.ret, a, H)
    | .exit id => some (.exit id, a, H)
    | .seq x y => match exec E n x a H with
      | some (.normal, a', H') => exec E n y a' H'
      | r => r
    | .cond c x y => match evalX a c with
      | .bool b => bif b then exec E n x a H else exec E n y a H
      | _ => none
    | .block id x => match exec E n x a H with
      | some (.exit id', a', H') => some (bif Nat.beq id' id then .normal else .exit id', a', H')
      | r => r
    | .loop x => match exec E n x a H with
      | some (.normal, a', H') => exec E n (.loop x) a' H'
      | r => r
    | .region ops => match runOps E.ms (acall E n) ops ops a H with
      | some (a', H') => some (.normal, a', H')
      | none => none
    | .draw d => match runDraw E.ms (acall E n) d a H with
      | some (a', H') => some (.normal, a', H')
      | none => none) := by
  cases c <;> rfl

theorem next_ok (hE : EnvOk P E) : ∀ n, (∀ ac a H x a2 H2, exec E n ac a H = some (x, a2, H2) → H.next ≤ H2.next) ∧ NextOk (acall E n) := by
  intro n
  have callnext : ∀ n, (∀ ac a H x a2 H2, exec E n ac a H = some (x, a2, H2) → H.next ≤ H2.next) → NextOk (acall E n) := by
    intro n hn f args H v H' h
    unfold acall at h
    split at h
    · rename_i res hs; cases h; exact hE.sums.next f args H v H' hs
    · split at h
      · cases h
      · split at h
        · rename_i hex; split at h
          · cases h; exact hn _ _ _ _ _ _ hex
          · cases h
        · rename_i hex; split at h
          · cases h; exact hn _ _ _ _ _ _ hex
          · cases h
        · cases h
  induction n with
  | zero =>
    have h0 : ∀ ac a H x a2 H2, exec E 0 ac a H = some (x, a2, H2) → H.next ≤ H2.next := fun ac a H x a2 H2 h => by simp [exec] at h
    exact ⟨h0, callnext 0 h0⟩
  | succ n ih =>
    have h1 : ∀ ac a H x a2 H2, exec E (n + 1) ac a H = some (x, a2, H2) → H.next ≤ H2.next := by
      intro ac a H x a2 H2 h
      rw [exec_succ] at h
      cases ac with
      | skip => cases h; exact Nat.le_refl _
      | ret => cases h; exact Nat.le_refl _
      | exit id => cases h; exact Nat.le_refl _
      | seq y z =>
        simp only at h
        split at h
        · rename_i a1 H1 hy; exact Nat.le_trans (ih.1 _ _ _ _ _ _ hy) (ih.1 _ _ _ _ _ _ h)
        · exact ih.1 _ _ _ _ _ _ h
      | cond c y z =>
        simp only at h
        split at h
        · rename_i b _; cases b
          · exact ih.1 _ _ _ _ _ _ h
          · exact ih.1 _ _ _ _ _ _ h
        · cases h
      | block id y =>
        simp only at h
        split at h
        · rename_i hy; cases h; exact ih.1 _ _ _ _ _ _ hy
        · exact ih.1 _ _ _ _ _ _ h
      | loop y =>
        simp only at h
        split at h
        · rename_i a1 H1 hy; exact Nat.le_trans (ih.1 _ _ _ _ _ _ hy) (ih.1 _ _ _ _ _ _ h)
        · exact ih.1 _ _ _ _ _ _ h
      | region ops =>
        simp only at h
        split at h
        · rename_i hy; cases h; exact runOps_next ih.2 _ _ _ _ _ _ hy
        · cases h
      | draw d =>
        simp only at h
        split at h
        · rename_i a1 H1 hy
          cases h
          unfold runDraw at hy
          split at hy
          · rename_i afin hs hrun
            generalize stable d a afin H.next hs.reverse d.ops d.lohi 0 = g at hy
            cases g with
            | false => cases hy
            | true =>
              simp only [cond_true] at hy
              split at hy
              · rename_i H' t
                cases hy
                have := runOrd_next ih.2 d.ord _ _ _ _ _ hrun H2 t rfl
                simp only at this; omega
              · cases hy
          · cases hy
        · cases h
    exact ⟨h1, callnext _ h1⟩

theorem exec_sound (hE : EnvOk P E) : ∀ n, ExecOk P E n := by
  intro n
  induction n using Nat.strongRecOn with
  | _ n ihs =>
  cases n with
  | zero => intro B N c ac hc r H w a a' x a2 H2 h; simp [exec] at h
  | succ n =>
    have ih : ExecOk P E n := ihs n (Nat.lt_succ_self n)
    have hnextn := (next_ok hE n).1
    have hcall := call_sound hE ih hnextn
    intro B N c ac hc r H w a a' x a2 H2 h hS hA
    have hnext := (next_ok hE (n + 1)).1 _ _ _ _ _ _ h
    rw [exec_succ] at h
    cases c with
    | skip => simp only [cCode, Option.some.injEq] at hc; subst hc; cases h; exact ⟨hnext, wp_skip ⟨r, rfl, hS, Step.refl _ _ _ _, hA⟩⟩
    | ret => simp only [cCode, Option.some.injEq] at hc; subst hc; cases h; exact ⟨hnext, wp_ret ⟨r, rfl, hS, Step.refl _ _ _ _, hA⟩⟩
    | exit id => simp only [cCode, Option.some.injEq] at hc; subst hc; cases h; exact ⟨hnext, wp_exit ⟨r, rfl, hS, Step.refl _ _ _ _, hA⟩⟩
    | region id ops draw =>
      simp only [cCode] at hc
      split at hc
      rotate_left
      · cases hc
        exact nomatch h
      rename_i hc0
      cases hc
      have hc := hc0
      clear hc0
      simp only [cRegion] at hc
      split at hc
      · cases hc
      · rename_i l hl
        cases draw with
        | false =>
          simp only [Option.some.injEq] at hc
          subst hc
          simp only at h
          split at h
          · rename_i a1 H1 hy; cases h
            exact region_sound hE hcall hl hy hS hA hnext
          · cases h
        | true =>
          simp only at hc
          generalize hok : okDraw (ops.toList.map edgesOf) (mkDraw (ops.toList.map edgesOf) l) = g at hc
          cases g with
          | false => cases hc
          | true =>
            simp only [cond_true, Option.some.injEq] at hc
            subst hc
            simp only at h
            split at h
            · rename_i a1 H1 hy; cases h
              exact drawn_sound hE hcall (d := mkDraw (ops.toList.map edgesOf) l) hl hok hy hS hA
            · cases h
    | seq y z =>
      simp only [cCode] at hc
      split at hc
      · rename_i y' z' hy hz
        cases hc
        refine ⟨hnext, wp_seq ?_⟩
        simp only at h
        split at h
        · rename_i a1 H1 hex
          have he := ih B N y y' hy r H w a a' _ _ _ hex hS hA
          refine he.mono_w fun r' a1' w' g1 g2 g3 => ?_
          have he2 := ih B N z z' hz r' H1 w' _ _ _ _ _ h g1 g3
          refine he2.mono_w fun r'' a2' w'' k1 k2 k3 => ?_
          exact ⟨r'', rfl, k1, g2.trans (k2.weaken he.1), k3⟩
        · rename_i hno
          have hx : x ≠ .normal := fun e => hno _ _ (by rw [h, e])
          have he := ih B N y y' hy r H w a a' _ _ _ h hS hA
          refine he.mono_w fun r' a1' w' g1 g2 g3 => ?_
          cases x with
          | normal => exact absurd rfl hx
          | exit id => exact ⟨r', rfl, g1, g2, g3⟩
          | ret => exact ⟨r', rfl, g1, g2, g3⟩
      · cases hc
    | cond co y z =>
      simp only [cCode] at hc
      split at hc
      · rename_i c' y' z' hco hy hz
        cases hc
        refine ⟨hnext, ?_⟩
        simp only at h
        split at h
        · rename_i b hb
          have hr := cX_rel hA.rel hco
          rw [hb] at hr
          simp only [rel] at hr
          cases b with
          | true => exact wp_cond_true hr (ih B N y y' hy r H w a a' _ _ _ h hS hA).2
          | false => exact wp_cond_false hr (ih B N z z' hz r H w a a' _ _ _ h hS hA).2
        · cases h
      · cases hc
    | block id y =>
      simp only [cCode] at hc
      split at hc
      · rename_i y' hy
        cases hc
        refine ⟨hnext, wp_block ?_⟩
        simp only at h
        split at h
        · rename_i id' a1 H1 hex
          cases h
          have he := ih B N y y' hy r H w a a' _ _ _ hex hS hA
          refine he.mono_w fun r' a1' w' g1 g2 g3 => ?_
          simp only [AExit.to, Exit.inBlock, natbeq]
          by_cases hid : id' = id
          · simp only [hid, if_true, decide_true, cond_true]; exact ⟨r', trivial, g1, g2, g3⟩
          · simp only [hid, if_false, decide_false, cond_false]; exact ⟨r', trivial, g1, g2, g3⟩
        · rename_i hno
          have he := ih B N y y' hy r H w a a' _ _ _ h hS hA
          refine he.mono_w fun r' a1' w' g1 g2 g3 => ?_
          cases x with
          | normal => exact ⟨r', rfl, g1, g2, g3⟩
          | exit id' => exact absurd h (fun h => hno _ _ _ h)
          | ret => exact ⟨r', rfl, g1, g2, g3⟩
      · cases hc
    | loop y =>
      simp only [cCode] at hc
      split at hc
      · rename_i y' hy
        cases hc
        refine ⟨hnext, ?_⟩
        -- so many rounds
        have key : ∀ m, m ≤ n + 1 → ∀ (r1 : Ren) (H1 : Heap) (w1 : World) (a1 : Frm) (a1' : Act), exec E m (.loop y') a1 H1 = some (x, a2, H2) → Sim B r1 H1 w1 → ARel r1 N a1 a1' → Step B H.next r w r1 w1 → H.next ≤ H1.next →
            Code.rounds P y (fun e a2' w' => ∃ r', e = x.to ∧ Sim B r' H2 w' ∧ Step B H.next r w r' w' ∧ ARel r' N a2 a2') m a1' w1 := by
          intro m
          induction m with
          | zero => intro _ r1 H1 w1 a1 a1' hex; simp [exec] at hex
          | succ m ihm =>
            intro hm r1 H1 w1 a1 a1' hex hS1 hA1 hst1 hn1
            rw [rounds_succ]
            rw [exec_succ] at hex
            simp only at hex
            have ihm' : ExecOk P E m := ihs m (by omega)
            split at hex
            · rename_i a3 H3 hy3
              have he := ihm' B N y y' hy r1 H1 w1 a1 a1' _ _ _ hy3 hS1 hA1
              refine he.mono_w fun r' a3' w' g1 g2 g3 => ?_
              simp only [AExit.to, Exit.then]
              exact ihm (by omega) r' H3 w' a3 a3' hex g1 g3 (hst1.trans (g2.weaken hn1)) (Nat.le_trans hn1 he.1)
            · rename_i hno
              have he := ihm' B N y y' hy r1 H1 w1 a1 a1' _ _ _ hex hS1 hA1
              refine he.mono_w fun r' a3' w' g1 g2 g3 => ?_
              cases x with
              | normal => exact absurd hex (fun h => hno _ _ h)
              | exit id' => exact ⟨r', rfl, g1, hst1.trans (g2.weaken hn1), g3⟩
              | ret => exact ⟨r', rfl, g1, hst1.trans (g2.weaken hn1), g3⟩
        exact unroll (key (n + 1) (Nat.le_refl _) r H w a a' (by rw [exec_succ]; exact h) hS hA (Step.refl _ _ _ _) (Nat.le_refl _))
      · cases hc
    | label l => simp only [cCode, Option.some.injEq] at hc; subst hc; cases h; exact ⟨hnext, wp_label ⟨r, rfl, hS, Step.refl _ _ _ _, hA⟩⟩
    | scope y =>
      simp only [cCode] at hc
      split at hc
      · rename_i y' hy
        cases hc
        refine ⟨hnext, wp_scope_straight ?_⟩
        simp only at h
        cases n with
        | zero => simp [exec] at h
        | succ m =>
          rw [exec_succ] at h
          simp only at h
          have he := ih B N y y' hy r H w a a' _ _ _ h hS hA
          refine he.mono_w fun r' a1' w' g1 g2 g3 => ?_
          cases x with
          | normal => exact ⟨r', rfl, g1, g2, g3⟩
          | exit id' => exact ⟨r', rfl, g1, g2, g3⟩
          | ret => exact ⟨r', rfl, g1, g2, g3⟩
      · cases hc
    | _ =>
      simp only [cCode, Option.some.injEq] at hc
      subst hc
      exact nomatch h

end

/-- each entry of a tree -/
def Each {α : Type} : T α → (Nat → Nat) → (Nat → α → Prop) → Prop
  | .nil, _, _ => True
  | .node l v r, ix, p => (∀ x, v = some x → p (ix 0) x) ∧ Each l (fun j => ix (2 * j + 1)) p ∧ Each r (fun j => ix (2 * j + 2)) p

theorem Each.nil {α : Type} {ix : Nat → Nat} {p : Nat → α → Prop} : Each .nil ix p := True.intro
theorem Each.node {α : Type} {l r : T α} {v : Option α} {ix : Nat → Nat} {p : Nat → α → Prop} (h1 : ∀ x, v = some x → p (ix 0) x) (h2 : Each l (fun j => ix (2 * j + 1)) p) (h3 : Each r (fun j => ix (2 * j + 2)) p) : Each (.node l v r) ix p := ⟨h1, h2, h3⟩

theorem Each.get {α : Type} {p : Nat → α → Prop} : ∀ {t : T α} {ix : Nat → Nat}, Each t ix p → ∀ (i : Nat) (x : α), t.get i = some x → p (ix i) x
  | .nil, _, _, i, x, h => by simp [T.get_nil] at h
  | .node l v r, ix, ⟨h1, h2, h3⟩, i, x, h => by
    cases i with
    | zero => exact h1 x h
    | succ i =>
      simp only [T.get] at h
      cases hb : Nat.beq (Nat.mod i 2) 0 with
      | true =>
        rw [hb] at h
        have := h2.get _ x h
        have e : 2 * (Nat.div i 2) + 1 = i + 1 := by
          rw [natbeq, decide_eq_true_eq] at hb
          have h1 : i % 2 = 0 := hb
          show 2 * (i / 2) + 1 = i + 1; omega
        rwa [e] at this
      | false =>
        rw [hb] at h
        have := h3.get _ x h
        have e : 2 * (Nat.div i 2) + 2 = i + 1 := by
          rw [natbeq, decide_eq_false_iff_not] at hb
          have h1 : ¬ i % 2 = 0 := hb
          show 2 * (i / 2) + 2 = i + 1; omega
        rwa [e] at this

end Go.AE
end
