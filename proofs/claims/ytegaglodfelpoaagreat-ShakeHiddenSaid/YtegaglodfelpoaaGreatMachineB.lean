/- Operations that leave the heap alone: each is the model's (the rest). -/
import Derived.Test.YtegaglodfelpoaaGreatMachineA
import Derived.Laws.BytesString
import Derived.Laws.AppendOwn
set_option linter.unusedVariables false
set_option linter.unusedSimpArgs false
section
namespace Go.AE
section
variable {B : Nat} {r : Ren} {H : Heap} {w : World} {P : Program} {a : Frm} {a' : Act}

theorem rel_ptr {b o : Nat} {v : Value} (h : rel r (.ptr (some (b, o))) v) : ∃ b', v = .pointer (some ⟨b', o, none⟩) ∧ r.at b b' := by simpa only [rel] using h
theorem rel_agg {cs : List AV} {v : Value} (h : rel r (.agg cs) v) : ∃ cs', v = .agg cs' ∧ rels r cs cs'.toList := by simpa only [rel] using h

theorem rd_move {x : Operand} {op : AOp} {v : AV} (o : Oper) (ho : o.op = .move x ∨ o.op = .assign x) (hc : cOp P o.op = some op) (hF : FRel r a a') (h : rd op a H = some v) : RdOk P r w a' o v := by
  unfold RdOk execOp
  rcases ho with ho | ho <;>
  · rw [ho] at hc ⊢
    simp only [cOp] at hc
    split at hc
    · rename_i y hx; cases hc
      simp only [rd, Option.some.injEq] at h
      subst h
      exact ⟨_, rfl, cX_rel hF hx⟩
    · cases hc

theorem rd_pick {c x y : Operand} {op : AOp} {v : AV} (o : Oper) (ho : o.op = .pick c x y) (hc : cOp P (.pick c x y) = some op) (hF : FRel r a a') (h : rd op a H = some v) : RdOk P r w a' o v := by
  simp only [cOp] at hc
  unfold RdOk execOp
  rw [ho]
  split at hc
  · rename_i c' x' y' h1 h2 h3; cases hc
    simp only [rd] at h
    split at h
    · rename_i b hb
      have hcr := cX_rel hF h1
      rw [hb] at hcr; simp only [rel] at hcr
      simp only [Option.some.injEq] at h
      cases b
      · subst h; exact ⟨_, by simp [hcr, asBool], cX_rel hF h3⟩
      · subst h; exact ⟨_, by simp [hcr, asBool], cX_rel hF h2⟩
    · cases h
  · cases hc

theorem rd_nilCheck {x : Operand} {op : AOp} {v : AV} (o : Oper) (ho : o.op = .nilCheck x) (hc : cOp P (.nilCheck x) = some op) (hF : FRel r a a') (h : rd op a H = some v) : RdOk P r w a' o v := by
  simp only [cOp] at hc
  unfold RdOk execOp
  rw [ho]
  split at hc
  · rename_i y hx; cases hc
    have hr := cX_rel hF hx
    simp only [rd] at h
    split at h <;> cases h
    · rename_i p hp
      obtain ⟨b, q⟩ := p
      rw [hp] at hr
      obtain ⟨b', h1, h2⟩ := rel_ptr hr
      exact ⟨_, by simp [h1], hr⟩
    · rename_i t z hp
      rw [hp] at hr
      have hr' := hr
      simp only [rel] at hr
      obtain ⟨x', h1, h2⟩ := hr
      exact ⟨_, by simp [h1], hr'⟩
    · rename_i f z1 z2 hp
      rw [hp] at hr
      have hr' := hr
      simp only [rel] at hr
      obtain ⟨_, _, h1, _⟩ := hr
      exact ⟨_, by simp [h1], hr'⟩
  · cases hc

theorem rd_un {uop : UnOp} {t : TypeId} {x : Operand} {op : AOp} {v : AV} (o : Oper) (ho : o.op = .unOp uop t x) (hc : cOp P (.unOp uop t x) = some op) (hF : FRel r a a') (h : rd op a H = some v) : RdOk P r w a' o v := by
  simp only [cOp] at hc
  unfold RdOk execOp
  rw [ho]
  split at hc
  · rename_i y hx; cases hc
    have hr := cX_rel hF hx
    simp only [rd, unop] at h
    split at h
    · rename_i k n he
      rw [he] at hr; simp only [rel] at hr
      split at h
      · cases h; exact ⟨_, by simp only [hr, Op.unary]; exact value_run rfl, by simp [rel, wrapK_eq]⟩
      · split at h <;> cases h
        rename_i m hm
        exact ⟨_, by simp only [hr, Op.unary]; exact value_run (intBits_run hm), by simp [rel]⟩
      · cases h
    · rename_i b he
      rw [he] at hr; simp only [rel] at hr
      split at h <;> cases h
      exact ⟨_, by simp only [hr, Op.unary]; exact value_run rfl, by simp [rel]⟩
    · cases h
  · cases hc

theorem bytes_ints : ∀ {cs : List AV} {s : List UInt8} {vs : List Value}, bytesOf cs = some s → rels r cs vs →
    ∃ ns : List Int, vs = ns.map (Value.int .u8) ∧ s = ns.map fun n => UInt8.ofNat n.toNat
  | [], s, vs, h, hr => by
    simp only [bytesOf, Option.some.injEq] at h
    subst h
    simp only [rels] at hr
    subst hr
    exact ⟨[], rfl, rfl⟩
  | x :: cs, s, vs, h, hr => by
    unfold bytesOf at h
    split at h
    · rename_i e; cases e
    · rename_i n l e
      obtain ⟨rfl, rfl⟩ := List.cons.inj e
      split at h
      · rename_i s' hs
        cases h
        simp only [rels] at hr
        obtain ⟨y, ys, rfl, h1, h2⟩ := hr
        simp only [rel] at h1
        subst h1
        obtain ⟨ns, rfl, rfl⟩ := bytes_ints hs h2
        exact ⟨n :: ns, rfl, rfl⟩
      · cases h
    · cases h

theorem foldl_push (ns : List Int) : ∀ acc : ByteArray, ns.foldl (fun r n => r.push (UInt8.ofNat n.toNat)) acc = ⟨⟨acc.data.toList ++ ns.map fun n => UInt8.ofNat n.toNat⟩⟩ := by
  induction ns with
  | nil => intro acc; simp
  | cons n ns ih => intro acc; simp only [List.foldl_cons, ih]; simp

theorem rd_convert {s d : TypeId} {x : Operand} {op : AOp} {v : AV} (o : Oper) (ho : o.op = .convert s d x) (hc : cOp P (.convert s d x) = some op) (hk : kindOf op = .rd) (hS : Sim B r H w) (hF : FRel r a a') (h : rd op a H = some v) : RdOk P r w a' o v := by
  simp only [cOp] at hc
  unfold RdOk execOp
  rw [ho]
  split at hc
  · rename_i y hx
    have hr := cX_rel hF hx
    unfold cConv at hc
    split at hc
    · rename_i k k' h1 h2
      cases hc
      simp only [rd] at h
      split at h
      · rename_i kk n he
        rw [he] at hr; simp only [rel] at hr
        cases h
        exact ⟨_, value_run (by simp [convert, run_underlying h1, run_underlying h2, hr, Conv.intToInt]; rfl), by simp [rel, wrapK_eq]⟩
      · cases h
    · rename_i h1 h2
      cases hc
      simp only [rd] at h
      split at h
      · rename_i st he
        rw [he] at hr
        have hr' := hr
        simp only [rel] at hr
        cases h
        exact ⟨_, value_run (by simp [convert, run_underlying h1, run_underlying h2, hr]; rfl), by rw [← hr]; exact hr'⟩
      · cases h
    · rename_i e h1 h2
      split at hc <;> cases hc
      cases hk
    · rename_i e h1 h2
      split at hc
      · rename_i he
        cases hc
        have conv : ∀ u, (convert s d u).run P w = (Conv.bytesToString u).run P w ∨ (∀ p l c, u ≠ .slice p l c) := by
          intro u
          cases u <;> first | (right; intro _ _ _ h; cases h; done) | skip
          left
          simp [convert, run_underlying h1, run_underlying h2, run_underlying he]
        simp only [rd] at h
        split at h
        · rename_i l c hy
          cases h
          rw [hy] at hr; simp only [rel] at hr
          obtain ⟨n, _, hr⟩ := hr
          refine ⟨.string ⟨⟨[]⟩⟩, value_run ?_, by simp [rel]⟩
          rcases conv (a'.eval x) with hcv | hcv
          · rw [hcv, hr]; rfl
          · exact absurd hr (hcv _ _ _)
        · rename_i b q l c hy
          rw [hy] at hr; simp only [rel] at hr
          obtain ⟨b', o', c', hv, ha, hcap, hoff⟩ := hr
          have hcv : (convert s d (a'.eval x)).run P w = (Conv.bytesToString (a'.eval x)).run P w := by
            rcases conv (a'.eval x) with hcv | hcv
            · exact hcv
            · exact absurd hv (hcv _ _ _)
          split at h
          · cases h
            refine ⟨.string ⟨⟨[]⟩⟩, value_run ?_, by simp [rel]⟩
            rw [hcv, hv]
            simp [Conv.bytesToString, loadCells, loadCellsFrom]
            rfl
          · rename_i l
            split at h
            · rename_i cs hcs
              split at h
              · rename_i st hst
                cases h
                have ho' : o' = q := by
                  rcases hoff with h | h
                  · exact h
                  · cases c <;> simp [amb] at h
                subst ho'
                obtain ⟨vs, h3, h4⟩ := hS.loadCells (P := P) ha hcs
                refine ⟨.string ⟨⟨st⟩⟩, value_run ?_, by simp [rel]⟩
                rw [hcv, hv]
                obtain ⟨ns, rfl, rfl⟩ := bytes_ints hst h3
                rw [run_bytesToString w _ _ _ ns h4, foldl_push]
                rfl
              · cases h
            · cases h
        · cases h
      · cases hc
    · cases hc
  · cases hc

end
end Go.AE
end
-- Operations that leave the heap alone: slices, fields, elements.
section
namespace Go.AE
section
variable {B : Nat} {r : Ren} {H : Heap} {w : World} {P : Program} {a : Frm} {a' : Act}

theorem rd_mkIface {t : TypeId} {x : Operand} {op : AOp} {v : AV} (o : Oper) (ho : o.op = .makeInterface t x) (hc : cOp P (.makeInterface t x) = some op) (hF : FRel r a a') (h : rd op a H = some v) : RdOk P r w a' o v := by
  simp only [cOp] at hc
  unfold RdOk execOp
  rw [ho]
  split at hc
  · cases hc
  · rename_i y d hni hx hd
    cases hc
    simp only [rd, Option.some.injEq] at h
    subst h
    refine ⟨.iface t (a'.eval x), value_run ?_, by simp only [rel]; exact ⟨_, rfl, cX_rel hF hx⟩⟩
    unfold Instr.makeInterface
    simp only [Sem.run_bind, run_underlying hd, Result.andThen_ok]
    cases d <;> first | rfl | exact absurd rfl (hni _)
  · cases hc

theorem rd_mkFunc {fn : Fn} {f c : Array Operand} {op : AOp} {v : AV} (o : Oper) (ho : o.op = .makeFunc fn f c) (hc : cOp P (.makeFunc fn f c) = some op) (hF : FRel r a a') (h : rd op a H = some v) : RdOk P r w a' o v := by
  simp only [cOp] at hc
  unfold RdOk execOp
  rw [ho]
  split at hc
  · rename_i f' c' hf hcc
    cases hc
    simp only [rd, Option.some.injEq] at h
    subst h
    refine ⟨.func fn (f.map a'.eval) (c.map a'.eval), value_run rfl, ?_⟩
    simp only [rel]
    exact ⟨_, _, rfl, by simpa using cXs_rel hF hf, by simpa using cXs_rel hF hcc⟩
  · cases hc

theorem rd_arrPtr {t : TypeId} {x : Operand} {op : AOp} {v : AV} (o : Oper) (ho : o.op = .sliceToArrayPointer t x) (hc : cOp P (.sliceToArrayPointer t x) = some op) (hF : FRel r a a') (h : rd op a H = some v) : RdOk P r w a' o v := by
  simp only [cOp] at hc
  unfold RdOk execOp
  rw [ho]
  split at hc
  · rename_i y n e hx hu
    cases hc
    simp only [rd] at h
    split at h
    · rename_i p l c he
      obtain ⟨b, q⟩ := p
      simp only [natble] at h
      by_cases hn : 1 ≤ n ∧ n ≤ l
      · have hr := cX_rel hF hx
        rw [he] at hr; simp only [rel] at hr
        obtain ⟨b', o', c', hv, ha, hcap, hoff⟩ := hr
        have ho' : o' = q := by
          rcases hoff with h | h
          · exact h
          · cases c <;> simp [amb] at h <;> omega
        subst ho'
        simp only [hn, decide_true, Bool.and_self, cond_true, Option.some.injEq] at h
        subst h
        refine ⟨.pointer (some ⟨b', o', none⟩), value_run ?_, by simp only [rel]; exact ⟨_, rfl, ha⟩⟩
        unfold Instr.arrayAt
        simp only [Sem.run_bind, run_underlying hu, Result.andThen_ok, hv]
        rw [if_neg (by omega)]
        rfl
      · rw [show (decide (Nat.succ 0 ≤ n) && decide (n ≤ l)) = false by simp; omega] at h
        cases h
    · cases h
  · cases hc

theorem rels_extract {cs : List AV} {cs' : Array Value} {o n : Nat} {l : List AV} (h : grab n o cs = some l) (hr : rels r cs cs'.toList) : rels r l (cs'.extract o (o + n)).toList := by
  obtain ⟨h1, _⟩ := grab_some h
  rw [h1, Array.toList_extract, List.extract_eq_take_drop, show o + n - o = n by omega]
  exact rels_take n (rels_drop o hr)

theorem part_run {t : TypeId} {cs : List AV} {cs' : Array Value} {o : Nat} {x : AV} (hg : aggP P t = some false) (hr : rels r cs cs'.toList) (h : cs[o]? = some x) :
    ∃ v', (Go.part t cs' o).run P w = .ok v' w ∧ rel r x v' := by
  obtain ⟨v', h1, h2⟩ := rels_get hr o x h
  have h1' : cs'[o]? = some v' := by simpa using h1
  refine ⟨v', ?_, h2⟩
  unfold Go.part
  simp [run_isAgg hg, h1']

theorem partN_run {t : TypeId} {cs l : List AV} {cs' : Array Value} {o n : Nat} (hg : aggP P t = some true) (hn : sizeP P t = some n) (hr : rels r cs cs'.toList) (h : grab n o cs = some l) :
    ∃ v', (Go.part t cs' o).run P w = .ok v' w ∧ rel r (.agg l) v' := by
  refine ⟨.agg (cs'.extract o (o + n)), ?_, by simp only [rel]; exact ⟨_, rfl, rels_extract h hr⟩⟩
  unfold Go.part
  simp [run_isAgg hg, run_sizeOf hn]

theorem rd_field {t : TypeId} {x : Operand} {i : Nat} {op : AOp} {v : AV} (o : Oper) (ho : o.op = .field t x i) (hc : cOp P (.field t x i) = some op) (hF : FRel r a a') (h : rd op a H = some v) : RdOk P r w a' o v := by
  simp only [cOp] at hc
  unfold RdOk execOp
  rw [ho]
  split at hc
  · rename_i y fs hx hu
    split at hc
    · rename_i f hf
      have hr := cX_rel hF hx
      split at hc
      · rename_i n hg hn
        cases hc
        simp only [rd] at h
        split at h
        · rename_i cs he
          split at h
          · rename_i l hl
            cases h
            rw [he] at hr
            obtain ⟨cs', hv, hrs⟩ := rel_agg hr
            obtain ⟨v', h1, h2⟩ := partN_run (w := w) hg hn hrs hl
            refine ⟨v', value_run ?_, h2⟩
            unfold Instr.field
            simp only [Sem.run_bind, run_underlying hu, Result.andThen_ok, hf, hv, asAgg, Sem.run_pure, h1]
          · cases h
        · cases h
      · rename_i n hg hn
        cases hc
        simp only [rd] at h
        split at h
        · rename_i cs he
          rw [he] at hr
          obtain ⟨cs', hv, hrs⟩ := rel_agg hr
          obtain ⟨v', h1, h2⟩ := part_run (P := P) (w := w) hg hrs h
          refine ⟨v', value_run ?_, h2⟩
          unfold Instr.field
          simp only [Sem.run_bind, run_underlying hu, Result.andThen_ok, hf, hv, asAgg, Sem.run_pure, h1]
        · cases h
      · cases hc
    · cases hc
  · cases hc

theorem rd_fieldAddr {t : TypeId} {x : Operand} {i : Nat} {op : AOp} {v : AV} (o : Oper) (ho : o.op = .fieldAddr t x i) (hc : cOp P (.fieldAddr t x i) = some op) (hF : FRel r a a') (h : rd op a H = some v) : RdOk P r w a' o v := by
  simp only [cOp] at hc
  unfold RdOk execOp
  rw [ho]
  split at hc
  · rename_i y fs hx hu
    split at hc
    · rename_i q n hf
      rw [natbeq] at hc
      by_cases h0 : n = 0
      · simp [h0] at hc
      · simp only [h0, decide_false, cond_false, Option.some.injEq] at hc
        subst hc
        unfold fieldP at hf
        split at hf
        · rename_i f hff
          split at hf
          · rename_i n' hn'
            cases hf
            simp only [rd] at h
            split at h
            · rename_i b p he
              cases h
              have hr := cX_rel hF hx
              rw [he] at hr
              obtain ⟨b', hv, ha⟩ := rel_ptr hr
              refine ⟨.pointer (some ⟨b', p + f.offset, none⟩), value_run ?_, by simp only [rel]; exact ⟨_, rfl, ha⟩⟩
              unfold Instr.fieldAt
              simp only [Sem.run_bind, run_underlying hu, Result.andThen_ok, hff, hv, Instr.sureAddr, Sem.run_pure, fieldPlace, run_sizeOf hn']
              rw [if_neg h0]
              simp [Addr.add_eq]
            · cases h
          · cases hf
        · cases hf
    · cases hc
  · cases hc

theorem natOf_rel {x : AV} {v : Value} {n : Nat} (h : natOf x = some n) (hr : rel r x v) : ∃ k, (asIntOf v).run P w = .ok (k, (n : Int)) w := by
  obtain ⟨k, rfl⟩ := natOf_some h hr
  exact ⟨k, rfl⟩

theorem rd_indexAddr {t : TypeId} {x ix : Operand} {op : AOp} {v : AV} (o : Oper) (ho : o.op = .indexAddr t x ix) (hc : cOp P (.indexAddr t x ix) = some op) (hF : FRel r a a') (h : rd op a H = some v) : RdOk P r w a' o v := by
  simp only [cOp] at hc
  unfold RdOk execOp
  rw [ho]
  split at hc
  · rename_i y i n e hx hi hu
    split at hc
    · rename_i s hs
      cases hc
      simp only [rd] at h
      split at h
      · rename_i b p k he hk
        rw [natble] at h
        by_cases hlt : k + 1 ≤ n
        · simp only [Nat.succ_eq_add_one, hlt, decide_true, cond_true, Option.some.injEq] at h
          subst h
          have hr := cX_rel hF hx
          rw [he] at hr
          obtain ⟨b', hv, ha⟩ := rel_ptr hr
          obtain ⟨kk, hkk⟩ := natOf_rel (P := P) (w := w) hk (cX_rel hF hi)
          refine ⟨.pointer (some ⟨b', p + k * s, none⟩), value_run ?_, by simp only [rel]; exact ⟨_, rfl, ha⟩⟩
          unfold Instr.indexAt
          have hb : (0 : Int) ≤ (k : Int) ∧ (k : Int) < (n : Int) := ⟨by omega, by omega⟩
          simp [hkk, run_underlying hu, hv, Instr.sureAddr, hb, run_sizeOf hs, Addr.add_eq]
        · simp [hlt] at h
      · cases h
    · cases hc
  · rename_i y i e hx hi hu
    split at hc
    · rename_i s hs
      cases hc
      simp only [rd] at h
      split at h
      · rename_i b p len c k he hk
        rw [natble] at h
        by_cases hlt : k + 1 ≤ len
        · simp only [Nat.succ_eq_add_one, hlt, decide_true, cond_true, Option.some.injEq] at h
          subst h
          have hr := cX_rel hF hx
          rw [he] at hr
          simp only [rel] at hr
          obtain ⟨b', o', c', hv, ha, hcap, hoff⟩ := hr
          have ho' : o' = p := by
            rcases hoff with h | h
            · exact h
            · cases c <;> simp [amb] at h <;> omega
          subst ho'
          obtain ⟨kk, hkk⟩ := natOf_rel (P := P) (w := w) hk (cX_rel hF hi)
          refine ⟨.pointer (some ⟨b', o' + k * s, none⟩), value_run ?_, by simp only [rel]; exact ⟨_, rfl, ha⟩⟩
          unfold Instr.indexAt
          have hb : (0 : Int) ≤ (k : Int) ∧ (k : Int) < (len : Int) := ⟨by omega, by omega⟩
          simp [hkk, run_underlying hu, hv, hb, run_sizeOf hs, Addr.add_eq]
        · simp [hlt] at h
      · cases h
    · cases hc
  · cases hc

theorem rd_index {t : TypeId} {x ix : Operand} {op : AOp} {v : AV} (o : Oper) (ho : o.op = .index t x ix) (hc : cOp P (.index t x ix) = some op) (hF : FRel r a a') (h : rd op a H = some v) : RdOk P r w a' o v := by
  simp only [cOp] at hc
  unfold RdOk execOp
  rw [ho]
  split at hc
  · rename_i y i n e hx hi hu
    split at hc
    · rename_i s hs hg
      cases hc
      simp only [rd] at h
      split at h
      · rename_i cs k he hk
        rw [natble] at h
        by_cases hlt : k + 1 ≤ n
        · simp only [Nat.succ_eq_add_one, hlt, decide_true, cond_true] at h
          split at h
          · rename_i l hl
            cases h
            have hr := cX_rel hF hx
            rw [he] at hr
            obtain ⟨cs', hv, hrs⟩ := rel_agg hr
            obtain ⟨kk, hkk⟩ := natOf_rel (P := P) (w := w) hk (cX_rel hF hi)
            obtain ⟨v', h1, h2⟩ := partN_run (w := w) hg hs hrs hl
            refine ⟨v', value_run ?_, h2⟩
            unfold Instr.index
            have hb : (0 : Int) ≤ (k : Int) ∧ (k : Int) < (n : Int) := ⟨by omega, by omega⟩
            simp [hkk, run_underlying hu, hv, hb, run_sizeOf hs, h1]
          · cases h
        · simp [hlt] at h
      · cases h
    · rename_i s hs hg
      cases hc
      simp only [rd] at h
      split at h
      · rename_i cs k he hk
        rw [natble] at h
        by_cases hlt : k + 1 ≤ n
        · simp only [Nat.succ_eq_add_one, hlt, decide_true, cond_true] at h
          have hr := cX_rel hF hx
          rw [he] at hr
          obtain ⟨cs', hv, hrs⟩ := rel_agg hr
          obtain ⟨kk, hkk⟩ := natOf_rel (P := P) (w := w) hk (cX_rel hF hi)
          obtain ⟨v', h1, h2⟩ := part_run (P := P) (w := w) hg hrs h
          refine ⟨v', value_run ?_, h2⟩
          unfold Instr.index
          have hb : (0 : Int) ≤ (k : Int) ∧ (k : Int) < (n : Int) := ⟨by omega, by omega⟩
          simp [hkk, run_underlying hu, hv, hb, run_sizeOf hs, h1]
        · simp [hlt] at h
      · cases h
    · cases hc
  · rename_i y i hx hi hu
    cases hc
    simp only [rd] at h
    split at h
    · rename_i s k he hk
      split at h
      · rename_i b hb
        cases h
        have hr := cX_rel hF hx
        rw [he] at hr
        simp only [rel] at hr
        obtain ⟨kk, hkk⟩ := natOf_rel (P := P) (w := w) hk (cX_rel hF hi)
        refine ⟨.int .u8 b.toNat, value_run ?_, by simp only [rel]; rfl⟩
        unfold Instr.index
        have e : (⟨⟨s⟩⟩ : ByteArray)[k]? = some b := by
          obtain ⟨hlt, hb⟩ := List.getElem?_eq_some_iff.1 hb
          rw [getElem?_pos (⟨⟨s⟩⟩ : ByteArray) k hlt, ← hb]; rfl
        simp [hkk, run_underlying hu, hr, e]
      · cases h
    · cases h
  · cases hc

end
end Go.AE
end
-- Operations that leave the heap alone: slices of things, maps, interfaces, len.
section
namespace Go.AE
section
variable {B : Nat} {r : Ren} {H : Heap} {w : World} {P : Program} {a : Frm} {a' : Act}

theorem bounds_le {a : Frm} {len cap : Nat} {lo hi mx : Option AX} {l h m : Nat} (hb : bounds a len cap lo hi mx = some (l, h, m)) (hl : len ≤ cap) : l ≤ h ∧ h ≤ m ∧ m ≤ cap ∧ (mx = none → m = cap) := by
  unfold bounds at hb
  have bl : ∀ {x : AX} {m n : Nat}, bound a x m = some n → n ≤ m := by
    intro x m n h
    unfold bound at h
    split at h
    · rename_i k hk
      rw [natble] at h
      by_cases hle : k ≤ m
      · simp only [hle, decide_true, cond_true, Option.some.injEq] at h; omega
      · simp [hle] at h
    · cases h
  cases mx with
  | none =>
    simp only at hb
    cases hi with
    | none =>
      simp only at hb
      cases lo with
      | none => simp only [Option.some.injEq, Prod.mk.injEq] at hb; omega
      | some x =>
        simp only at hb
        cases hq : bound a x len with
        | none => rw [hq] at hb; cases hb
        | some k => rw [hq] at hb; simp only [Option.some.injEq, Prod.mk.injEq] at hb; have := bl hq; omega
    | some y =>
      simp only at hb
      cases hp : bound a y cap with
      | none => rw [hp] at hb; cases hb
      | some j =>
        rw [hp] at hb
        simp only at hb
        have := bl hp
        cases lo with
        | none => simp only [Option.some.injEq, Prod.mk.injEq] at hb; omega
        | some x =>
          simp only at hb
          cases hq : bound a x j with
          | none => rw [hq] at hb; cases hb
          | some k => rw [hq] at hb; simp only [Option.some.injEq, Prod.mk.injEq] at hb; have := bl hq; omega
  | some z =>
    simp only at hb
    cases hz : bound a z cap with
    | none => rw [hz] at hb; cases hb
    | some q =>
      rw [hz] at hb
      simp only at hb
      have := bl hz
      cases hi with
      | none => cases hb
      | some y =>
        simp only at hb
        cases hp : bound a y q with
        | none => rw [hp] at hb; cases hb
        | some j =>
          rw [hp] at hb
          simp only at hb
          have := bl hp
          cases lo with
          | none => simp only [Option.some.injEq, Prod.mk.injEq] at hb; exact ⟨by omega, by omega, by omega, fun h => by cases h⟩
          | some x =>
            simp only at hb
            cases hq : bound a x j with
            | none => rw [hq] at hb; cases hb
            | some k => rw [hq] at hb; simp only [Option.some.injEq, Prod.mk.injEq] at hb; have := bl hq; exact ⟨by omega, by omega, by omega, fun h => by cases h⟩

/-- the room is more than was asked of: without a max, what is found with less room is found with more -/
theorem bounds_more (hF : FRel r a a') {len cap : Nat} {lo hi : Option Operand} {lo' hi' : Option AX} (hlo : cOX lo = some lo') (hhi : cOX hi = some hi')
    {l h m : Nat} (hb : bounds a len len lo' hi' none = some (l, h, m)) (hle : len ≤ cap) :
    (Instr.sliceBounds true len cap (lo.map a'.eval) (hi.map a'.eval) none).run P w = .ok (l, h, cap) w := by
  have hb' : bounds a len cap lo' hi' none = some (l, h, cap) := by
    unfold bounds at hb ⊢
    have bm : ∀ {x : AX} {n : Nat}, bound a x len = some n → bound a x cap = some n := by
      intro x n h
      unfold bound at h ⊢
      split at h
      · rename_i k hk
        rw [natble] at h ⊢
        by_cases hk : k ≤ len
        · simp only [hk, decide_true, cond_true, Option.some.injEq] at h
          simp [h, show n ≤ cap by omega]
        · simp [hk] at h
      · cases h
    simp only at hb ⊢
    cases hi' with
    | none =>
      simp only at hb ⊢
      cases lo' with
      | none => simp only [Option.some.injEq, Prod.mk.injEq] at hb ⊢; exact ⟨by omega, by omega, trivial⟩
      | some x =>
        simp only at hb ⊢
        cases hq : bound a x len with
        | none => rw [hq] at hb; cases hb
        | some k => rw [hq] at hb; simp only [Option.some.injEq, Prod.mk.injEq] at hb ⊢; exact ⟨by omega, by omega, trivial⟩
    | some y =>
      simp only at hb ⊢
      cases hp : bound a y len with
      | none => rw [hp] at hb; cases hb
      | some j =>
        rw [hp] at hb
        rw [bm hp]
        simp only at hb ⊢
        cases lo' with
        | none => simp only [Option.some.injEq, Prod.mk.injEq] at hb ⊢; exact ⟨by omega, by omega, trivial⟩
        | some x =>
          simp only at hb ⊢
          cases hq : bound a x j with
          | none => rw [hq] at hb; cases hb
          | some k => rw [hq] at hb; simp only [Option.some.injEq, Prod.mk.injEq] at hb ⊢; exact ⟨by omega, by omega, trivial⟩
  exact bounds_some (mx := none) hF hlo hhi rfl hb'

theorem bounds_max {len cap : Nat} {lo hi : Option AX} {z : AX} {l h m : Nat} (hb : bounds a len len lo hi (some z) = some (l, h, m)) (hle : len ≤ cap) :
    bounds a len cap lo hi (some z) = some (l, h, m) := by
  unfold bounds at hb ⊢
  simp only at hb ⊢
  cases hz : bound a z len with
  | none => rw [hz] at hb; cases hb
  | some q =>
    have : bound a z cap = some q := by
      unfold bound at hz ⊢
      split at hz
      · rename_i k hk
        rw [natble] at hz ⊢
        by_cases hk : k ≤ len
        · simp only [hk, decide_true, cond_true, Option.some.injEq] at hz
          simp [hz, show q ≤ cap by omega]
        · simp [hk] at hz
      · cases hz
    rw [hz] at hb
    rw [this]
    exact hb

theorem rd_slice {t : TypeId} {x : Operand} {lo hi mx : Option Operand} {op : AOp} {v : AV} (o : Oper) (ho : o.op = .slice t x lo hi mx) (hc : cOp P (.slice t x lo hi mx) = some op) (hF : FRel r a a') (h : rd op a H = some v) : RdOk P r w a' o v := by
  simp only [cOp] at hc
  unfold RdOk execOp
  rw [ho]
  split at hc
  · rename_i y lo' hi' mx' hx hlo hhi hmx
    have hr := cX_rel hF hx
    unfold cSlice at hc
    split at hc
    · rename_i n e hu
      split at hc
      · rename_i s hs
        cases hc
        simp only [rd] at h
        split at h
        · rename_i b p he
          split at h
          · rename_i l hh m hb
            cases h
            rw [he] at hr
            obtain ⟨b', hv, ha⟩ := rel_ptr hr
            have hbs := bounds_some (P := P) (w := w) (isSlice := false) hF hlo hhi hmx hb
            refine ⟨.slice (some (if m = l then ⟨b', p, none⟩ else ⟨b', p + l * s, none⟩)) (hh - l) (m - l), value_run ?_, ?_⟩
            · unfold Instr.sliceAt
              simp only [Sem.run_bind, run_underlying hu, Result.andThen_ok, hv, Instr.sureAddr, Sem.run_pure, hbs, run_sizeOf hs, Addr.add_eq]
            · rw [natbeq]
              by_cases hml : m = l
              · simp only [hml, decide_true, cond_true, if_true, rel]; exact ⟨b', p, l - l, rfl, ha, rfl, .inl rfl⟩
              · simp only [hml, decide_false, cond_false, if_false, rel]; exact ⟨b', p + l * s, m - l, rfl, ha, rfl, .inl rfl⟩
          · cases h
        · cases h
      · cases hc
    · rename_i hu
      split at hc
      · cases hc
        obtain rfl : mx = none := by
          rcases cOX_some hmx with ⟨rfl, _⟩ | ⟨_, _, _, h, _⟩
          · rfl
          · cases h
        simp only [rd] at h
        split at h
        · rename_i s he
          split at h
          · rename_i l hh m hb
            cases h
            rw [he] at hr
            simp only [rel] at hr
            have hbs := bounds_some (P := P) (w := w) (isSlice := false) (mx := none) hF hlo hhi rfl hb
            refine ⟨.string ((⟨⟨s⟩⟩ : ByteArray).extract l hh), value_run ?_, ?_⟩
            · unfold Instr.sliceAt
              simp only [Sem.run_bind, run_underlying hu, Result.andThen_ok, Instr.slice, hr, Option.map_none, Option.isSome_none, Bool.false_eq_true, if_false]
              have e : (⟨⟨s⟩⟩ : ByteArray).size = s.length := rfl
              simp only [Option.map_none] at hbs
              simp only [e, hbs, Result.andThen_ok, Sem.run_pure]
            · simp only [rel]
              congr 1
              apply ByteArray.ext
              rw [ByteArray.data_extract]
              apply Array.ext'
              simp [List.extract_eq_take_drop, List.drop_take]
          · cases h
        · cases h
      · cases hc
    · rename_i e hu
      split at hc
      · rename_i s hs
        cases hc
        have base : ∀ z, (Instr.sliceAt t (a'.eval x) (lo.map a'.eval) (hi.map a'.eval) (mx.map a'.eval)).run P w = .ok z w → ∃ v', (do pure (Next.value (← Instr.sliceAt t (a'.eval x) (lo.map a'.eval) (hi.map a'.eval) (mx.map a'.eval))) : Sem Next).run P w = .ok (.value v') w ∧ v' = z := fun z hz => ⟨z, value_run hz, rfl⟩
        simp only [rd] at h
        split at h
        · rename_i p len cap he
          split at h
          · rename_i l hh m hb
            cases h
            rw [he] at hr
            have hbs := bounds_some (P := P) (w := w) (isSlice := true) hF hlo hhi hmx hb
            cases p with
            | none =>
              simp only [rel] at hr
              obtain ⟨n, hn, hv⟩ := hr
              cases hn
              refine ⟨.slice none (hh - l) (m - l), value_run ?_, ?_⟩
              · unfold Instr.sliceAt
                simp only [Sem.run_bind, run_underlying hu, Result.andThen_ok, Instr.slice, hv, hbs, run_sizeOf hs, Sem.run_pure]
                simp
              · rw [natbeq]
                by_cases hml : m = l <;> simp [hml, rel]
            | some q =>
              obtain ⟨b, p⟩ := q
              simp only [rel] at hr
              obtain ⟨b', o', c', hv, ha, hcap, hoff⟩ := hr
              simp only [capOk] at hcap
              subst hcap
              refine ⟨.slice (if m = l then some ⟨b', o', none⟩ else some ⟨b', o' + l * s, none⟩) (hh - l) (m - l), value_run ?_, ?_⟩
              · unfold Instr.sliceAt
                simp only [Sem.run_bind, run_underlying hu, Result.andThen_ok, Instr.slice, hv, hbs, run_sizeOf hs, Sem.run_pure, Option.map_some, Addr.add_eq]
              · rw [natbeq]
                by_cases hml : m = l
                · simp only [hml, decide_true, cond_true, if_true, rel]
                  refine ⟨b', o', 0, by simp, ha, by simp [capOk], ?_⟩
                  rcases hoff with h | h
                  · exact .inl h
                  · have hle := bounds_le hb (by simp [amb] at h; omega)
                    exact .inr ⟨by omega, h.2.1, by omega⟩
                · simp only [hml, decide_false, cond_false, if_false, rel]
                  refine ⟨b', o' + l * s, m - l, rfl, ha, rfl, ?_⟩
                  rcases hoff with h | h
                  · exact .inl (by rw [h])
                  · simp only [amb] at h
                    have hle := bounds_le hb (by omega)
                    omega
          · cases h
        · rename_i b p len s' he
          rw [natbeq] at h
          by_cases hss : s' = s
          · subst hss
            simp only [decide_true, cond_true] at h
            rw [he] at hr
            simp only [rel] at hr
            obtain ⟨b', o', c', hv, ha, hcap, hoff⟩ := hr
            simp only [capOk] at hcap
            obtain ⟨hcl, hce⟩ := hcap
            split at h
            · rename_i l hh m hb
              cases h
              obtain rfl : mx = none := by
                rcases cOX_some hmx with ⟨rfl, _⟩ | ⟨_, _, _, h, _⟩
                · rfl
                · cases h
              have hbs := bounds_more (P := P) (w := w) hF hlo hhi hb hcl
              have hle := bounds_le hb (Nat.le_refl _)
              refine ⟨.slice (if c' = l then some ⟨b', o', none⟩ else some ⟨b', o' + l * s', none⟩) (hh - l) (c' - l), value_run ?_, ?_⟩
              · unfold Instr.sliceAt
                simp only [Sem.run_bind, run_underlying hu, Result.andThen_ok, Instr.slice, hv, Option.map_none, hbs, run_sizeOf hs, Sem.run_pure, Option.map_some, Addr.add_eq]
              · simp only [rel]
                by_cases hml : c' = l
                · simp only [hml, if_true]
                  refine ⟨b', o', 0, by simp, ha, ⟨by omega, .inr (.inr rfl)⟩, ?_⟩
                  by_cases hs0 : p + l * s' = 0
                  · rcases hoff with h | h
                    · exact .inl (by omega)
                    · exact absurd h.2 (by omega)
                  · by_cases hl0 : l * s' = 0
                    · rcases hoff with h | h
                      · exact .inl (by omega)
                      · exact .inr ⟨by omega, hs0⟩
                    · exact .inr ⟨by omega, hs0⟩
                · simp only [hml, if_false]
                  refine ⟨b', o' + l * s', c' - l, rfl, ha, ⟨by omega, ?_⟩, ?_⟩
                  · rcases hce with h | h | h
                    · exact .inl h
                    · refine .inr (.inl ?_)
                      rw [← h, Nat.sub_mul]
                      have : l * s' ≤ c' * s' := Nat.mul_le_mul_right _ (by omega)
                      omega
                    · exact .inr (.inr (by omega))
                  · rcases hoff with h | h
                    · exact .inl (by rw [h])
                    · obtain ⟨h1, h2⟩ := h
                      exact .inr ⟨by omega, by omega⟩
            · rename_i z hh m hb
              cases h
              have hbs := bounds_some (P := P) (w := w) (isSlice := true) hF hlo hhi hmx (bounds_max hb hcl)
              have hle := bounds_le hb (Nat.le_refl _)
              refine ⟨.slice (if m = 0 then some ⟨b', o', none⟩ else some ⟨b', o' + 0 * s', none⟩) (hh - 0) (m - 0), value_run ?_, ?_⟩
              · unfold Instr.sliceAt
                simp only [Sem.run_bind, run_underlying hu, Result.andThen_ok, Instr.slice, hv, hbs, run_sizeOf hs, Sem.run_pure, Option.map_some, Addr.add_eq]
              · simp only [rel]
                refine ⟨b', o', m, ?_, ha, rfl, ?_⟩
                · by_cases hm0 : m = 0 <;> simp [hm0]
                · rcases hoff with h | h
                  · exact .inl h
                  · exact .inr ⟨by have := h.1; omega, h.2, by have := h.1; omega⟩
            · cases h
          · simp [hss] at h
        · cases h
      · cases hc
    · rename_i arr hu
      split at hc
      · rename_i n e hu2
        split at hc
        · rename_i s hs
          cases hc
          simp only [rd] at h
          split at h
          · rename_i b p he
            split at h
            · rename_i l hh m hb
              cases h
              rw [he] at hr
              obtain ⟨b', hv, ha⟩ := rel_ptr hr
              have hbs := bounds_some (P := P) (w := w) (isSlice := false) hF hlo hhi hmx hb
              refine ⟨.slice (some (if m = l then ⟨b', p, none⟩ else ⟨b', p + l * s, none⟩)) (hh - l) (m - l), value_run ?_, ?_⟩
              · unfold Instr.sliceAt
                simp only [Sem.run_bind, run_underlying hu, Result.andThen_ok, Instr.slice, hv, asAddr, run_underlying hu2, Sem.run_pure, hbs, run_sizeOf hs, Addr.add_eq]
              · rw [natbeq]
                by_cases hml : m = l
                · simp only [hml, decide_true, cond_true, if_true, rel]; exact ⟨b', p, l - l, rfl, ha, rfl, .inl rfl⟩
                · simp only [hml, decide_false, cond_false, if_false, rel]; exact ⟨b', p + l * s, m - l, rfl, ha, rfl, .inl rfl⟩
            · cases h
          · cases h
        · cases hc
      · cases hc
    · cases hc
  · cases hc

end
end Go.AE
end
-- Operations that leave the heap alone: maps, interfaces, len; and all of them together.
section
namespace Go.AE
section
variable {B : Nat} {r : Ren} {H : Heap} {w : World} {P : Program} {a : Frm} {a' : Act}

/-- the type of a map's keys -/
def keyTy (d : TypeDesc) : KeyKind → Prop
  | .int => ∃ k, d = .int k
  | .str => d = .string
  | .bool => d = .bool

theorem keyP_some {t : TypeId} {kk : KeyKind} (h : keyP P t = some kk) : ∃ d, P.underlying t = some d ∧ keyTy d kk := by
  unfold keyP at h
  split at h
  · rename_i k hk; cases h; exact ⟨_, hk, k, rfl⟩
  · rename_i hk; cases h; exact ⟨_, hk, rfl⟩
  · rename_i hk; cases h; exact ⟨_, hk, rfl⟩
  · cases h

theorem bbeq (s t : List UInt8) : ((⟨⟨s⟩⟩ : ByteArray) == ⟨⟨t⟩⟩) = (s == t) := by
  show ByteArray.beq _ _ = _
  unfold ByteArray.beq
  simp

theorem keyEq_now {d : TypeDesc} {kk : KeyKind} (hd : keyTy d kk) {x y : AV} {x' y' : Value} {b : Bool} (hk : isKey kk x = true) (hx : rel r x x') (hy : rel r y y') (h : keyEq x y = some b) :
    Instr.sameNow d x' y' = some b := by
  unfold keyEq at h
  split at h
  · rename_i k n k' n'
    simp only [rel] at hx hy; subst hx; subst hy
    cases kk <;> simp only [isKey] at hk <;> (try cases hk)
    obtain ⟨k0, rfl⟩ := hd
    cases hkk : kindEq k k' with
    | false => rw [hkk] at h; cases h
    | true =>
      rw [hkk] at h
      simp only [cond_true, Option.some.injEq] at h
      obtain rfl := kindEq_iff.1 hkk
      simp [Instr.sameNow, ← h, ieq_eq]
  · rename_i s s'
    simp only [rel] at hx hy; subst hx; subst hy
    cases kk <;> simp only [isKey] at hk <;> (try cases hk)
    cases hd
    cases h
    simp only [Instr.sameNow, beqBytes_eq, bbeq]
  · rename_i c c'
    simp only [rel] at hx hy; subst hx; subst hy
    cases kk <;> simp only [isKey] at hk <;> (try cases hk)
    cases hd
    cases h
    rfl
  · cases h

theorem kindEq_comm : ∀ a b : IntKind, kindEq a b = kindEq b a := by
  intro a b
  rw [Bool.eq_iff_iff, kindEq_iff, kindEq_iff]
  exact ⟨Eq.symm, Eq.symm⟩

theorem keyEq_comm (a b : AV) : keyEq a b = keyEq b a := by
  cases a <;> cases b <;> try rfl
  · rename_i x y
    show some (x == y) = some (y == x)
    rw [BEq.comm]
  · rename_i k n k' n'
    show (bif kindEq k k' then some (ieq n n') else none) = bif kindEq k' k then some (ieq n' n) else none
    rw [kindEq_comm, ieq_eq, ieq_eq, BEq.comm]
  · rename_i x y
    show some (beqBytes x y) = some (beqBytes y x)
    rw [beqBytes_eq, beqBytes_eq, BEq.comm]

theorem keyEq_true {x y : AV} (h : keyEq x y = some true) : x = y := by
  unfold keyEq at h
  split at h
  · rename_i k n k' n'
    cases hk : kindEq k k' with
    | false => rw [hk] at h; cases h
    | true =>
      rw [hk] at h
      simp only [cond_true, Option.some.injEq, ieq_eq, beq_iff_eq] at h
      rw [kindEq_iff.1 hk, h]
  · simp only [Option.some.injEq, beqBytes_eq, beq_iff_eq] at h; rw [h]
  · simp only [Option.some.injEq, beq_iff_eq] at h; rw [h]
  · cases h

/-- no entry bears a key -/
def keyNot (x : AV) (es : List (AV × AV × Nat)) : Prop := ∀ e ∈ es, keyEq x e.1 = some false

theorem findKey_none {x : AV} : ∀ {es : List (AV × AV × Nat)} {i : Nat}, findKey x es i = some none → keyNot x es
  | [], _, _ => fun e he => nomatch he
  | (k, v, n) :: es, i, h => by
    simp only [findKey] at h
    split at h
    · cases h
    · rename_i hq
      intro e he
      rcases List.mem_cons.1 he with rfl | he
      · exact hq
      · exact findKey_none h e he
    · cases h

theorem findKey_some {x v : AV} {j : Nat} : ∀ {es : List (AV × AV × Nat)} {i : Nat}, findKey x es i = some (some (j, v)) → ∃ e1 n e2, es = e1 ++ (x, v, n) :: e2 ∧ j = i + e1.length ∧ keyEq x x = some true
  | [], _, h => by simp [findKey] at h
  | (k, v', n) :: es, i, h => by
    simp only [findKey] at h
    split at h
    · rename_i hq
      simp only [Option.some.injEq, Prod.mk.injEq] at h
      obtain ⟨rfl, rfl⟩ := h
      obtain rfl := keyEq_true hq
      exact ⟨[], n, es, rfl, rfl, hq⟩
    · obtain ⟨e1, m, e2, h1, h2, h3⟩ := findKey_some h
      exact ⟨(k, v', n) :: e1, m, e2, by rw [h1]; rfl, by rw [h2]; simp; omega, h3⟩
    · cases h

theorem findKey_not {x : AV} : ∀ {es : List (AV × AV × Nat)} {i : Nat}, keyNot x es → findKey x es i = some none
  | [], _, _ => rfl
  | (k, v, n) :: es, i, h => by
    simp only [findKey, h (k, v, n) (List.mem_cons_self ..)]
    exact findKey_not fun e he => h e (List.mem_cons_of_mem _ he)

theorem findKey_at {x v : AV} {n : Nat} (hx : keyEq x x = some true) {e2 : List (AV × AV × Nat)} : ∀ {e1 : List (AV × AV × Nat)} {i : Nat}, keyNot x e1 → findKey x (e1 ++ (x, v, n) :: e2) i = some (some (i + e1.length, v))
  | [], i, _ => by simp only [List.nil_append, findKey, hx]; rfl
  | (k, v', n') :: e1, i, h => by
    simp only [List.cons_append, findKey, h (k, v', n') (List.mem_cons_self ..)]
    rw [findKey_at hx fun e he => h e (List.mem_cons_of_mem _ he)]
    simp; omega

/-- the entries beside one bear other keys -/
theorem keysApart.beside {e1 e2 : List (AV × AV × Nat)} {x v : AV} {n : Nat} (h : keysApart (e1 ++ (x, v, n) :: e2)) : keyNot x (e1 ++ e2) := by
  unfold keysApart at h
  rw [List.map_append, List.map_cons, List.pairwise_append, List.pairwise_cons] at h
  obtain ⟨_, ⟨h2, _⟩, h3⟩ := h
  intro e he
  rcases List.mem_append.1 he with he | he
  · rw [keyEq_comm]
    exact h3 e.1 (List.mem_map_of_mem he) x (List.mem_cons_self ..)
  · exact h2 e.1 (List.mem_map_of_mem he)

/-- the key is found in another order too -/
theorem findKey_perm {x : AV} {es l : List (AV × AV × Nat)} (hp : l.Perm es) (hd : keysApart es) {res : Option (Nat × AV)} (h : findKey x es 0 = some res) :
    match res with
    | none => findKey x l 0 = some none ∧ keyNot x es
    | some (j, v) => ∃ e1 n e2 l1 l2, es = e1 ++ (x, v, n) :: e2 ∧ j = e1.length ∧ l = l1 ++ (x, v, n) :: l2 ∧ (l1 ++ l2).Perm (e1 ++ e2) ∧ findKey x l 0 = some (some (l1.length, v)) := by
  cases res with
  | none =>
    have hn := findKey_none h
    exact ⟨findKey_not fun e he => hn e (hp.mem_iff.1 he), hn⟩
  | some p =>
    obtain ⟨j, v⟩ := p
    obtain ⟨e1, n, e2, h1, h2, h3⟩ := findKey_some h
    subst h1
    have hm : (x, v, n) ∈ l := hp.mem_iff.2 (by simp)
    obtain ⟨l1, l2, hl⟩ := List.append_of_mem hm
    subst hl
    have hb := hd.beside
    have hp' : (l1 ++ l2).Perm (e1 ++ e2) := (List.perm_middle.symm.trans (hp.trans List.perm_middle)).cons_inv
    refine ⟨e1, n, e2, l1, l2, rfl, by omega, rfl, hp', ?_⟩
    have := findKey_at (v := v) (n := n) h3 (e2 := l2) (e1 := l1) (i := 0) fun e he => hb e (hp'.mem_iff.1 (List.mem_append_left _ he))
    rwa [Nat.zero_add] at this

theorem findKey_now0 {d : TypeDesc} {kk : KeyKind} (hd : keyTy d kk) {x : AV} {x' : Value} (hk : isKey kk x = true) (hx : rel r x x') :
    ∀ {es : List (AV × AV × Nat)} {es' : List MapEntry} {i : Nat} {res : Option (Nat × AV)}, entsRel r es es' → findKey x es i = some res →
    ∃ res', Instr.findNow d x' es' i = some res' ∧ (match res, res' with
      | none, none => True
      | some (j, v), some (j', v') => j = j' ∧ rel r v v' ∧ (∃ e e', es[j - i]? = some e ∧ es'[j - i]? = some e' ∧ keyEq x e.1 = some true) ∧ i ≤ j
      | _, _ => False) := by
  intro es es' i res he
  induction he generalizing i with
  | nil => intro h; simp only [findKey, Option.some.injEq] at h; subst h; exact ⟨none, rfl, trivial⟩
  | @cons k v n e l l' h1 h2 h4 ih =>
    intro h
    simp only [findKey] at h
    split at h
    · rename_i hq
      cases h
      have := keyEq_now hd hk hx h1 hq
      refine ⟨some (i, e.val), by simp [Instr.findNow, this], rfl, h2, ⟨(k, v, n), e, by simp, by simp, hq⟩, Nat.le_refl _⟩
    · rename_i hq
      have := keyEq_now hd hk hx h1 hq
      obtain ⟨res', h5, h6⟩ := ih h
      refine ⟨res', by simp [Instr.findNow, this, h5], ?_⟩
      cases res with
      | none => cases res' <;> exact h6
      | some p =>
        cases res' with
        | none => exact h6
        | some q =>
          obtain ⟨h7, h8, ⟨f, f', h9, h10, h11⟩, h12⟩ := h6
          simp only [Nat.succ_eq_add_one] at h9 h10 h12
          refine ⟨h7, h8, ⟨f, f', ?_, ?_, h11⟩, by omega⟩
          · rw [show p.1 - i = (p.1 - (i + 1)) + 1 by omega, List.getElem?_cons_succ]; exact h9
          · rw [show p.1 - i = (p.1 - (i + 1)) + 1 by omega, List.getElem?_cons_succ]; exact h10
    · cases h

/-- a key is found in the map where it is found in the list, whatever the order; and what becomes of both when it is written, or deleted -/
theorem findKey_now {d : TypeDesc} {kk : KeyKind} (hd : keyTy d kk) {x : AV} {x' : Value} (hk : isKey kk x = true) (hx : rel r x x')
    {es l : List (AV × AV × Nat)} {es' : List MapEntry} {res : Option (Nat × AV)} (hp : l.Perm es) (hl : entsRel r l es') (ha : keysApart es) (h : findKey x es 0 = some res) :
    ∃ res', Instr.findNow d x' es' 0 = some res' ∧ (match res, res' with
      | none, none => keyNot x es
      | some (j, v), some (j', v') => rel r v v' ∧ ∃ e1 n e2 l1 l2 e', es = e1 ++ (x, v, n) :: e2 ∧ j = e1.length ∧ l = l1 ++ (x, v, n) :: l2 ∧ j' = l1.length ∧ (l1 ++ l2).Perm (e1 ++ e2) ∧ es'[j']? = some e' ∧ rel r x e'.key
      | _, _ => False) := by
  have hf := findKey_perm hp ha h
  cases res with
  | none =>
    obtain ⟨h1, h2⟩ := hf
    obtain ⟨res', h3, h4⟩ := findKey_now0 hd hk hx hl h1
    cases res' with
    | none => exact ⟨none, h3, h2⟩
    | some q => exact h4.elim
  | some p =>
    obtain ⟨j, v⟩ := p
    obtain ⟨e1, n, e2, l1, l2, h1, h2, h3, h4, h5⟩ := hf
    obtain ⟨res', h6, h7⟩ := findKey_now0 hd hk hx hl h5
    cases res' with
    | none => exact h7.elim
    | some q =>
      obtain ⟨j', v'⟩ := q
      obtain ⟨h8, h9, ⟨e, e', h10, h11, h12⟩, _⟩ := h7
      have hkey : rel r e.1 e'.key := by
        have : ∀ {l : List (AV × AV × Nat)} {l' : List MapEntry} {i : Nat}, entsRel r l l' → ∀ {x y}, l[i]? = some x → l'[i]? = some y → rel r x.1 y.key := by
          intro l l' i h
          induction h generalizing i with
          | nil => intro x y hx; simp at hx
          | cons g1 _ _ ih =>
            intro x y hx hy
            cases i with
            | zero => simp at hx hy; subst hx; subst hy; exact g1
            | succ i => exact ih (by simpa using hx) (by simpa using hy)
        exact this hl h10 h11
      rw [← keyEq_true h12] at hkey
      simp only [Nat.sub_zero] at h11
      exact ⟨some (j', v'), h6, h9, e1, n, e2, l1, l2, e', h1, h2, h3, h8.symm, h4, by rw [← h8]; exact h11, hkey⟩

theorem checkKey_run {t : TypeId} {d : TypeDesc} {kk : KeyKind} (hu : P.underlying t = some d) (hd : keyTy d kk) {e : Bool} {n : Nat} {v : Value} : (Instr.checkKey e (n + 1) t v).run P w = .ok () w := by
  unfold Instr.checkKey
  simp only [Sem.run_bind, run_underlying hu, Result.andThen_ok]
  cases kk
  · obtain ⟨k, rfl⟩ := hd; rfl
  · cases hd; rfl
  · cases hd; rfl

theorem entsRel_nil_iff {es : List (AV × AV × Nat)} {es' : List MapEntry} (h : entsRel r es es') : es = [] ↔ es' = [] := by
  cases h <;> simp

/-- the entries of a map that a value leads to -/
theorem Sim.map (hS : Sim B r H w) {b b' : Nat} (ha : r.at b b') {es : List (AV × AV × Nat)} {clock : Nat} (h : H.t.get b = some (.map es clock)) :
    r.m b = some b' ∧ ∃ es' clock' l, w.heap[b']? = some (.map es' clock') ∧ l.Perm es ∧ entsRel r l es'.toList ∧ keysApart es ∧ stampsOk es' clock' ∧ ¬ b' < B := by
  obtain ⟨h0, o, h1, h2, h3⟩ := hS.block ha h
  obtain ⟨es', clock', l, rfl, h4, h5, h6, h7⟩ := h2
  exact ⟨h0, es', clock', l, h1, h4, h5, h6, h7, fun hlt => by cases h3 hlt⟩

theorem run_getObj_map {b : Nat} {es : Array MapEntry} {clock : Nat} (h : w.heap[b]? = some (.map es clock)) : (getObj b).run P w = .ok (.map es clock) w := by
  simp [getObj, Sem.run, h]

def lookTail (kt e : TypeId) (k : Value) (ok : Bool) (es : Array MapEntry) : Sem Value := do
  Instr.checkKey es.isEmpty 10000 kt k
  let (v, ok') ← match ← Instr.findKey kt k es.toList with
    | some (_, v) => pure (v, true)
    | none => pure (← zeroValue e, false)
  pure (if ok then .tuple #[v, .bool ok'] else v)

theorem rd_lookup {t : TypeId} {m k : Operand} {ok : Bool} {op : AOp} {v : AV} (o : Oper) (ho : o.op = .lookup t m k ok) (hc : cOp P (.lookup t m k ok) = some op) (hS : Sim B r H w) (hF : FRel r a a') (h : rd op a H = some v) : RdOk P r w a' o v := by
  simp only [cOp] at hc
  unfold RdOk execOp
  rw [ho]
  split at hc
  · rename_i m' k' kt e hm hkx hu
    split at hc
    · rename_i kk z hkk hz
      cases hc
      obtain ⟨d, hud, hd⟩ := keyP_some hkk
      obtain ⟨zv, hzr, hzrel⟩ := zeroV_run (r := r) (w := w) hz
      simp only [rd] at h
      cases hkey : isKey kk (evalX a k') with
      | false => rw [hkey] at h; cases h
      | true =>
        rw [hkey] at h
        simp only [cond_true] at h
        have hxr := cX_rel hF hkx
        have hmr := cX_rel hF hm
        have ents : ∀ {es l : List (AV × AV × Nat)} (es' : Array MapEntry), l.Perm es → entsRel r l es'.toList → keysApart es → ((Instr.lookup t (a'.eval m) (a'.eval k) ok).run P w = (lookTail kt e (a'.eval k) ok es').run P w) → (match findKey (evalX a k') es 0 with
              | some (some (_, v)) => some (bif ok then .tuple [v, .bool true] else v)
              | some none => some (bif ok then .tuple [z, .bool false] else z)
              | none => none) = some v → ∃ v', (do pure (Next.value (← Instr.lookup t (a'.eval m) (a'.eval k) ok)) : Sem Next).run P w = .ok (.value v') w ∧ rel r v v' := by
          intro es l es' hp he hap hrun hf
          cases hfk : findKey (evalX a k') es 0 with
          | none => rw [hfk] at hf; cases hf
          | some res =>
            obtain ⟨res', h1, h2⟩ := findKey_now hd hkey hxr hp he hap hfk
            rw [hfk] at hf
            have hlook : ∀ p : Value × Bool, (match res' with | some (_, v) => (v, true) | none => (zv, false)) = p →
                (Instr.lookup t (a'.eval m) (a'.eval k) ok).run P w = .ok (if ok then .tuple #[p.1, .bool p.2] else p.1) w := by
              intro p hp
              rw [hrun]
              unfold lookTail
              simp only [Sem.run_bind]
              rw [checkKey_run hud hd]
              simp only [Result.andThen_ok, Instr.findKey, Sem.run_bind, run_underlying hud, h1, Sem.run_pure]
              cases res' with
              | none => simp only [Sem.run_bind, hzr, Result.andThen_ok, Sem.run_pure]; rw [← hp]
              | some q => subst hp; rfl
            cases res with
            | none =>
              cases res' with
              | some q => exact h2.elim
              | none =>
                simp only [Option.some.injEq] at hf
                subst hf
                refine ⟨_, value_run (hlook _ rfl), ?_⟩
                cases ok
                · exact hzrel
                · simp only [if_true, cond_true, rel]; exact ⟨_, rfl, rels_cons hzrel (rels_cons (by simp [rel]) rels_nil)⟩
            | some p =>
              cases res' with
              | none => exact h2.elim
              | some q =>
                simp only [Option.some.injEq] at hf
                subst hf
                refine ⟨_, value_run (hlook _ rfl), ?_⟩
                cases ok
                · exact h2.1
                · simp only [if_true, cond_true, rel]; exact ⟨_, rfl, rels_cons h2.1 (rels_cons (by simp [rel]) rels_nil)⟩
        split at h
        · rename_i es hes
          split at hes
          · rename_i hmv
            cases hes
            rw [hmv] at hmr
            simp only [rel] at hmr
            exact ents #[] (List.Perm.refl []) .nil List.Pairwise.nil (by rw [hmr]; unfold Instr.lookup lookTail; simp only [Sem.run_bind, run_underlying hu, Result.andThen_ok, Sem.run_pure]; rfl) h
          · rename_i b hmv
            split at hes
            · rename_i es0 clock hb
              cases hes
              rw [hmv] at hmr
              simp only [rel] at hmr
              obtain ⟨b', hv, ha⟩ := hmr
              obtain ⟨_, es', clock', l, h1, hp, h2, hap, _, _⟩ := hS.map ha hb
              exact ents es' hp h2 hap (by rw [hv]; unfold Instr.lookup lookTail; simp only [Sem.run_bind, run_underlying hu, Result.andThen_ok, run_getObj_map h1, Sem.run_pure]; rfl) h
            · cases hes
          · cases hes
        · cases h
    · cases hc
  · cases hc

theorem rd_assert {x : Operand} {u t : TypeId} {ok : Bool} {op : AOp} {v : AV} (o : Oper) (ho : o.op = .typeAssert x u t ok) (hc : cOp P (.typeAssert x u t ok) = some op) (hF : FRel r a a') (h : rd op a H = some v) : RdOk P r w a' o v := by
  simp only [cOp] at hc
  unfold RdOk execOp
  rw [ho]
  split at hc
  · cases hc
  · rename_i y d hni hx hd
    split at hc
    · rename_i z hz
      cases hc
      obtain ⟨zv, hzr, hzrel⟩ := zeroV_run (r := r) (w := w) hz
      have hr := cX_rel hF hx
      have fails : ok = true → v = .tuple [z, .bool false] → (Instr.typeAssert (a'.eval x) u t true).run P w = .ok (.tuple #[zv, .bool false]) w → ∃ v', (do pure (Next.value (← Instr.typeAssert (a'.eval x) u t ok)) : Sem Next).run P w = .ok (.value v') w ∧ rel r v v' := by
        rintro rfl rfl hrun
        exact ⟨_, value_run hrun, by simp only [rel]; exact ⟨_, rfl, rels_cons hzrel (rels_cons (by simp [rel]) rels_nil)⟩⟩
      simp only [rd] at h
      split at h
      · rename_i t' p he
        rw [he] at hr; simp only [rel] at hr
        obtain ⟨p', hv, hp⟩ := hr
        rw [natbeq] at h
        by_cases htt : t' = t
        · simp only [htt, decide_true, cond_true, Option.some.injEq] at h
          subst h
          refine ⟨if ok then .tuple #[p', .bool true] else p', value_run ?_, ?_⟩
          · unfold Instr.typeAssert
            simp only [Sem.run_bind, run_underlying hd, Result.andThen_ok, hv]
            cases d <;> first | (simp [htt]; done) | exact absurd rfl (hni _)
          · cases ok
            · exact hp
            · simp only [if_true, cond_true, rel]; exact ⟨_, rfl, rels_cons hp (rels_cons (by simp [rel]) rels_nil)⟩
        · simp only [htt, decide_false, cond_false] at h
          cases hok : ok with
          | false => rw [hok] at h; cases h
          | true =>
            rw [hok] at h
            simp only [cond_true, Option.some.injEq] at h
            rw [← hok]
            refine fails hok h.symm ?_
            unfold Instr.typeAssert
            simp only [Sem.run_bind, run_underlying hd, Result.andThen_ok, hv]
            cases d <;> first | (simp [htt, hzr]; done) | exact absurd rfl (hni _)
      · rename_i he
        rw [he] at hr; simp only [rel] at hr
        cases hok : ok with
        | false => rw [hok] at h; cases h
        | true =>
          rw [hok] at h
          simp only [cond_true, Option.some.injEq] at h
          rw [← hok]
          refine fails hok h.symm ?_
          unfold Instr.typeAssert
          simp only [Sem.run_bind, run_underlying hd, Result.andThen_ok, hr]
          cases d <;> first | (simp [hzr]; done) | exact absurd rfl (hni _)
      · cases h
    · cases hc
  · cases hc

theorem rd_extract {x : Operand} {i : Nat} {op : AOp} {v : AV} (o : Oper) (ho : o.op = .extract x i) (hc : cOp P (.extract x i) = some op) (hF : FRel r a a') (h : rd op a H = some v) : RdOk P r w a' o v := by
  simp only [cOp] at hc
  unfold RdOk execOp
  rw [ho]
  split at hc
  · rename_i y hx; cases hc
    simp only [rd] at h
    split at h
    · rename_i vs he
      have hr := cX_rel hF hx
      rw [he] at hr; simp only [rel] at hr
      obtain ⟨vs', hv, hrs⟩ := hr
      obtain ⟨v', h1, h2⟩ := rels_get hrs i v h
      have h1' : vs'[i]? = some v' := by simpa using h1
      refine ⟨v', value_run ?_, h2⟩
      simp [Instr.extract, hv, h1']
    · cases h
  · cases hc

end
end Go.AE
end
-- Operations that leave the heap alone: all of them.
section
namespace Go.AE
section
variable {B : Nat} {r : Ren} {H : Heap} {w : World} {P : Program} {a : Frm} {a' : Act}

theorem builtin_run {o : Oper} {b : Builtin} {c : Call} (ho : o.op = .call c) (hc : c.callee = .builtin b) (ρ : Operand → Value) :
    execOp ρ o = Go.builtin b c.argTypes o.type (c.args.map fun | .const _ => true | _ => false) (c.args.map ρ) := by
  unfold execOp
  rw [ho]
  simp only [resolve, hc]
  rfl

theorem cXs_two {l : List Operand} {x y : AX} (h : cXs l = some [x, y]) : ∃ p q, l = [p, q] ∧ cX p = some x ∧ cX q = some y := by
  cases l with
  | nil => simp [cXs] at h
  | cons p l =>
    simp only [cXs] at h
    split at h
    · rename_i u us h1 h2
      simp only [Option.some.injEq, List.cons.injEq] at h
      obtain ⟨rfl, rfl⟩ := h
      cases l with
      | nil => simp [cXs] at h2
      | cons q l =>
        simp only [cXs] at h2
        split at h2
        · rename_i v vs h3 h4
          simp only [Option.some.injEq, List.cons.injEq] at h2
          obtain ⟨rfl, rfl⟩ := h2
          cases l with
          | nil => exact ⟨p, q, rfl, h1, h3⟩
          | cons s l =>
            simp only [cXs] at h4
            split at h4 <;> simp at h4
        · cases h2
    · cases h

theorem cXs_one {l : List Operand} {x : AX} (h : cXs l = some [x]) : ∃ p, l = [p] ∧ cX p = some x := by
  cases l with
  | nil => simp [cXs] at h
  | cons p l =>
    simp only [cXs] at h
    split at h
    · rename_i u us h1 h2
      simp only [Option.some.injEq, List.cons.injEq] at h
      obtain ⟨rfl, rfl⟩ := h
      cases l with
      | nil => exact ⟨p, rfl, h1⟩
      | cons q l =>
        simp only [cXs] at h2
        split at h2 <;> simp at h2
    · cases h

theorem args_one {l : Array Operand} {p : Operand} (h : l.toList = [p]) (ρ : Operand → Value) : l.map ρ = #[ρ p] := by
  apply Array.ext'; simp [h]

theorem args_two {l : Array Operand} {p q : Operand} (h : l.toList = [p, q]) (ρ : Operand → Value) : l.map ρ = #[ρ p, ρ q] := by
  apply Array.ext'; simp [h]

theorem foldMin : ∀ (ys : List AV) (ys' : List Value) (x v : AV) (x' : Value), rels r ys ys' → rel r x x' → minI2 x ys = some v → ∃ v', (ys'.foldlM Builtin.min2 x').run P w = .ok v' w ∧ rel r v v'
  | [], ys', x, v, x', hs, hx, h => by
    simp only [rels] at hs; subst hs
    simp only [minI2, Option.some.injEq] at h; subst h
    exact ⟨x', rfl, hx⟩
  | y :: ys, ys', x, v, x', hs, hx, h => by
    simp only [rels] at hs
    obtain ⟨y', ys'', rfl, hy, hs⟩ := hs
    unfold minI2 at h
    split at h
    · rename_i e; cases e
    · rename_i k n k' m rest e
      obtain ⟨rfl, rfl⟩ := List.cons.inj e
      simp only [rel] at hx hy
      subst hx; subst hy
      obtain ⟨v', h1, h2⟩ := foldMin ys ys'' (.int k (bif fits.Int.ble' n m then n else m)) v (.int k (if m < n then m else n)) hs (by
        simp only [rel, ble'_iff]
        by_cases h : n ≤ m
        · simp [h, show ¬ m < n by omega]
        · simp [h, show m < n by omega]) h
      refine ⟨v', ?_, h2⟩
      simp only [List.foldlM_cons, Sem.run_bind]
      exact h1
    · cases h

theorem foldMax : ∀ (ys : List AV) (ys' : List Value) (x v : AV) (x' : Value), rels r ys ys' → rel r x x' → maxI2 x ys = some v → ∃ v', (ys'.foldlM Builtin.max2 x').run P w = .ok v' w ∧ rel r v v'
  | [], ys', x, v, x', hs, hx, h => by
    simp only [rels] at hs; subst hs
    simp only [maxI2, Option.some.injEq] at h; subst h
    exact ⟨x', rfl, hx⟩
  | y :: ys, ys', x, v, x', hs, hx, h => by
    simp only [rels] at hs
    obtain ⟨y', ys'', rfl, hy, hs⟩ := hs
    unfold maxI2 at h
    split at h
    · rename_i e; cases e
    · rename_i k n k' m rest e
      obtain ⟨rfl, rfl⟩ := List.cons.inj e
      simp only [rel] at hx hy
      subst hx; subst hy
      obtain ⟨v', h1, h2⟩ := foldMax ys ys'' (.int k (bif fits.Int.ble' m n then n else m)) v (.int k (if m > n then m else n)) hs (by
        simp only [rel, ble'_iff]
        by_cases h : m ≤ n
        · simp [h, show ¬ n < m by omega]
        · simp [h, show n < m by omega]) h
      refine ⟨v', ?_, h2⟩
      simp only [List.foldlM_cons, Sem.run_bind]
      exact h1
    · cases h

theorem rd_minmax {o : Oper} {c : Call} {op : AOp} {v : AV} {b : Builtin} (ho : o.op = .call c) (hb : c.callee = .builtin b) {args : List AX} (hargs : cXs c.args.toList = some args) (hF : FRel r a a')
    (hop : (b = .min ∧ op = .minI args) ∨ (b = .max ∧ op = .maxI args)) (h : rd op a H = some v) : RdOk P r w a' o v := by
  unfold RdOk
  rw [builtin_run ho hb]
  have hr := cXs_rel hF hargs
  have e : (c.args.map a'.eval).toList = c.args.toList.map a'.eval := by simp
  rw [← e] at hr
  rcases hop with ⟨rfl, rfl⟩ | ⟨rfl, rfl⟩
  · simp only [rd] at h
    cases hm : args.map (evalX a) with
    | nil => rw [hm] at h; cases h
    | cons x rest =>
      rw [hm] at h hr
      simp only at h
      simp only [rels] at hr
      obtain ⟨y, ys, he, h1, h2⟩ := hr
      obtain ⟨v', h3, h4⟩ := foldMin (P := P) (w := w) rest ys x v y h2 h1 h
      refine ⟨v', value_run ?_, h4⟩
      unfold Builtin.min_
      rw [he]; exact h3
  · simp only [rd] at h
    cases hm : args.map (evalX a) with
    | nil => rw [hm] at h; cases h
    | cons x rest =>
      rw [hm] at h hr
      simp only at h
      simp only [rels] at hr
      obtain ⟨y, ys, he, h1, h2⟩ := hr
      obtain ⟨v', h3, h4⟩ := foldMax (P := P) (w := w) rest ys x v y h2 h1 h
      refine ⟨v', value_run ?_, h4⟩
      unfold Builtin.max_
      rw [he]; exact h3

theorem rd_len {o : Oper} {c : Call} {op : AOp} {v : AV} {x : AX} (ho : o.op = .call c) (hb : c.callee = .builtin .len) (hargs : cXs c.args.toList = some [x]) (hS : Sim B r H w) (hF : FRel r a a')
    (hc : cBuiltin P .len c.argTypes [x] = some op) (h : rd op a H = some v) : RdOk P r w a' o v := by
  unfold RdOk
  rw [builtin_run ho hb]
  obtain ⟨p, hp, hx⟩ := cXs_one hargs
  have hr := cX_rel hF hx
  rw [args_one hp]
  simp only [cBuiltin] at hc
  split at hc
  · rename_i t ht
    have base : ∀ z, (Builtin.len_ c.argTypes o.type #[a'.eval p]).run P w = .ok z w → rel r v z → ∃ v', (Go.builtin .len c.argTypes o.type (c.args.map fun | .const _ => true | _ => false) #[a'.eval p]).run P w = .ok (.value v') w ∧ rel r v v' :=
      fun z hz hrz => ⟨z, value_run hz, hrz⟩
    have unf : ∀ d, P.underlying t = some d → (Builtin.len_ c.argTypes o.type #[a'.eval p]).run P w = (match d, a'.eval p with
      | .string, .string s => pure (goInt s.size)
      | .array n _, _ => pure (goInt n)
      | .pointer arr, _ => do
        let .array n _ ← underlying arr | stuck "len: pointer to array expected"
        pure (goInt n)
      | .slice _, .slice _ n _ => pure (goInt n)
      | .map _ _, .map none | .chan _ _, .chan none => pure (goInt 0)
      | .map _ _, .map (some r) => do
        let .map entries _ ← getObj r | stuck "len: map expected"
        pure (goInt entries.size)
      | .chan _ _, .chan (some r) => do
        let .chan _ buf _ _ _ timer ← getObj r | stuck "len: channel expected"
        pure (goInt (if timer then 0 else buf.size))
      | _, _ => stuck "len: string, array, pointer to array, slice, map or channel expected" : Sem Value).run P w := by
      intro d hd
      unfold Builtin.len_
      simp only [ht, List.getElem?_toArray, List.getElem?_cons_zero, Sem.run_bind, run_underlying hd, Result.andThen_ok]
      rfl
    split at hc
    · rename_i hu
      cases hc
      simp only [rd] at h
      split at h
      · rename_i s he
        cases h
        rw [he] at hr; simp only [rel] at hr
        refine base _ (by rw [unf _ hu, hr]; rfl) (by simp only [rel]; rfl)
      · cases h
    · rename_i n e hu
      cases hc
      simp only [rd, Option.some.injEq] at h
      subst h
      exact base _ (by rw [unf _ hu]; rfl) (by simp only [rel]; rfl)
    · rename_i arr hu
      split at hc
      · rename_i n e hu2
        cases hc
        simp only [rd, Option.some.injEq] at h
        subst h
        exact base _ (by rw [unf _ hu]; simp only [Sem.run_bind, run_underlying hu2, Result.andThen_ok]; rfl) (by simp only [rel]; rfl)
      · cases hc
    · rename_i e hu
      cases hc
      simp only [rd] at h
      split at h
      · rename_i q n cc he
        cases h
        rw [he] at hr
        have : ∃ q' c', a'.eval p = .slice q' n c' := by
          cases q <;> simp only [rel] at hr
          · obtain ⟨m, _, h⟩ := hr; exact ⟨_, _, h⟩
          · obtain ⟨_, _, _, h, _⟩ := hr; exact ⟨_, _, h⟩
        obtain ⟨q', c', hq⟩ := this
        exact base _ (by rw [unf _ hu, hq]; rfl) (by simp only [rel]; rfl)
      · cases h
    · rename_i k e hu
      cases hc
      simp only [rd] at h
      split at h
      · rename_i he
        cases h
        rw [he] at hr; simp only [rel] at hr
        exact base _ (by rw [unf _ hu, hr]; rfl) (by simp only [rel]; rfl)
      · rename_i b he
        split at h
        · rename_i es clock hes
          cases h
          rw [he] at hr; simp only [rel] at hr
          obtain ⟨b', hv, ha⟩ := hr
          obtain ⟨_, es', clock', l, h1, hp, h2, _, _, _⟩ := hS.map ha hes
          have hlen : es.length = es'.size := by
            have : ∀ {l : List (AV × AV × Nat)} {l' : List MapEntry}, entsRel r l l' → l.length = l'.length := by
              intro l l' h; induction h with
              | nil => rfl
              | cons _ _ _ ih => simp [ih]
            rw [← hp.length_eq, this h2]; simp
          exact base _ (by rw [unf _ hu, hv]; simp only [Sem.run_bind, run_getObj_map h1, Result.andThen_ok]; rfl) (by simp only [rel]; rw [hlen]; rfl)
        · cases h
      · cases h
    · cases hc
  · cases hc

/-- an operation that leaves the heap alone is the model's -/
theorem rd_sound (o : Oper) {op : AOp} {v : AV} (hc : cOp P o.op = some op) (hk : kindOf op = .rd) (hS : Sim B r H w) (hF : FRel r a a') (h : rd op a H = some v) : RdOk P r w a' o v := by
  cases ho : o.op with
  | move x => exact rd_move o (.inl ho) hc hF h
  | assign x => exact rd_move o (.inr ho) hc hF h
  | pick c x y => rw [ho] at hc; exact rd_pick o ho hc hF h
  | build t parts => rw [ho] at hc; exact rd_build o ho hc hF h
  | load t x => rw [ho] at hc; exact rd_load o ho hc hS hF h
  | nilCheck x => rw [ho] at hc; exact rd_nilCheck o ho hc hF h
  | binOp b t x y u => rw [ho] at hc; exact rd_binOp o ho hc hF h
  | unOp u t x => rw [ho] at hc; exact rd_un o ho hc hF h
  | convert s d x => rw [ho] at hc; exact rd_convert o ho hc hk hS hF h
  | sliceToArrayPointer t x => rw [ho] at hc; exact rd_arrPtr o ho hc hF h
  | makeInterface t x => rw [ho] at hc; exact rd_mkIface o ho hc hF h
  | makeFunc fn f c => rw [ho] at hc; exact rd_mkFunc o ho hc hF h
  | slice t x l hh m => rw [ho] at hc; exact rd_slice o ho hc hF h
  | fieldAddr t x i => rw [ho] at hc; exact rd_fieldAddr o ho hc hF h
  | field t x i => rw [ho] at hc; exact rd_field o ho hc hF h
  | indexAddr t x i => rw [ho] at hc; exact rd_indexAddr o ho hc hF h
  | index t x i => rw [ho] at hc; exact rd_index o ho hc hF h
  | lookup t m k ok => rw [ho] at hc; exact rd_lookup o ho hc hS hF h
  | typeAssert x u t ok => rw [ho] at hc; exact rd_assert o ho hc hF h
  | extract x i => rw [ho] at hc; exact rd_extract o ho hc hF h
  | call c =>
    rw [ho] at hc
    simp only [cOp] at hc
    split at hc
    · rename_i args hargs
      split at hc
      · split at hc <;> cases hc; cases hk
      · split at hc <;> cases hc; cases hk
      · rename_i b hb
        have hc0 := hc
        unfold cBuiltin at hc
        split at hc
        · exact rd_len ho hb hargs hS hF hc0 h
        · exfalso; (repeat' split at hc) <;> first | (cases hc; done) | (cases hc; cases hk)
        · exfalso; (repeat' split at hc) <;> first | (cases hc; done) | (cases hc; cases hk)
        · cases hc; exact rd_minmax ho hb hargs hF (.inl ⟨rfl, rfl⟩) h
        · cases hc; exact rd_minmax ho hb hargs hF (.inr ⟨rfl, rfl⟩) h
        · exfalso; (repeat' split at hc) <;> first | (cases hc; done) | (cases hc; cases hk)
        · cases hc
    · cases hc
  | alloc e => rw [ho] at hc; simp only [cOp] at hc; split at hc <;> cases hc; cases hk
  | box e x => rw [ho] at hc; simp only [cOp] at hc; split at hc <;> cases hc; cases hk
  | buildSlice t n ps =>
    rw [ho] at hc; simp only [cOp] at hc; exfalso
    split at hc
    · split at hc
      · rename_i z n' _ _
        cases hb : Nat.ble (n * n') 16777216 with
        | false => rw [hb] at hc; cases hc
        | true => rw [hb] at hc; simp only [cond_true] at hc; split at hc <;> cases hc; cases hk
      · cases hc
    · cases hc
  | store t x y => rw [ho] at hc; simp only [cOp] at hc; split at hc <;> cases hc; cases hk
  | makeMap t h => rw [ho] at hc; simp only [cOp] at hc; split at hc <;> cases hc; cases hk
  | makeSlice t l c => rw [ho] at hc; simp only [cOp] at hc; (repeat' split at hc) <;> cases hc; cases hk
  | mapUpdate t m k x => rw [ho] at hc; simp only [cOp] at hc; (repeat' split at hc) <;> cases hc; cases hk
  | insert t m k x => rw [ho] at hc; simp only [cOp] at hc; (repeat' split at hc) <;> cases hc; cases hk
  | _ => rw [ho] at hc; simp only [cOp] at hc; cases hc

end
end Go.AE
end
-- Operations that make a block.
section
namespace Go.AE
section
variable {B : Nat} {r : Ren} {w : World} {P : Program} {a : Frm} {a' : Act}

/-- what is to be shown of an operation that makes a block -/
def AlOk (P : Program) (r : Ren) (w : World) (a' : Act) (o : Oper) (x : ABlk) (f : Nat → AV) : Prop :=
  ∃ (obj : Obj) (n : Nat) (v' : Value) (d : Nat), (execOp a'.eval o).run P w = .ok (.value v') { w with heap := w.heap.push obj, drawn := d } ∧
    ∀ (r' : Ren) (i : Nat), r.le r' → r'.m i = some w.heap.size → r'.sz i = n → blkRel r' i x obj ∧ rel r' (f i) v'

theorem newRow_run (elem : TypeId) (cells : Array Value) : (newRow elem cells).run P w = .ok ⟨w.heap.size, 0, none⟩ { w with heap := w.heap.push (.cells cells elem) } := by
  simp [newRow]

theorem loose_zero (n : Nat) : loose n (0, 0) := fun i _ h => by omega

theorem blk_closed {r' : Ren} {i : Nat} {cs : List AV} {cs' : Array Value} {e : TypeId} (h : rels r' cs cs'.toList) : blkRel r' i (.cells cs e false false) (.cells cs' e) :=
  ⟨cs', (0, 0), [], rfl, loose_zero _, ⟨cs'.toList, by simp, h⟩, rfl⟩

theorem al_alloc {e : TypeId} {op : AOp} {x : ABlk} {f : Nat → AV} (o : Oper) (ho : o.op = .alloc e) (hc : cOp P (.alloc e) = some op) (h : al op a = some (x, f)) : AlOk P r w a' o x f := by
  simp only [cOp] at hc
  unfold AlOk execOp
  rw [ho]
  split at hc
  · rename_i z hz; cases hc
    simp only [al, Option.some.injEq, Prod.mk.injEq] at h
    obtain ⟨rfl, rfl⟩ := h
    obtain ⟨zv, h1, h2, _⟩ := zero_run (r := r) (w := w) hz
    refine ⟨.cells zv.cells e, 0, .pointer (some ⟨w.heap.size, 0, none⟩), w.drawn, ?_, ?_⟩
    · refine value_run ?_
      unfold Instr.alloc newVar
      simp only [Sem.run_bind, h1, Result.andThen_ok, newRow_run]
      rfl
    · intro r' i hle hm _
      refine ⟨blk_closed (rels.mono hle _ _ h2), ?_⟩
      simp only [rel]; exact ⟨_, rfl, .inl hm⟩
  · cases hc

theorem al_box {e : TypeId} {y : Operand} {op : AOp} {x : ABlk} {f : Nat → AV} (o : Oper) (ho : o.op = .box e y) (hc : cOp P (.box e y) = some op) (hF : FRel r a a') (h : al op a = some (x, f)) : AlOk P r w a' o x f := by
  simp only [cOp] at hc
  unfold AlOk execOp
  rw [ho]
  split at hc
  · rename_i z hz; cases hc
    simp only [al, Option.some.injEq, Prod.mk.injEq] at h
    obtain ⟨rfl, rfl⟩ := h
    refine ⟨.cells (a'.eval y).cells e, 0, .pointer (some ⟨w.heap.size, 0, none⟩), w.drawn, ?_, ?_⟩
    · refine value_run ?_
      unfold Instr.box newVar
      simp only [Sem.run_bind, Result.andThen_ok, newRow_run]
      rfl
    · intro r' i hle hm _
      refine ⟨blk_closed (rels.mono hle _ _ (rel_cells (cX_rel hF hz))), ?_⟩
      simp only [rel]; exact ⟨_, rfl, .inl hm⟩
  · cases hc

theorem repl_range (z : Array Value) : ∀ (n : Nat) (zs : List AV), rels r zs z.toList → rels r (repl n zs) (((Array.range (n * z.size)).map (z[· % z.size]!)).toList)
  | 0, zs, h => by simp [repl, rels]
  | n + 1, zs, h => by
    have e : ((Array.range ((n + 1) * z.size)).map (z[· % z.size]!)).toList = z.toList ++ ((Array.range (n * z.size)).map (z[· % z.size]!)).toList := by
      apply List.ext_getElem?
      intro i
      simp only [Array.toList_map, Array.toList_range, List.getElem?_map, List.getElem?_append, Array.length_toList]
      by_cases hi : i < z.size
      · rw [if_pos hi, List.getElem?_range (by rw [Nat.add_mul]; omega)]
        simp [Nat.mod_eq_of_lt hi, hi]
      · rw [if_neg hi]
        by_cases hj : i - z.size < n * z.size
        · rw [List.getElem?_range (by rw [Nat.add_mul]; omega), List.getElem?_range hj]
          simp only [Option.map_some, Option.some.injEq]
          rw [Nat.mod_eq_sub_mod (by omega)]
        · rw [List.getElem?_eq_none (by simp [Nat.add_mul]; omega), List.getElem?_eq_none (by simp; omega)]
    rw [e]
    exact rels_append h (repl_range z n zs h)

theorem al_makeSlice {t : TypeId} {l c : Operand} {op : AOp} {x : ABlk} {f : Nat → AV} (o : Oper) (ho : o.op = .makeSlice t l c) (hc : cOp P (.makeSlice t l c) = some op) (hF : FRel r a a') (h : al op a = some (x, f)) : AlOk P r w a' o x f := by
  simp only [cOp] at hc
  unfold AlOk execOp
  rw [ho]
  split at hc
  · rename_i e l' c' hu hl hcc
    split at hc
    · rename_i i z hinf hz
      cases hc
      have hsz0 : sizeP P e = some i.size := by simp [sizeP, hinf]
      simp only [al] at h
      split at h
      · rename_i ln cn hln hcn
        simp only [natble] at h
        by_cases hb : (ln ≤ cn ∧ cn * i.bytes ≤ 281474976710656) ∧ cn ≤ 9223372036854775807
        · rw [show (decide (ln ≤ cn) && decide (cn * i.bytes ≤ 281474976710656) && decide (cn ≤ 9223372036854775807)) = true by simp [hb]] at h
          simp only [cond_true, Option.some.injEq, Prod.mk.injEq] at h
          obtain ⟨rfl, rfl⟩ := h
          obtain ⟨⟨hb1, hb2⟩, hb3⟩ := hb
          obtain ⟨kl, ekl⟩ := natOf_some hln (cX_rel hF hl)
          obtain ⟨kc, ekc⟩ := natOf_some hcn (cX_rel hF hcc)
          obtain ⟨zv, h1, h2, h3⟩ := zero_run (r := r) (w := w) hz
          have hsz : i.size = zv.cells.size := by
            have := rels_length h2
            simp only [sizeP, hinf, Option.map_some, Option.some.injEq] at h3
            rw [h3, this]; simp
          refine ⟨.cells ((Array.range (cn * zv.cells.size)).map (zv.cells[· % zv.cells.size]!)) e, 0, .slice (some ⟨w.heap.size, 0, none⟩) ln cn, w.drawn, ?_, ?_⟩
          · refine value_run ?_
            have wl : IntKind.i64.wrap (ln : Int) = ln := by rw [← wrapK_eq, wrapK]; rw [(fits_iff .i64 _).2 (by simp [lo, hi]; omega)]; rfl
            have wc : IntKind.i64.wrap (cn : Int) = cn := by rw [← wrapK_eq, wrapK]; rw [(fits_iff .i64 _).2 (by simp [lo, hi]; omega)]; rfl
            unfold Instr.makeSlice
            simp only [Sem.run_bind, run_underlying hu, Result.andThen_ok, ekl, ekc, asInt, asIntOf, Sem.run_pure, run_typeInfo hinf, wl, wc]
            have hmul : ((i.bytes : Int) * (cn : Int)) ≤ 281474976710656 := by rw [Int.mul_comm, ← Int.natCast_mul]; exact Int.ofNat_le.2 hb2
            rw [if_neg (by
              simp only [Bool.or_eq_true, decide_eq_true_eq, not_or]
              exact ⟨⟨⟨by omega, by omega⟩, by omega⟩, by omega⟩)]
            simp only [Sem.run_bind, run_askRoom, Result.andThen_ok, Int.toNat_natCast, run_sizeOf hsz0]
            by_cases h0 : cn * i.size = 0
            · rw [if_pos h0]
              simp only [Sem.run_bind, Sem.run_pure, Result.andThen_ok, newRow_run]
              have e1 : ∀ f : Nat → Value, (Array.range 0).map f = #[] := by intro f; simp
              rw [h0, ← hsz, h0, e1, e1]
            · rw [if_neg h0]
              simp only [Sem.run_bind, h1, Result.andThen_ok, Sem.run_pure, newRow_run, hsz]
          · intro r' j hle hm _
            refine ⟨blk_closed (repl_range _ _ _ (rels.mono hle _ _ h2)), ?_⟩
            simp only [rel]; exact ⟨_, 0, cn, rfl, .inl hm, rfl, .inl rfl⟩
        · rw [show (decide (ln ≤ cn) && decide (cn * i.bytes ≤ 281474976710656) && decide (cn ≤ 9223372036854775807)) = false by simp; omega] at h
          cases h
      · cases h
    · cases hc
  · cases hc

theorem al_buildSlice {t : TypeId} {len : Nat} {parts : Array (Nat × Operand)} {op : AOp} {x : ABlk} {f : Nat → AV} (o : Oper) (ho : o.op = .buildSlice t len parts) (hc : cOp P (.buildSlice t len parts) = some op) (hF : FRel r a a') (h : al op a = some (x, f)) : AlOk P r w a' o x f := by
  simp only [cOp] at hc
  unfold AlOk execOp
  rw [ho]
  split at hc
  · rename_i e hu
    split at hc
    · rename_i z n hz hn
      rw [natble] at hc
      by_cases hb : len * n ≤ 16777216
      · simp only [hb, decide_true, cond_true] at hc
        split at hc
        · rename_i l hl
          cases hc
          simp only [al] at h
          split at h
          · rename_i cs hcs
            simp only [Option.some.injEq, Prod.mk.injEq] at h
            obtain ⟨rfl, rfl⟩ := h
            obtain ⟨zv, h1, h2, h3⟩ := zero_run (r := r) (w := w) hz
            have hsz : n = zv.cells.size := by
              have := rels_length h2
              rw [hn] at h3
              simp only [Option.some.injEq] at h3
              rw [h3, this]; simp
            have hz' : rels r (repl len z) (((Array.range (len * zv.cells.size)).map (zv.cells[· % zv.cells.size]!)).toList) := repl_range _ _ _ h2
            obtain ⟨ds, h4, h5⟩ := fill_run _ parts.toList l _ (repl len z) cs hF hl hz' hcs
            refine ⟨.cells ds e, 0, .slice (some ⟨w.heap.size, 0, none⟩) len len, w.drawn, ?_, ?_⟩
            · refine value_run ?_
              have parr : (parts.map fun (x : Nat × Operand) => (x.1, a'.eval x.2)).toList = parts.toList.map fun (x : Nat × Operand) => (x.1, a'.eval x.2) := by simp
              unfold Instr.buildSlice
              simp only [Sem.run_bind, run_underlying hu, Result.andThen_ok, run_sizeOf hn]
              rw [if_neg (by omega)]
              by_cases h0 : len * n = 0
              · rw [if_pos h0]
                have e0 : len * zv.cells.size = 0 := by rw [← hsz]; exact h0
                rw [e0] at h4
                simp only [Sem.run_pure, Result.andThen_ok, Sem.run_bind, parr]
                have e1 : ((Array.range (len * n)).map ((#[] : Array Value)[· % (#[] : Array Value).size]!)) = (Array.range 0).map (zv.cells[· % zv.cells.size]!) := by rw [h0]; simp
                rw [e1, h4]
                simp only [newRow_run, Sem.run_bind, Result.andThen_ok, Sem.run_pure]
              · rw [if_neg h0]
                simp only [Sem.run_bind, h1, Sem.run_pure, Result.andThen_ok, parr]
                have e1 : len * n = len * zv.cells.size := by rw [hsz]
                have e2 : (Array.range (len * n)).map (zv.cells[· % zv.cells.size]!) = (Array.range (len * zv.cells.size)).map (zv.cells[· % zv.cells.size]!) := by rw [e1]
                rw [e2, h4]
                simp only [newRow_run, Sem.run_bind, Result.andThen_ok, Sem.run_pure]
            · intro r' j hle hm _
              refine ⟨blk_closed (rels.mono hle _ _ h5), ?_⟩
              simp only [rel]; exact ⟨_, 0, len, rfl, .inl hm, rfl, .inl rfl⟩
          · cases h
        · cases hc
      · simp [hb] at hc
    · cases hc
  · cases hc

theorem al_makeMap {t : TypeId} {hh : Option Operand} {op : AOp} {x : ABlk} {f : Nat → AV} (o : Oper) (ho : o.op = .makeMap t hh) (hc : cOp P (.makeMap t hh) = some op) (hF : FRel r a a') (h : al op a = some (x, f)) : AlOk P r w a' o x f := by
  simp only [cOp] at hc
  unfold AlOk execOp
  rw [ho]
  split at hc
  · rename_i k e y hu hy
    cases hc
    have fin : x = .map [] 0 → f = (fun i => .map (some i)) → (Instr.makeMap t (hh.map a'.eval)).run P w = .ok (.map (some w.heap.size)) { w with heap := w.heap.push (.map #[] 0) } →
        ∃ (obj : Obj) (n : Nat) (v' : Value) (d : Nat), (do pure (Next.value (← Instr.makeMap t (hh.map a'.eval))) : Sem Next).run P w = .ok (.value v') { w with heap := w.heap.push obj, drawn := d } ∧
          ∀ (r' : Ren) (i : Nat), r.le r' → r'.m i = some w.heap.size → r'.sz i = n → blkRel r' i x obj ∧ rel r' (f i) v' := by
      rintro rfl rfl hrun
      refine ⟨.map #[] 0, 0, .map (some w.heap.size), w.drawn, value_run hrun, ?_⟩
      intro r' i hle hm _
      exact ⟨⟨#[], 0, [], rfl, List.Perm.refl _, .nil, List.Pairwise.nil, List.nodup_nil, fun x hx => nomatch hx⟩, by simp only [rel]; exact ⟨_, rfl, .inl hm⟩⟩
    simp only [al] at h
    rcases cOX_some hy with ⟨rfl, rfl⟩ | ⟨u, v, rfl, rfl, hv⟩
    · simp only [Option.some.injEq, Prod.mk.injEq] at h
      exact fin h.1.symm h.2.symm (by simp [Instr.makeMap])
    · simp only at h
      split at h
      · rename_i kk n he
        simp only [Option.some.injEq, Prod.mk.injEq] at h
        have hr := cX_rel hF hv
        rw [he] at hr; simp only [rel] at hr
        exact fin h.1.symm h.2.symm (by simp [Instr.makeMap, run_underlying hu, hr, asInt, asIntOf])
      · cases h
  · cases hc

theorem modify_push {α : Type} (h : Array α) (o : α) (f : α → α) : (h.push o).modify h.size f = h.push (f o) := by
  apply Array.ext_getElem?
  intro i
  simp only [Array.getElem?_modify, Array.getElem?_push]
  by_cases e : h.size = i
  · subst e; simp
  · rw [if_neg e]
    by_cases e' : i = h.size
    · exact absurd e'.symm e
    · simp [e']

theorem al_strToBytes {s d : TypeId} {y : Operand} {op : AOp} {x : ABlk} {f : Nat → AV} (o : Oper) (ho : o.op = .convert s d y) (hc : cOp P (.convert s d y) = some op) (hF : FRel r a a') (h : al op a = some (x, f)) : AlOk P r w a' o x f := by
  simp only [cOp] at hc
  unfold AlOk execOp
  rw [ho]
  split at hc
  · rename_i y' hy
    unfold cConv at hc
    split at hc
    · cases hc; cases h
    · cases hc; cases h
    · rename_i e h1 h2
      split at hc
      · rename_i he
        cases hc
        simp only [al] at h
        split at h
        · rename_i st hst
          simp only [Option.some.injEq, Prod.mk.injEq] at h
          obtain ⟨rfl, rfl⟩ := h
          have hr := cX_rel hF hy
          rw [hst] at hr; simp only [rel] at hr
          let cap := Question.cut (.appendCap st.length 0 e) (w.tape w.drawn (.appendCap st.length 0 e))
          have hcap : st.length ≤ cap := by show st.length ≤ st.length + _; omega
          let cells : Array Value := (st.toArray.map fun b => Value.int .u8 b.toNat) ++ Array.replicate (cap - st.length) (.int .u8 0)
          have hcs : cells.size = cap := by simp [cells]; omega
          refine ⟨.cells cells e (cap, cap + 1), cap, .slice (some ⟨w.heap.size, 0, none⟩) st.length cap, w.drawn + 1, ?_, ?_⟩
          · refine value_run ?_
            have hconv : (convert s d (a'.eval y)).run P w = (Conv.stringToBytes e ⟨⟨st⟩⟩).run P w := by
              rw [hr]; simp [convert, run_underlying h1, run_underlying h2, run_underlying he]
            rw [hconv]
            unfold Conv.stringToBytes
            simp only [Sem.run_bind, run_choose]
            have hq : (Question.appendCap (⟨⟨st⟩⟩ : ByteArray).size 0 e).forced = false := rfl
            rw [hq]
            simp only [Bool.false_eq_true, if_false, Result.andThen_ok, newRow_run]
            have hshape : World.shape? { w with heap := w.heap.push (.cells cells e), drawn := w.drawn + 1 } w.heap.size = some (e, cap) := by
              simp [World.shape?, hcs]
            unfold markStringish
            simp only [Sem.run_bind, run_shape]
            show ((Result.ok (World.shape? { w with heap := w.heap.push (.cells cells e), drawn := w.drawn + 1 } w.heap.size) _).andThen _).andThen _ = _
            rw [hshape]
            simp only [Result.andThen_ok, run_freeze, Sem.run_pure]
            congr 1
            unfold World.freeze
            rw [if_neg (by omega)]
            congr 1
            exact modify_push _ _ _
          · intro r' i hle hm hsz
            refine ⟨⟨cells, (cap, cap + 1), List.replicate (cap - st.length) (.int .u8 0), rfl, fun j hj h => by omega, ⟨st.map fun b => Value.int .u8 b.toNat, by simp [cells], rels_map _ _ st fun b _ => by simp only [rel]; rfl⟩, by simp only [cond_true]; rw [hcs, hsz]⟩, ?_⟩
            simp only [rel]
            exact ⟨_, 0, cap, rfl, .inl hm, ⟨hcap, .inr (.inl (by rw [hsz]; omega))⟩, .inl rfl⟩
        · cases h
      · cases hc
    · split at hc
      · cases hc; cases h
      · cases hc
    · cases hc
  · cases hc

end
end Go.AE
end
-- Writing into a block.
section
namespace Go.AE

/-- a world with a block in the place of another -/
def setBlk (w : World) (b : Nat) (o : Obj) : World := { w with heap := w.heap.setIfInBounds b o }

theorem setBlk_self {w : World} {b : Nat} {o : Obj} (h : w.heap[b]? = some o) : setBlk w b o = w := by
  unfold setBlk
  have : w.heap.setIfInBounds b o = w.heap := by
    apply Array.ext_getElem?
    intro i
    by_cases e : b = i
    · subst e
      obtain ⟨hlt, _⟩ := Array.getElem?_eq_some_iff.1 h
      rw [Array.getElem?_setIfInBounds_self_of_lt hlt, h]
    · rw [Array.getElem?_setIfInBounds_ne e]
  rw [this]

theorem setBlk_setBlk {w : World} {b : Nat} {o o' : Obj} : setBlk (setBlk w b o) b o' = setBlk w b o' := by
  unfold setBlk
  simp only
  congr 1
  apply Array.ext_getElem?
  intro i
  by_cases e : b = i
  · subst e
    by_cases hlt : b < w.heap.size
    · rw [Array.getElem?_setIfInBounds_self_of_lt (by simpa using hlt), Array.getElem?_setIfInBounds_self_of_lt hlt]
    · rw [Array.getElem?_eq_none (by simp; omega), Array.getElem?_eq_none (by simp; omega)]
  · rw [Array.getElem?_setIfInBounds_ne e, Array.getElem?_setIfInBounds_ne e, Array.getElem?_setIfInBounds_ne e]

theorem setBlk_get {w : World} {b : Nat} {o : Obj} (h : b < w.heap.size) (i : Nat) : (setBlk w b o).heap[i]? = if i = b then some o else w.heap[i]? := by
  unfold setBlk
  by_cases e : b = i
  · subst e; rw [Array.getElem?_setIfInBounds_self_of_lt h]; simp
  · rw [Array.getElem?_setIfInBounds_ne e, if_neg (fun h => e h.symm)]

theorem setCell_setBlk {w : World} {b o : Nat} {cs : Array Value} {e : TypeId} {fr : Nat × Nat} {v : Value} (h : b < w.heap.size) :
    (setBlk w b (.cells cs e fr)).setCell ⟨b, o, none⟩ v = setBlk w b (.cells (cs.setIfInBounds o v) e fr) := by
  unfold setBlk World.setCell
  simp only
  congr 1
  apply Array.ext_getElem?
  intro i
  rw [Array.getElem?_modify]
  by_cases e : b = i
  · subst e
    rw [if_pos rfl, Array.getElem?_setIfInBounds_self_of_lt h, Array.getElem?_setIfInBounds_self_of_lt h]
    rfl
  · rw [if_neg e, Array.getElem?_setIfInBounds_ne e, Array.getElem?_setIfInBounds_ne e]

section
variable {P : Program}

theorem storeCells_run {w : World} {b o : Nat} {e : TypeId} {fr : Nat × Nat} (hb : b < w.heap.size) : ∀ (vs : List Value) (i : Nat) (cs : Array Value), loose cs.size fr → o + i + vs.length ≤ cs.size →
    (∀ v ∈ vs, v.oneCell' = true) →
    ∃ cs' : Array Value, (storeCells ⟨b, o, none⟩ vs i).run P (setBlk w b (.cells cs e fr)) = .ok () (setBlk w b (.cells cs' e fr)) ∧ cs'.size = cs.size ∧
      cs'.toList = cs.toList.take (o + i) ++ vs ++ cs.toList.drop (o + i + vs.length)
  | [], i, cs, hl, hle, hv => ⟨cs, rfl, rfl, by simp⟩
  | v :: vs, i, cs, hl, hle, hv => by
    simp only [List.length_cons] at hle
    have hcell : (setBlk w b (.cells cs e fr)).cell? ⟨b, o + i, none⟩ = some cs[o + i] := by
      simp only [World.cell?, setBlk_get hb, if_true]
      simp [Array.getElem?_eq_getElem (show o + i < cs.size by omega)]
    have hfr : (setBlk w b (.cells cs e fr)).frozen? ⟨b, o + i, none⟩ = false := by
      simp only [World.frozen?, setBlk_get hb, if_true]
      have := hl (o + i) (by omega)
      obtain ⟨p, q⟩ := fr
      simp only [Bool.and_eq_false_imp, decide_eq_true_eq, decide_eq_false_iff_not] at this ⊢
      omega
    obtain ⟨cs', h1, h2, h3⟩ := storeCells_run (o := o) (e := e) (fr := fr) hb vs (i + 1) (cs.setIfInBounds (o + i) v) (by simpa using hl) (by simp; omega) (fun u hu => hv u (by simp [hu]))
    refine ⟨cs', ?_, by simpa using h2, ?_⟩
    · simp only [storeCells, Sem.run_bind, Addr.add_eq]
      rw [run_store P _ _ _ _ (hv v (by simp))]
      simp only [hcell, hfr, Bool.false_eq_true, if_false, Result.andThen_ok]
      rw [setCell_setBlk hb]
      exact h1
    · rw [h3]
      have hlt : o + i < cs.toList.length := by simp; omega
      simp only [Array.toList_setIfInBounds]
      rw [show o + (i + 1) = o + i + 1 by omega, List.take_set, List.drop_set_of_lt (by omega), List.take_succ_eq_append_getElem hlt]
      have hm : (List.take (o + i) cs.toList).length = o + i := by rw [List.length_take]; omega
      rw [List.set_append_right _ _ (by omega), hm, Nat.sub_self]
      simp only [List.set_cons_zero, List.length_cons, List.append_assoc, List.cons_append, List.nil_append]
      congr 4
      omega

theorem rel_atom {r : Ren} {x : AV} {v : Value} (h : rel r x v) (ha : x.atom = true) : v.oneCell' = true := by
  cases x with
  | ptr p => cases p <;> simp only [rel] at h <;> first | (subst h; rfl) | (obtain ⟨_, rfl, _⟩ := h; rfl)
  | slice p l c => cases p <;> simp only [rel] at h <;> first | (obtain ⟨_, _, rfl⟩ := h; rfl) | (obtain ⟨_, _, _, rfl, _⟩ := h; rfl)
  | map p => cases p <;> simp only [rel] at h <;> first | (subst h; rfl) | (obtain ⟨_, rfl, _⟩ := h; rfl)
  | agg cs => cases ha
  | tuple cs => cases ha
  | func fn f c => simp only [rel] at h; obtain ⟨_, _, rfl, _⟩ := h; rfl
  | iface t y => simp only [rel] at h; obtain ⟨_, rfl, _⟩ := h; rfl
  | _ => simp only [rel] at h; subst h; rfl

theorem rels_atoms {r : Ren} : ∀ {xs : List AV} {vs : List Value}, rels r xs vs → xs.all AV.atom = true → ∀ v ∈ vs, v.oneCell' = true
  | [], vs, h, _, v, hv => by simp only [rels] at h; subst h; simp at hv
  | x :: xs, vs, h, ha, v, hv => by
    simp only [rels] at h
    obtain ⟨y, ys, rfl, h1, h2⟩ := h
    simp only [List.all_cons, Bool.and_eq_true] at ha
    rcases List.mem_cons.1 hv with rfl | hv
    · exact rel_atom h1 ha.1
    · exact rels_atoms h2 ha.2 v hv

variable {B : Nat} {r : Ren} {H : Heap} {w : World}

/-- a block is written anew -/
theorem Sim.setBlk (hS : Sim B r H w) {b b' : Nat} (hm : r.m b = some b') (hB : ¬ b' < B) {x x' : ABlk} (_hx : H.t.get b = some x) {obj : Obj} (ho : blkRel r b x' obj) :
    Sim B r { H with t := H.t.set b x' } (AE.setBlk w b' obj) where
  low := by simp only [AE.setBlk, Array.size_setIfInBounds]; exact hS.low
  live := fun d c hd => by
    obtain ⟨g1, ⟨y, o, g2, g3, g4, g5⟩, g6⟩ := hS.live d c hd
    by_cases e : b = d
    · subst e
      rw [hm] at hd; cases hd
      exact ⟨g1, ⟨x', obj, by simp [T.get_set], by rw [setBlk_get (hS.lt hm)]; simp, ho, fun h => absurd h hB⟩, g6⟩
    · have hne : c ≠ b' := fun h => e (hS.inj b d b' hm (h ▸ hd))
      exact ⟨g1, ⟨y, o, by simp [T.get_set, e, g2], by rw [setBlk_get (hS.lt hm), if_neg hne]; exact g3, g4, g5⟩, g6⟩
  inj := hS.inj
  dead := fun d hd => by
    obtain ⟨g1, g2⟩ := hS.dead d hd
    have : b ≠ d := fun e => by subst e; exact (hS.live b b' hm).2.2 hd
    exact ⟨g1, by simp [T.get_set, this, g2]⟩
  good := fun w' hw => hS.good w' fun d hd => by rw [hw d hd, setBlk_get (hS.lt hm), if_neg (fun h : d = b' => hB (h ▸ hd))]

theorem Step.setBlk {N : Nat} {b b' : Nat} (hm : r.m b = some b') (hB : ¬ b' < B) (hlt : b' < w.heap.size) (obj : Obj) : Step B N r w r (AE.setBlk w b' obj) where
  le := .refl r
  img := fun b c h => .inl ⟨b, h⟩
  unborn := fun _ _ h1 h2 => ⟨h1, h2⟩
  os := rfl
  tape := rfl
  output := rfl
  size := by simp [AE.setBlk]
  frame := fun c hc hb => by
    have : c ≠ b' := fun e => hB (e ▸ hb b (e ▸ hm))
    rw [setBlk_get hlt, if_neg this]

/-- cells are stored at a place of a block -/
theorem Sim.storeCells (hS : Sim B r H w) {b b' o : Nat} (ha : r.at b b') {xs : List AV} {vs : List Value} (hr : rels r xs vs) {H' : Heap} (h : H.store b o xs = some H') (N : Nat) :
    ∃ w', (Go.storeCells ⟨b', o, none⟩ vs).run P w = .ok () w' ∧ Sim B r H' w' ∧ Step B N r w r w' ∧ H'.next = H.next := by
  unfold Heap.store at h
  split at h
  · rename_i cs e op ro hb
    cases hro : (ro || !(xs.all AV.atom)) with
    | true => rw [hro] at h; cases h
    | false =>
      rw [hro] at h
      simp only [cond_false] at h
      simp only [Bool.or_eq_false_iff, Bool.not_eq_false'] at hro
      split at h
      · rename_i cs2 hlay
        cases h
        obtain ⟨hm, obj, h1, h2, h3⟩ := hS.block ha hb
        have hB : ¬ b' < B := fun hlt => by have := h3 hlt; simp only [ABlk.ro] at this; rw [hro.1] at this; cases this
        obtain ⟨cs', fr, rest, rfl, h4, ⟨l, h5, h6⟩, h7⟩ := h2
        obtain ⟨hl1, hl2⟩ := lay_some hlay
        have hlen := rels_length h6
        have hlen2 := rels_length hr
        have hsz : cs'.size = l.length + rest.length := by have := congrArg List.length h5; simpa using this
        obtain ⟨cs3, g1, g2, g3⟩ := storeCells_run (P := P) (e := e) (fr := fr) (o := o) (hS.lt hm) vs 0 cs' h4 (by omega) (rels_atoms hr hro.2)
        rw [setBlk_self h1] at g1
        refine ⟨_, g1, hS.setBlk hm hB hb ?_, Step.setBlk hm hB (hS.lt hm) _, rfl⟩
        refine ⟨cs3, fr, rest, rfl, by rw [g2]; exact h4, ⟨l.take o ++ vs ++ l.drop (o + vs.length), ?_, rels_lay hlay h6 hr⟩, by rw [g2]; exact h7⟩
        rw [g3, h5, Nat.add_zero, List.take_append_of_le_length (by omega), List.drop_append_of_le_length (by omega)]
        simp
      · cases h
  · cases h

end
end Go.AE
end
-- Operations that write, or call.
section
namespace Go.AE
section
variable {B : Nat} {r : Ren} {H : Heap} {w : World} {P : Program} {a : Frm} {a' : Act}

/-- what a call comes to is what the model's comes to -/
def CallOk (P : Program) (call : CallF) : Prop :=
  ∀ (f : Nat) (args : List AV) (H : Heap) (v : AV) (H' : Heap), call f args H = some (v, H') →
    (∃ fn, P.funcs[f]? = some fn ∧ (fn.name == "runtime.NumGoroutine") = false ∧ fn.body.isNone = false) ∧ H.next ≤ H'.next ∧
    ∀ (B : Nat) (r : Ren) (w : World) (args' : Array Value), Sim B r H w → rels r args args'.toList →
      Calls P f args' w fun e w' => ∃ r' v', e = .returned v' ∧ Sim B r' H' w' ∧ Step B H.next r w r' w' ∧ rel r' v v'

def MethodsOk (P : Program) (ms : Methods) : Prop :=
  ∀ t name f, findM ms t name = some f → ∀ v w, (Go.method (P.types.size + Made.depth) t v name).run P w = .ok (f, v) w

/-- behind an operation: the next thing at whatever it may have come to -/
def OpOk (B : Nat) (P : Program) (r : Ren) (H : Heap) (w : World) (a' : Act) (o : Oper) (v : AV) (H' : Heap) : Prop :=
  H.next ≤ H'.next ∧ ∀ (K : Act → World → Prop) (Q : Exit → Act → World → Prop),
    (∀ r' w' v', Sim B r' H' w' → Step B H.next r w r' w' → rel r' v v' → K (a'.put o.dst v') w') → o.wp P a' w K Q

theorem OpOk.of_value {o : Oper} {v : AV} {v' : Value} {w' : World} {r' : Ren} {H' : Heap} (hn : H.next ≤ H'.next) (h : (execOp a'.eval o).run P w = .ok (.value v') w') (hS : Sim B r' H' w') (hst : Step B H.next r w r' w') (hr : rel r' v v') :
    OpOk B P r H w a' o v H' :=
  ⟨hn, fun K Q hK => by unfold Oper.wp; rw [h]; exact hK r' w' v' hS hst hr⟩

theorem OpOk.of_skip {o : Oper} {w' : World} {r' : Ren} {H' : Heap} (hn : H.next ≤ H'.next) (h : (execOp a'.eval o).run P w = .ok .skip w') (hS : Sim B r' H' w') (hst : Step B H.next r w r' w') :
    OpOk B P r H w a' o aundef H' :=
  ⟨hn, fun K Q hK => by unfold Oper.wp; rw [h]; exact hK r' w' undef hS hst rel_undef⟩

theorem skip_run {s : Sem Unit} {w' : World} (h : s.run P w = .ok () w') : (do s; pure Next.skip : Sem Next).run P w = .ok .skip w' := by
  simp [h]

theorem wr_store {ms : Methods} {call : CallF} {t : TypeId} {x y : Operand} {op : AOp} {v : AV} {H' : Heap} (o : Oper) (ho : o.op = .store t x y) (hc : cOp P (.store t x y) = some op) (hS : Sim B r H w) (hF : FRel r a a')
    (h : wr ms call op a H = some (v, H')) : OpOk B P r H w a' o v H' := by
  simp only [cOp] at hc
  split at hc
  · rename_i x' y' n hx hy hn
    cases hc
    simp only [wr] at h
    split at h
    · rename_i b q he
      rw [natbeq] at h
      by_cases hl : (evalX a y').cells.length = n
      · simp only [hl, decide_true, cond_true] at h
        split at h
        · rename_i H2 hst
          cases h
          have hr := cX_rel hF hx
          rw [he] at hr
          obtain ⟨b', hv, ha⟩ := rel_ptr hr
          have hcs := rel_cells (cX_rel hF hy)
          obtain ⟨w', h1, h2, h3, h4⟩ := hS.storeCells (P := P) ha hcs hst H.next
          refine OpOk.of_skip (by omega) ?_ h2 h3
          unfold execOp
          rw [ho]
          refine skip_run ?_
          unfold Instr.storeAt storeVar
          have hsz : (a'.eval y).cells.size = n := by have := rels_length hcs; rw [hl] at this; simpa using this.symm
          simp only [Sem.run_bind, hv, Instr.sureAddr, Sem.run_pure, Result.andThen_ok, run_sizeOf hn]
          rw [if_neg (by simp [hsz])]
          exact h1
        · cases h
      · simp [hl] at h
    · cases h
  · cases hc

/-! the source of an append, a copy -/

theorem lenOf_run {x : AV} {v : Value} {n : Nat} (h : lenOfA x = some n) (hr : rel r x v) : (Builtin.lenOf v).run P w = .ok n w := by
  unfold lenOfA at h
  split at h
  · rename_i p m c
    cases h
    cases p <;> simp only [rel] at hr
    · obtain ⟨_, _, rfl⟩ := hr; rfl
    · obtain ⟨_, _, _, rfl, _⟩ := hr; rfl
  · rename_i s; cases h; simp only [rel] at hr; subst hr; rfl
  · cases h

theorem source_run (hS : Sim B r H w) {size n : Nat} {x : AV} {v : Value} {l : List AV} {m : Nat} (hlen : lenOfA x = some m) (hnm : n ≤ m) (h : source size H n x = some l) (hr : rel r x v) :
    ∃ vs : Array Value, (Builtin.firstCells size n v).run P w = .ok vs w ∧ rels r l vs.toList := by
  unfold source at h
  split at h
  · rename_i len c
    cases h
    simp only [rel] at hr
    obtain ⟨_, _, rfl⟩ := hr
    exact ⟨#[], rfl, rels_nil⟩
  · rename_i b o len c
    simp only [rel] at hr
    obtain ⟨b', o', c', rfl, ha, hcap, hoff⟩ := hr
    split at h
    · cases h
      refine ⟨#[], ?_, rels_nil⟩
      simp [Builtin.firstCells, loadCells, loadCellsFrom]
    · rename_i k
      simp only [lenOfA, Option.some.injEq] at hlen
      have ho' : o' = o := by
        rcases hoff with h | h
        · exact h
        · cases c <;> simp [amb] at h <;> omega
      subst ho'
      obtain ⟨vs, h1, h2⟩ := hS.loadCells (P := P) ha h
      exact ⟨vs.toArray, by simpa [Builtin.firstCells] using h2, by simpa using h1⟩
  · rename_i s
    cases h
    simp only [rel] at hr
    subst hr
    refine ⟨_, rfl, ?_⟩
    have : ((⟨⟨s⟩⟩ : ByteArray).extract 0 n).data.toList = s.take n := by
      rw [ByteArray.data_extract]; simp [List.extract_eq_take_drop]
    simp only [Array.toList_map, this]
    exact rels_map _ _ _ fun b _ => by simp only [rel]; rfl
  · cases h

theorem wr_copy {ms : Methods} {call : CallF} {c : Call} {op : AOp} {v : AV} {H' : Heap} {d s : AX} (o : Oper) (ho : o.op = .call c) (hb : c.callee = .builtin .copy) (hargs : cXs c.args.toList = some [d, s])
    (hc : cBuiltin P .copy c.argTypes [d, s] = some op) (hS : Sim B r H w) (hF : FRel r a a') (h : wr ms call op a H = some (v, H')) : OpOk B P r H w a' o v H' := by
  obtain ⟨p, q, hpq, hp, hq⟩ := cXs_two hargs
  have hrd := cX_rel hF hp
  have hrs := cX_rel hF hq
  simp only [cBuiltin] at hc
  split at hc
  · rename_i t ht
    split at hc
    · rename_i e hu
      split at hc
      · rename_i size hsize
        cases hc
        simp only [wr] at h
        split at h
        · rename_i base dl cap sl hd hsl
          have hlen := lenOf_run (P := P) (w := w) hsl hrs
          have hmin : (bif Nat.ble sl dl then sl else dl) = Nat.min sl dl := by
            rw [natble]
            by_cases hle : sl ≤ dl
            · simp [hle, Nat.min_def]
            · simp [hle, Nat.min_def]
          rw [hmin] at h
          have hrd' := hrd
          rw [hd] at hrd'
          have exec : ∀ {z : Value} {w' : World}, (Builtin.copy_ c.argTypes o.type #[a'.eval p, a'.eval q]).run P w = .ok z w' → (execOp a'.eval o).run P w = .ok (.value z) w' := by
            intro z w' hz
            rw [builtin_run ho hb, args_two hpq]
            exact value_run hz
          have dst : ∃ base' c', a'.eval p = .slice base' dl c' ∧ (∀ b q, base = some (b, q) → ∃ b' o', base' = some ⟨b', o', none⟩ ∧ r.at b b' ∧ (dl ≠ 0 → o' = q)) ∧ (base = none → base' = none) := by
            cases base with
            | none =>
              simp only [rel] at hrd'; obtain ⟨m, _, hv⟩ := hrd'
              exact ⟨none, m, hv, fun _ _ h => by (cases h), fun _ => rfl⟩
            | some bq =>
              obtain ⟨b, q⟩ := bq
              simp only [rel] at hrd'; obtain ⟨b', o', c', hv, ha, _, hoff⟩ := hrd'
              refine ⟨some ⟨b', o', none⟩, c', hv, fun b1 q1 h => ?_, fun h => by (cases h)⟩
              cases h
              refine ⟨b', o', rfl, ha, fun hne => ?_⟩
              rcases hoff with h | h
              · exact h
              · cases cap <;> simp [amb] at h <;> omega
          obtain ⟨base', c', hv, hbase, hnone⟩ := dst
          split at h
          · rename_i hm0
            cases h
            refine OpOk.of_value (v' := .int .i64 0) (Nat.le_refl _) (exec ?_) hS (Step.refl _ _ _ _) (by simp only [rel]; rfl)
            unfold Builtin.copy_
            have hfc : (Builtin.firstCells size 0 (a'.eval q)).run P w = .ok #[] w := by
              generalize evalX a s = S at *
              cases S with
              | slice p l cc => cases p <;> simp only [rel] at hrs
                                · obtain ⟨_, _, e⟩ := hrs; rw [e]; rfl
                                · obtain ⟨_, _, _, e, _⟩ := hrs; rw [e]; simp [Builtin.firstCells, loadCells, loadCellsFrom]
              | str st => simp only [rel] at hrs; rw [hrs]; simp [Builtin.firstCells, ByteArray.data_extract]
              | _ => simp [lenOfA] at hsl
            simp only [ht, hv, List.getElem?_toArray, List.getElem?_cons_zero, List.getElem?_cons_succ, Sem.run_bind, run_underlying hu, Result.andThen_ok, hlen, run_sizeOf hsize]
            rw [show sl.min dl = 0 from hm0, hfc]
            simp only [Result.andThen_ok]
            cases base' <;> rfl
          · rename_i k b q0 hmk
            split at h
            · rename_i cs hcs
              split at h
              · rename_i H2 hst
                cases h
                obtain ⟨b', o', rfl, ha, hoo⟩ := hbase b q0 rfl
                have : o' = q0 := hoo (by intro h0; rw [h0] at hmk; simp at hmk)
                subst this
                obtain ⟨vs, h1, h2⟩ := source_run (P := P) hS hsl (Nat.le_trans (Nat.le_of_eq hmk.symm) (Nat.min_le_left _ _)) hcs hrs
                obtain ⟨w', h3, h4, h5, h6⟩ := hS.storeCells (P := P) ha h2 hst H.next
                refine OpOk.of_value (v' := .int .i64 ((k + 1 : Nat) : Int)) (by omega) (exec ?_) h4 h5 (by simp only [rel]; rfl)
                unfold Builtin.copy_
                simp only [ht, hv, List.getElem?_toArray, List.getElem?_cons_zero, List.getElem?_cons_succ, Sem.run_bind, run_underlying hu, Result.andThen_ok, hlen, run_sizeOf hsize]
                rw [show sl.min dl = k + 1 from hmk, h1]
                simp only [Result.andThen_ok, Sem.run_bind, h3]
                rfl
              · cases h
            · cases h
          · cases h
        · cases h
      · cases hc
    · cases hc
  · cases hc

end
end Go.AE
end
