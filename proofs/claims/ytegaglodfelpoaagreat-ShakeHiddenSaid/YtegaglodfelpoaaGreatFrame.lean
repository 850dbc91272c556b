/- The law ShakeHidden: with terms, who has seen all public keys, hello and reply knows no key, of any number of connections. -/
import Derived.Test.YtegaglodfelpoaaGreatTools
import Derived.Test.YtegaglodfelpoaaGreatRunA
import Derived.Test.YtegaglodfelpoaaGreatRunB
import Derived.Test.YtegaglodfelpoaaGreatRunC
import Derived.Test.YtegaglodfelpoaaGreatRunD
import Derived.Test.YtegaglodfelpoaaGreatRunE
import Derived.Test.YtegaglodfelpoaaGreatEndA
import Derived.Test.YtegaglodfelpoaaGreatEndB
import Derived.Test.YtegaglodfelpoaaGreatEndC
import Derived.Test.YtegaglodfelpoaaGreatEndD
import Derived.Test.YtegaglodfelpoaaGreatEndE
import Derived.Test.YtegaglodfelpoaaGreatEndF
import Derived.Test.YtegaglodfelpoaaGreatEndG
import Derived.Test.YtegaglodfelpoaaGreatEndH
import Derived.Test.YtegaglodfelpoaaGreatRows
import Derived.Below
import Derived.ChangeSame
import Derived.ChangeMaps5
import Derived.JoinedOf
import Derived.JoinedAt
import Derived.RowKit3
set_option linter.unusedVariables false
set_option linter.unusedSimpArgs false
set_option linter.unusedVariables false
set_option linter.unusedSimpArgs false
set_option maxRecDepth 1000000
set_option maxHeartbeats 1000000
noncomputable section
namespace Go.AE
open Go.Proofs
variable {E : Env}

def hdrC : ACode := .region [⟨some 40, .mov (.tmp 8), none⟩, ⟨some 41, .mov (.tmp 0), none⟩, ⟨some 42, .ibin .rem (.tmp 41) (.const (.int .u8 4)), none⟩, ⟨some 43, .convInt .i64 (.tmp 42), none⟩, ⟨some 44, .ibin .add (.const (.int .i64 1)) (.tmp 43), none⟩, ⟨some 45, .ibin .lss (.tmp 40) (.tmp 44), none⟩]
def cndC : ACode := .cond (.tmp 45) .skip (.exit 0)
def incC : ACode := .region [⟨some 46, .mov (.tmp 8), none⟩, ⟨some 47, .ibin .add (.tmp 46) (.const (.int .i64 1)), none⟩, ⟨some 8, .mov (.tmp 47), none⟩]
def lbC : ACode := match L3[9]? with | some c => bodyOf c | none => .skip
def bbC : ACode := match loopB[2]? with | some c => bodyOf c | none => .skip
theorem loopB_eq : leaves lbC = [hdrC, cndC, .block 1 bbC, incC] := by kernel_rfl
theorem LB_eq : leaves bbC = LB := by kernel_rfl
theorem drop9 : L3.drop 9 = .block 0 (.loop lbC) :: L3.drop 10 := by kernel_rfl

theorem rem_u8 (n : Nat) : ibin .rem (.int .u8 (.ofNat n)) (.int .u8 4) = some (.int .u8 (.ofNat (n % 4))) := by
  have e : (Int.ofNat n).tmod (Int.ofNat 4) = Int.ofNat (n % 4) := rfl
  have z : ieq (4 : Int) 0 = false := rfl
  simp only [ibin, kindEq, cond_true, z, cond_false]
  rfl
theorem conv_4 (n : Nat) : wrapK .i64 (.ofNat (n % 4)) = .ofNat (n % 4) := by
  have := Nat.mod_lt n (show 0 < 4 by omega)
  simp only [wrapK, fits_nn (show n % 4 < 9223372036854775808 by omega), cond_true]
theorem w_conv {all os : List AOper} {dst : Option Nat} {k : IntKind} {x : AX} {a : Frm} {H : Heap} {Q : Frm → Heap → Prop} :
    WOps E all (⟨dst, .convInt k x, none⟩ :: os) a H Q ↔ ∃ v, rd (.convInt k x) a H = some v ∧ WOps E all os (put a dst v) H Q := WOps_rd rfl

theorem head_ok {n i : Nat} {F : Frm} {H : Heap} {Q : AExit → Frm → Heap → Prop} (h8 : F.get 8 = some (nn i)) (h0 : F.get 0 = some (.int .u8 (.ofNat n)))
    (h : Q .normal (hdrF i (decide (i < 1 + n % 4)) F (.int .u8 (.ofNat n)) (.int .u8 (.ofNat (n % 4))) (nn (n % 4)) (nn (1 + n % 4))) H) : W E hdrC F H Q := by
  refine W.region ?_
  have hm := Nat.mod_lt n (show 0 < 4 by omega)
  have e : ∀ m : Nat, AV.int .i64 (.ofNat m) = nn m := fun _ => rfl
  simp (disch := omega) only [w_mov, w_ibin, w_conv, rd, WOps_nil, eX_t, eX_c, put_s, getset, Nat.reduceEqDiff, if_false, if_true, Option.getD_some, h8, h0, rem_u8, conv_4, e, k1, add_nn, lss_nn, Option.some.injEq, exists_eq_left']
  exact h

theorem round_ok {n i : Nat} {F D : Frm} {H HD : Heap} {Q : AExit → Frm → Heap → Prop} (h8 : F.get 8 = some (nn i)) (h0 : F.get 0 = some (.int .u8 (.ofNat n))) (hi : i < 1 + n % 4)
    (hp : execs E2 100000 LB (hdrF i true F (.int .u8 (.ofNat n)) (.int .u8 (.ofNat (n % 4))) (nn (n % 4)) (nn (1 + n % 4))) H = some (D, HD)) (hD : D.get 8 = some (nn i)) (hm : i < 100) (k : W E2 (.loop lbC) (incF i D) HD Q) : W E2 (.loop lbC) F H Q := by
  refine W.loop (W.leaves lbC ?_)
  rw [loopB_eq]
  refine head_ok h8 h0 ?_
  have hd : decide (i < 1 + n % 4) = true := by simp [hi]
  rw [hd]
  refine W.cond (b := true) (by simp only [hdrF, eX_t, getset, if_true, Option.getD_some]) (W.skip ?_)
  refine W.block (W.leaves bbC ?_)
  rw [LB_eq, ← List.append_nil LB]
  refine Wl.ran hp ?_
  show blockQ 1 _ .normal D HD
  rw [blockQ_normal]
  show W E2 incC D HD _
  refine W.region ?_
  simp (disch := omega) only [w_mov, w_ibin, WOps_nil, eX_t, eX_c, put_s, getset, Nat.reduceEqDiff, if_false, if_true, Option.getD_some, hD, k1, add_nn, Option.some.injEq, exists_eq_left']
  exact k

theorem last_ok {n i : Nat} {F : Frm} {H : Heap} {Q : AExit → Frm → Heap → Prop} (h8 : F.get 8 = some (nn i)) (h0 : F.get 0 = some (.int .u8 (.ofNat n))) (hi : ¬ i < 1 + n % 4)
    (q : Q (.exit 0) (hdrF i false F (.int .u8 (.ofNat n)) (.int .u8 (.ofNat (n % 4))) (nn (n % 4)) (nn (1 + n % 4))) H) : W E2 (.loop lbC) F H Q := by
  refine W.loop (W.leaves lbC ?_)
  rw [loopB_eq]
  refine head_ok h8 h0 ?_
  have hd : decide (i < 1 + n % 4) = false := by simp [hi]
  rw [hd]
  refine W.cond (b := false) (by simp only [hdrF, eX_t, getset, if_true, Option.getD_some]) (W.exit ?_)
  exact q

theorem inc_get8 {i : Nat} {D : Frm} : (incF i D).get 8 = some (nn (i + 1)) := by simp only [incF, getset, if_true]; rfl
theorem inc_get0 {i : Nat} {D : Frm} : (incF i D).get 0 = D.get 0 := by simp only [incF, getset, Nat.reduceEqDiff, if_false]

theorem drop19 : (L3.drop 10) = ((L3.drop 10).take 9) ++ [.ret] := by kernel_rfl
theorem drop12 : (L3.drop 10) = ((L3.drop 10).take 2) ++ (((L3.drop 12).take 4) ++ (((L3.drop 16).take 3) ++ [.ret])) := by kernel_rfl

theorem end_ok {a : Frm} {H : Heap} (l : List ACode) (h : outT (execs E2 100000 l a H) = true) : Wl E2 (l ++ [.ret]) a H (retQ [.tmp 2] fun v _ => v = .bool true) := by
  obtain ⟨a2, H2, h1, h2⟩ := outT_some h
  refine Wl.ran h1 ?_
  refine W.ret ?_
  refine ⟨.inr rfl, [.bool true], ?_, rfl⟩
  simp only [resultsOf, resOf, h2, Option.getD_some]

theorem ShakeHidden_run {n : Nat} (hn : n < 256) : WCall E2 3 [.int .u8 (.ofNat n)] ⟨.nil, 0⟩ fun v _ => v = .bool true := by
  refine WCall.func (code := Shk.af3.code) (rs := [.tmp 2]) rfl rfl ?_
  refine W.leaves _ ?_
  show Wl E2 L3 _ _ _
  refine Wl.first 100000 9 (p_s0 _) ?_
  rw [drop9]
  refine W.block ?_
  have hm := Nat.mod_lt n (show 0 < 4 by omega)
  refine round_ok (i := 0) (n := n) rfl rfl (by omega) (p_d0 _ _ _ _) rfl (by omega) ?_
  by_cases h1 : 1 < 1 + n % 4
  · refine round_ok (i := 1) (n := n) inc_get8 (inc_get0.trans rfl) h1 (p_d1 _ _ _ _) rfl (by omega) ?_
    by_cases h2 : 2 < 1 + n % 4
    · refine round_ok (i := 2) (n := n) inc_get8 (inc_get0.trans rfl) h2 (p_d2 _ _ _ _) rfl (by omega) ?_
      by_cases h3 : 3 < 1 + n % 4
      · refine round_ok (i := 3) (n := n) inc_get8 (inc_get0.trans rfl) h3 (p_d3 _ _ _ _) rfl (by omega) ?_
        refine last_ok (i := 4) inc_get8 (inc_get0.trans rfl) (by omega) ?_
        simp only [blockQ_exit, Nat.beq_refl, cond_true]
        show Wl E2 (L3.drop 10) _ _ _
        rw [drop12]
        refine Wl.ran (p_r3a _ _ _ _) ?_
        refine Wl.ran (p_r3b _ _ _ _) ?_
        exact end_ok _ (p_r3c _ _ _ _)
      · refine last_ok (i := 3) inc_get8 (inc_get0.trans rfl) h3 ?_
        simp only [blockQ_exit, Nat.beq_refl, cond_true]
        show Wl E2 (L3.drop 10) _ _ _
        rw [drop12]
        refine Wl.ran (p_r2a _ _ _ _) ?_
        refine Wl.ran (p_r2b _ _ _ _) ?_
        exact end_ok _ (p_r2c _ _ _ _)
    · refine last_ok (i := 2) inc_get8 (inc_get0.trans rfl) h2 ?_
      simp only [blockQ_exit, Nat.beq_refl, cond_true]
      show Wl E2 (L3.drop 10) _ _ _
      rw [drop19]
      exact end_ok _ (p_r1 _ _ _ _)
  · refine last_ok (i := 1) inc_get8 (inc_get0.trans rfl) h1 ?_
    simp only [blockQ_exit, Nat.beq_refl, cond_true]
    show Wl E2 (L3.drop 10) _ _ _
    rw [drop19]
    exact end_ok _ (p_r0 _ _ _ _)

end Go.AE
