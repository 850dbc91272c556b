/- The machine's surroundings for ShakeHidden: a table's copy told; calls whose leavings are dropped. -/
import Derived.Test.YtegaglodfelpoaaGreatTold
import Derived.Test.YtegaglodfelpoaaGreatWire
set_option linter.unusedVariables false
set_option linter.unusedSimpArgs false
set_option linter.unusedVariables false
set_option linter.unusedSimpArgs false
set_option maxRecDepth 100000
noncomputable section
namespace Go.AE
open Go.Proofs

theorem exec0 (n : Nat) : ExecOk Tryz.prog E0 n := exec_sound E0_ok n
theorem call0_ok (n : Nat) : CallOk Tryz.prog (acall E0 n) := call_sound E0_ok (exec_sound E0_ok n) (next_ok E0_ok n).1

/-- Copy's code as far as its loop -/
def cp0 : ACode := (.region [(AOper.mk (some 2) (.mov (.const (.ptr none))) none)])
def cp1 : ACode := (.seq (.region [(AOper.mk (some 6) (.mov (.tmp 0)) none), (AOper.mk (some 7) (.call (.const (.func (.func 43) [] [])) [(.tmp 6)]) none)]) (.cond (.tmp 7) (.seq (.region [(AOper.mk (some 2) (.mov (.const (.ptr none))) none)]) .ret) .skip))
def cp2 : ACode := (.draw (ADraw.mk [(AOper.mk (some 8) (.mov (.tmp 0)) none), (AOper.mk (some 9) (.nilCheck (.tmp 8)) none), (AOper.mk (some 10) (.fieldAddr 0 (.tmp 9)) none), (AOper.mk (some 11) (.load1 (.tmp 10)) none), (AOper.mk (some 12) (.call (.const (.func (.func 61) [] [])) [(.tmp 11)]) none), (AOper.mk (some 13) (.mov (.tmp 0)) none), (AOper.mk (some 14) (.nilCheck (.tmp 13)) none), (AOper.mk (some 15) (.fieldAddr 1 (.tmp 14)) none), (AOper.mk (some 16) (.load1 (.tmp 15)) none), (AOper.mk (some 17) (.lenMap (.tmp 16)) none), (AOper.mk (some 18) (.makeMap (some (.tmp 17))) none), (AOper.mk (some 19) (.mov (.tmp 0)) none), (AOper.mk (some 20) (.nilCheck (.tmp 19)) none), (AOper.mk (some 21) (.fieldAddr 2 (.tmp 20)) none), (AOper.mk (some 22) (.load1 (.tmp 21)) none), (AOper.mk (some 23) (.build [(.slice none 0 (.known 0)), (.map none), (.int .i64 0)] [(0, (1, (.tmp 12))), (1, (1, (.tmp 18))), (2, (1, (.tmp 22)))]) none), (AOper.mk (some 24) (.box 80 (.tmp 23)) none), (AOper.mk (some 3) (.mov (.tmp 24)) none)] [0, 1, 2, 3, 5, 6, 7, 8, 11, 12, 13, 14, 4, 9, 10, 15, 16, 17] [0, 1, 3, 7, 15, 0, 32, 96, 224, 511, 1023, 0, 2048, 6144, 14336, 32767, 65535, 131071] [(0, 0), (0, 0), (0, 0), (0, 0), (0, 1), (0, 1), (0, 1), (0, 1), (0, 1), (1, 1), (1, 1), (0, 1), (0, 1), (0, 1), (0, 1), (1, 1), (1, 1), (1, 1)] false))

def copy42 : CallF := copyF E0 1000 42 cp0 cp1 cp2 .str 1

theorem copy42_ok : CallOk Tryz.prog copy42 := by
  refine copy_ok (fn := Tryz.f42) (tM := 78) (tT := 80) (kt := 9) (e := 3) (d := .string) (kk := .str) (sz := 0) E0_ok Tryz.func42 (by kernel_rfl) rfl rfl rfl (by kernel_rfl) (by kernel_rfl) (by kernel_rfl) ?_ ?_ Tryz.underlying78 Tryz.underlying9 rfl (by kernel_rfl) Tryz.underlying80 rfl (by kernel_rfl) rfl
  · exact ⟨rfl, rfl, rfl, ⟨_, rfl, rfl, rfl, rfl⟩, ⟨_, rfl, rfl, rfl, rfl⟩, ⟨_, rfl, rfl, rfl, rfl⟩, ⟨_, rfl, rfl, rfl, rfl⟩, ⟨_, rfl, rfl, rfl, rfl⟩, ⟨_, rfl, rfl, rfl, rfl⟩, ⟨_, rfl, rfl, rfl, rfl⟩, ⟨_, rfl, rfl, rfl, rfl⟩, ⟨_, rfl, rfl, rfl, rfl⟩, ⟨_, rfl, rfl, rfl, rfl⟩, ⟨_, rfl, rfl, rfl, rfl⟩, ⟨_, rfl, rfl, rfl, rfl⟩, ⟨_, rfl, rfl, rfl, rfl⟩, ⟨_, rfl, rfl, rfl, rfl⟩⟩
  · exact ⟨rfl, rfl, ⟨_, rfl, rfl, rfl, rfl⟩, ⟨_, rfl, rfl, rfl, rfl⟩, ⟨_, rfl, rfl, rfl, rfl⟩, ⟨_, rfl, rfl, rfl, rfl⟩, ⟨_, rfl, rfl, rfl, rfl⟩, ⟨_, rfl, rfl, rfl, rfl⟩, ⟨_, rfl, rfl, rfl, rfl⟩⟩

/-- numbers of terms' texts, and numbers as bytes -/
def sumNum : CallF := fun f args H =>
  bif Nat.beq f 48 then (match args with
    | [.ptr (some (b, o)), .str s] => match H.load b o, H.load b (o + 1) with
      | some (.slice _ n _), some (.map (some _)) => bif Nat.ble (b + 1) H.next && Nat.ble (n + 1) 1000000000000 then some (.int .i64 (numT n s), H) else none
      | _, _ => none
    | _ => none)
  else bif Nat.beq f 23 then (match args with
    | [.str s, .int .i64 (.ofNat n), .int .u64 (.ofNat v)] => bif Nat.ble s.length 1000000 && (Nat.ble 1 n && Nat.ble n 8) then some (.str (s ++ beK n v n), H) else none
    | _ => none)
  else none

theorem sumIdx_plain : ∀ f args H, plainF f = true → sumIdx f args H = none := by
  intro f args H h
  unfold sumIdx
  split
  · exact absurd h (by decide)
  · rfl

theorem sumNum_ok : CallOk Tryz.prog sumNum := by
  intro f args H v H' h
  unfold sumNum at h
  cases h48 : Nat.beq f 48 with
  | true =>
    obtain rfl := Nat.eq_of_beq_eq_true h48
    simp only [Nat.beq_refl, cond_true] at h
    split at h
    · rename_i b o s
      split at h
      · rename_i base n cap m hl hm
        cases hc : Nat.ble (b + 1) H.next && Nat.ble (n + 1) 1000000000000 with
        | false => rw [hc] at h; exact nomatch h
        | true =>
          rw [hc] at h
          simp only [Bool.and_eq_true, Nat.ble_eq] at hc
          simp only [cond_true, Option.some.injEq, Prod.mk.injEq] at h
          obtain ⟨rfl, rfl⟩ := h
          obtain ⟨N, v', H2, hrun, hv, hk⟩ := number_ok (E := E0) (fun _ => rfl) sumIdx_plain (H := H) (b := b) (o := o) (m := m) (n := n) (base := base) (cap := cap) (s := s) (by omega) hl hm (by omega) (Q := fun v' H2 => v' = .int .i64 (numT n s) ∧ ∀ j, j < H.next → H2.t.get j = H.t.get j) (fun H2 hk => ⟨rfl, hk⟩)
          subst hv
          exact drop_ok (call0_ok N) (hrun N (Nat.le_refl _)) hk rfl
      · exact nomatch h
    · exact nomatch h
  | false =>
    rw [h48] at h
    simp only [cond_false] at h
    cases h23 : Nat.beq f 23 with
    | false => rw [h23] at h; exact nomatch h
    | true =>
      obtain rfl := Nat.eq_of_beq_eq_true h23
      simp only [Nat.beq_refl, cond_true] at h
      split at h
      · rename_i s n v
        cases hc : Nat.ble s.length 1000000 && (Nat.ble 1 n && Nat.ble n 8) with
        | false => rw [hc] at h; exact nomatch h
        | true =>
          rw [hc] at h
          simp only [Bool.and_eq_true, Nat.ble_eq] at hc
          simp only [cond_true, Option.some.injEq, Prod.mk.injEq] at h
          obtain ⟨rfl, rfl⟩ := h
          obtain ⟨N, v', H2, hrun, hv, hk⟩ := put_ok (E := E0) (fun _ => rfl) sumIdx_plain (H := H) (N := s) (n := n) (v := v) (by omega) (by omega) (by omega) (Q := fun v' H2 => v' = .str (s ++ beK n v n) ∧ ∀ j, j < H.next → H2.t.get j = H.t.get j) (fun H2 _ hk => ⟨rfl, hk⟩)
          subst hv
          exact drop_ok (call0_ok N) (hrun N (Nat.le_refl _)) hk rfl
      · exact nomatch h

/-- what is told to the law's functions -/
def sums1 : CallF := fun f args H => match sumNum f args H with
  | some r => some r
  | none => match sumIdx f args H with
    | some r => some r
    | none => copy42 f args H

theorem sums1_ok : CallOk Tryz.prog sums1 := by
  intro f args H v H' h
  unfold sums1 at h
  split at h
  · rename_i r hr
    cases h
    exact sumNum_ok f args H v H' hr
  · split at h
    · rename_i r hr
      cases h
      exact sumIdx_ok f args H v H' hr
    · exact copy42_ok f args H v H' h

def E1 : Env := { funcs := fun f => Shk.funcsT.get f, sums := sums1, ms := shMs }

theorem E1_ok : EnvOk Tryz.prog E1 where
  mixed := by kernel_rfl
  sums := sums1_ok
  ms := shMs_ok
  funcs := fun f af h => Each.get Shk.funcsT_ok f af h

theorem call1_ok (n : Nat) : CallOk Tryz.prog (acall E1 n) := call_sound E1_ok (exec_sound E1_ok n) (next_ok E1_ok n).1

/-- the functions that the law calls: told, and what they leave behind dropped -/
def sums2 : CallF := fun f args H => match gcF (acallF E1 100000) (fun f => Nat.ble 4 f && Nat.ble f 10) f args H with
  | some r => some r
  | none => sums1 f args H

theorem sums2_ok : CallOk Tryz.prog sums2 := by
  intro f args H v H' h
  unfold sums2 at h
  split at h
  · rename_i r hr
    cases h
    rw [acallF_eq] at hr
    exact gc_ok (call1_ok 100000) _ f args H v H' hr
  · exact sums1_ok f args H v H' h

def E2 : Env := { funcs := fun f => Shk.funcsT.get f, sums := sums2, ms := shMs }

theorem E2_ok : EnvOk Tryz.prog E2 where
  mixed := by kernel_rfl
  sums := sums2_ok
  ms := shMs_ok
  funcs := fun f af h => Each.get Shk.funcsT_ok f af h

theorem call2_ok (n : Nat) : CallOk Tryz.prog (acall E2 n) := call_sound E2_ok (exec_sound E2_ok n) (next_ok E2_ok n).1

end Go.AE
