/- The machine's surroundings for ShakeHidden: what is told. -/
import Derived.Test.YtegaglodfelpoaaGreatMachineD
import Derived.Test.YtegaglodfelpoaaGreatTextB
import Derived.Test.YtegaglodfelpoaaGreatShelf
import Derived.Test.YtegaglodfelpoaaGreatChecked
set_option linter.unusedVariables false
set_option linter.unusedSimpArgs false
set_option linter.unusedVariables false
set_option linter.unusedSimpArgs false
set_option maxRecDepth 100000
noncomputable section
namespace Go.AE
open Go.Proofs

def isPre : List UInt8 → List UInt8 → Bool
  | [], _ => true
  | _ :: _, [] => false
  | a :: x, b :: y => Nat.beq a.toNat b.toNat && isPre x y
theorem isPre_eq : ∀ x y : List UInt8, isPre x y = x.isPrefixOf y
  | [], y => by cases y <;> rfl
  | a :: x, [] => rfl
  | a :: x, b :: y => by
    have e : Nat.beq a.toNat b.toNat = (a == b) := by
      rw [Bool.eq_iff_iff, Nat.beq_eq, beq_iff_eq]
      exact UInt8.toNat_inj
    simp only [isPre, List.isPrefixOf, e, isPre_eq x y]
/-- where a text stands in another one first -/
def subAt (t : List UInt8) : List UInt8 → Nat → Option Nat
  | [], i => bif isPre t [] then some i else none
  | b :: s, i => bif isPre t (b :: s) then some i else subAt t s (Nat.succ i)
theorem subAt_eq (t : List UInt8) : ∀ (s : List UInt8) (i : Nat), (match subAt t s i with | some j => .ofNat j | none => .negSucc 0 : Int) = if Lib.index s t = -1 then -1 else Lib.index s t + i
  | [], i => by
    simp only [subAt, isPre_eq, Lib.index]
    cases t with
    | nil => simp
    | cons a t => simp
  | b :: s, i => by
    have ih := subAt_eq t s (Nat.succ i)
    have hge := Lib.index_ge s t
    simp only [subAt, isPre_eq, Lib.index]
    by_cases hp : t.isPrefixOf (b :: s) = true
    · simp only [hp, cond_true, if_true]
      rw [if_neg (by omega)]
      show (i : Int) = 0 + i
      omega
    · have hp' : t.isPrefixOf (b :: s) = false := Bool.eq_false_iff.mpr hp
      simp only [hp', cond_false, Bool.false_eq_true, if_false]
      rw [ih]
      by_cases h : Lib.index s t = -1
      · simp [h]
      · have h' : (Lib.index s t == -1) = false := by simpa using h
        have : ¬ (Lib.index s t + 1 = -1) := by omega
        simp only [h, h', this, if_false, Bool.false_eq_true]
        show Lib.index s t + ((i + 1 : Nat) : Int) = Lib.index s t + 1 + i
        omega

def sumIdx : CallF := fun f args H => match f, args with
  | 47, [.str s, .str t] => bif Nat.ble s.length 4000000000 then some (.int .i64 (match subAt t s 0 with | some i => .ofNat i | none => .negSucc 0), H) else none
  | _, _ => none

theorem sumIdx_ok : CallOk Tryz.prog sumIdx := by
  intro f args H v H' h
  unfold sumIdx at h
  split at h
  · rename_i s t
    cases hl : Nat.ble s.length 4000000000 with
    | false => rw [hl] at h; exact nomatch h
    | true =>
      rw [hl] at h
      rw [Nat.ble_eq] at hl
      simp only [cond_true, Option.some.injEq, Prod.mk.injEq] at h
      obtain ⟨rfl, rfl⟩ := h
      refine ⟨⟨_, Tryz.func47, by kernel_rfl, by kernel_rfl⟩, Nat.le_refl _, fun B r w args' hS hr => ?_⟩
      obtain ⟨l⟩ := args'
      simp only [rels] at hr
      obtain ⟨y, ys, rfl, h1, y2, ys2, rfl, h2, rfl⟩ := hr
      simp only [rel] at h1 h2
      subst h1 h2
      refine (Tryz.strings_Index_shaped ⟨⟨s⟩⟩ ⟨⟨t⟩⟩ w (hS.good w fun _ _ => rfl) (by show s.length < _; omega)).mono fun e w' he => ?_
      obtain ⟨rfl, rfl⟩ := he
      refine ⟨r, _, rfl, hS, Step.refl _ _ _ _, ?_⟩
      simp only [rel]
      have e := subAt_eq t s 0
      have hge := Lib.index_ge s t
      show Value.int .i64 (Lib.index s t) = Value.int .i64 _
      rw [e]
      by_cases h : Lib.index s t = -1
      · rw [if_pos h, h]
      · rw [if_neg h]; simp
  · exact absurd h (by simp)

def shMs : Methods := [(99, "missive/prim.derive", 178), (99, "missive/prim.dh", 179), (99, "missive/prim.digest", 180), (99, "missive/prim.open", 181), (99, "missive/prim.public", 182), (99, "missive/prim.seal", 183), (99, "missive/prim.secret", 184), (113, "missive/term.key", 202), (87, "missive/term.key", 115), (115, "missive/term.key", 71)]

theorem shMs_ok : MethodsOk Tryz.prog shMs := by
  have key : ∀ (ms : Methods), (∀ p ∈ ms, ∀ v w, (Go.method (Tryz.prog.types.size + Made.depth) p.1 v p.2.1).run Tryz.prog w = .ok (p.2.2, v) w) → MethodsOk Tryz.prog ms := by
    intro ms
    induction ms with
    | nil => intro _ t name f h; exact nomatch h
    | cons p ms ih =>
      intro hp t name f h
      obtain ⟨t0, n0, f0⟩ := p
      simp only [findM] at h
      cases hc : Nat.beq t0 t && n0 == name with
      | true =>
        rw [hc, cond_true] at h
        simp only [Bool.and_eq_true, Nat.beq_eq, beq_iff_eq] at hc
        obtain ⟨rfl, rfl⟩ := hc
        cases h
        exact hp _ (List.mem_cons_self ..)
      | false =>
        rw [hc, cond_false] at h
        exact ih (fun p hp' => hp p (List.mem_cons_of_mem _ hp')) t name f h
  refine key _ ?_
  intro p hp
  simp only [shMs, List.mem_cons, List.not_mem_nil, or_false] at hp
  rcases hp with rfl | rfl | rfl | rfl | rfl | rfl | rfl | rfl | rfl | rfl <;> (intro v w; kernel_rfl)

def E0 : Env := { funcs := fun f => Shk.funcsT.get f, sums := sumIdx, ms := shMs }

theorem E0_ok : EnvOk Tryz.prog E0 where
  mixed := by kernel_rfl
  sums := sumIdx_ok
  ms := shMs_ok
  funcs := fun f af h => Each.get Shk.funcsT_ok f af h

end Go.AE
