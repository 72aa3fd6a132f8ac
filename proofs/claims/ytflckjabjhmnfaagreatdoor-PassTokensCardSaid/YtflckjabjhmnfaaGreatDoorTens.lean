/- docketref16.Tens of a number that is not below nought: its digits. -/
import Derived.Lib.ItoaNum
import Derived.Test.YtflckjabjhmnfaaGreatDoorProg
import Derived.Test.YtflckjabjhmnfaaGreatDoorDec
namespace Go.Proofs.YtflckjabjhmnfaaGreatDoor
open Go.RowKit

theorem tens_step (n : Nat) (h : ¬ n < 10) : Lib.decDigits n = Lib.decDigits (n / 10) ++ Lib.decDigits (n % 10) := by
  rw [Lib.decDigits, dif_neg h, Lib.decDigits_one (i := n % 10) (by omega)]

set_option maxHeartbeats 2000000 in
set_option maxRecDepth 100000 in
theorem Tens_walk : ∀ (k n : Nat) (w : World), n ≤ k → n < 9223372036854775808 →
    Calls Tryz.prog 28 #[.int .i64 (n : Int)] w fun e w' => e = .returned (.string ⟨(Lib.decDigits n).toArray⟩) ∧ w' = w := by
  intro k
  induction k using Nat.strongRecOn with
  | _ k ih =>
    intro n w hnk hn
    have g0 : decide ((n : Int) < 0) = false := decide_eq_false (by omega)
    by_cases h : n < 10
    · have hd : ∀ m : Fin 10, (⟨#[48, 49, 50, 51, 52, 53, 54, 55, 56, 57]⟩ : ByteArray).extract m.val (m.val + 1) = ⟨(Lib.decDigits m.val).toArray⟩ := by decide +kernel
      have hd' := hd ⟨n, h⟩
      have HD := Lib.hid hd'
      have g1 : decide ((n : Int) < 10) = true := decide_eq_true (by omega)
      have i0 : (0 : Int) ≤ (n : Int) := by omega
      have i1 : (n : Int) + 1 ≤ 10 := by omega
      clear hd hd' ih
      go_enter Tryz.func28, Tryz.ntmps28
      go_wp2
      go_ret
      rw [HD.out]
      exact ⟨rfl, rfl⟩
    · have g1 : decide ((n : Int) < 10) = false := decide_eq_false (by omega)
      have c1 := fun W => ih (n / 10) (by omega) (n / 10) W (Nat.le_refl _) (by omega)
      have c2 := fun W => ih (n % 10) (by omega) (n % 10) W (Nat.le_refl _) (by omega)
      have e1 : (n : Int) / 10 = ((n / 10 : Nat) : Int) := by omega
      have e2 : (n : Int) % 10 = ((n % 10 : Nat) : Int) := by omega
      have HT := Lib.hid (tens_step n h)
      have l1 := decLen (n / 10) (by omega)
      have l2 := decLen (n % 10) (by omega)
      have hlen : ¬ 9223372036854775807 < (Lib.decDigits (n / 10)).length + (Lib.decDigits (n % 10)).length := by omega
      clear l1 l2
      generalize n / 10 = q at *
      generalize n % 10 = r at *
      have C1 := Lib.hid c1; have C2 := Lib.hid c2
      clear ih c1 c2
      go_enter Tryz.func28, Tryz.ntmps28
      go_wp2_with fail
      refine (C1.out _).mono ?_
      rintro e w1 ⟨rfl, rfl⟩
      go_wp2_with fail
      refine (C2.out _).mono ?_
      rintro e w2 ⟨rfl, rfl⟩
      go_wp2_with fail
      go_ret
      refine ⟨?_, rfl⟩
      rw [HT.out, ← ba_app]
      rfl
end Go.Proofs.YtflckjabjhmnfaaGreatDoor
