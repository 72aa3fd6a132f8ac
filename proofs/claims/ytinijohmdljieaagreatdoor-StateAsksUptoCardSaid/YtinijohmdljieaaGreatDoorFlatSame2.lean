/- docketref22, 23, 15: Same at lists that are the same. -/
import Derived.Test.YtinijohmdljieaaGreatDoorMSame
namespace Go.Proofs.YtinijohmdljieaaGreatDoor
open Go.RowKit

set_option maxHeartbeats 4000000 in
set_option maxRecDepth 100000 in
/-- two lists of the same timers -/
theorem timersSame (l : List TimerD) (a1 a2 : Option Addr) (c1 c2 : Nat) (w : World) (hl : l.length ≤ 1048576) (h1 : Mem false (From 0) w (flatL 5 TimerD.cs l) (.slice a1 l.length c1)) (h2 : Mem false (From 0) w (flatL 5 TimerD.cs l) (.slice a2 l.length c2)) :
    Calls Tryz.prog 31 #[.slice a1 l.length c1, .slice a2 l.length c2] w fun e w' => e = .returned (.bool true) ∧ Below w.heap.size w w' := by
  obtain ⟨_, _, b1, o1, he1, -, hC1⟩ := flat_open h1
  obtain ⟨_, _, b2, o2, he2, -, hC2⟩ := flat_open h2
  injection he1 with e1 e2 e3
  injection he2 with e4 e5 e6
  subst e1 e3 e4 e6
  have H1 := Lib.hid hC1; have H2 := Lib.hid hC2
  clear h1 h2 hC1 hC2 e2 e5
  go_enter Tryz.func31, Tryz.ntmps31
  go_wp2_with fail
  go_loopw [5] (fun i wr => ∃ k q : Nat, k ≤ l.length ∧ i = .int .i64 k ∧ wr = w.drewN q) (fun i _ => l.length - (intOf i).toNat)
  case atStart => exact ⟨0, 0, by omega, rfl, rfl⟩
  case round =>
    obtain ⟨k, q, hk, rfl, rfl⟩ := hrel
    by_cases hlt : k < l.length
    · obtain ⟨rfl, -, -⟩ := H1.out.at0 (by omega)
      obtain ⟨rfl, -, -⟩ := H2.out.at0 (by omega)
      have x0 := H1.out.cell k hlt 0 _ rfl
      have x1 := H1.out.cell k hlt 1 _ rfl
      have x2 := H1.out.cell k hlt 2 _ rfl
      have x3 := H1.out.cell k hlt 3 _ rfl
      have x4 := H1.out.cell k hlt 4 _ rfl
      have y0 := H2.out.cell k hlt 0 _ rfl
      have y1 := H2.out.cell k hlt 1 _ rfl
      have y2 := H2.out.cell k hlt 2 _ rfl
      have y3 := H2.out.cell k hlt 3 _ rfl
      have y4 := H2.out.cell k hlt 4 _ rfl
      simp only [Nat.add_zero] at x0 y0
      obtain ⟨⟨t1, t2, t3, t4, t5⟩, hs⟩ : ∃ s, l[k] = s := ⟨_, rfl⟩
      rw [hs] at x0 y0 x1 y1 x2 y2 x3 y3 x4 y4
      have i1 : (0 : Int) ≤ (k : Int) := by omega
      have i2 : (k : Int) < (l.length : Int) := by omega
      have wr1 : IntKind.i64.wrap ((k : Int) + 1) = (k : Int) + 1 := wrap_i64 (by omega) (by omega)
      clear hs
      go_wp2_with fail
      go_quiet (fail)
      go_wp2_with fail
      go_roundw
      case rel => exact ⟨k + 1, _, by omega, by go_num, rfl⟩
      case measure => simp [intOf]; omega
    · have i1 : ¬ (k : Int) < (l.length : Int) := by omega
      go_wp2_with fail
      go_ret
      exact ⟨rfl, below_drewN (Below.refl _ _) _⟩
set_option maxHeartbeats 4000000 in
set_option maxRecDepth 100000 in
/-- two lists of the same works -/
theorem worksSame (l : List WorkD) (a1 a2 : Option Addr) (c1 c2 : Nat) (w : World) (hl : l.length ≤ 1048576) (h1 : Mem false (From 0) w (flatL 6 WorkD.cs l) (.slice a1 l.length c1)) (h2 : Mem false (From 0) w (flatL 6 WorkD.cs l) (.slice a2 l.length c2)) :
    Calls Tryz.prog 32 #[.slice a1 l.length c1, .slice a2 l.length c2] w fun e w' => e = .returned (.bool true) ∧ Below w.heap.size w w' := by
  obtain ⟨_, _, b1, o1, he1, -, hC1⟩ := flat_open h1
  obtain ⟨_, _, b2, o2, he2, -, hC2⟩ := flat_open h2
  injection he1 with e1 e2 e3
  injection he2 with e4 e5 e6
  subst e1 e3 e4 e6
  have H1 := Lib.hid hC1; have H2 := Lib.hid hC2
  clear h1 h2 hC1 hC2 e2 e5
  go_enter Tryz.func32, Tryz.ntmps32
  go_wp2_with fail
  go_loopw [5] (fun i wr => ∃ k q : Nat, k ≤ l.length ∧ i = .int .i64 k ∧ wr = w.drewN q) (fun i _ => l.length - (intOf i).toNat)
  case atStart => exact ⟨0, 0, by omega, rfl, rfl⟩
  case round =>
    obtain ⟨k, q, hk, rfl, rfl⟩ := hrel
    by_cases hlt : k < l.length
    · obtain ⟨rfl, -, -⟩ := H1.out.at0 (by omega)
      obtain ⟨rfl, -, -⟩ := H2.out.at0 (by omega)
      have x0 := H1.out.cell k hlt 0 _ rfl
      have x1 := H1.out.cell k hlt 1 _ rfl
      have x2 := H1.out.cell k hlt 2 _ rfl
      have x3 := H1.out.cell k hlt 3 _ rfl
      have x4 := H1.out.cell k hlt 4 _ rfl
      have x5 := H1.out.cell k hlt 5 _ rfl
      have y0 := H2.out.cell k hlt 0 _ rfl
      have y1 := H2.out.cell k hlt 1 _ rfl
      have y2 := H2.out.cell k hlt 2 _ rfl
      have y3 := H2.out.cell k hlt 3 _ rfl
      have y4 := H2.out.cell k hlt 4 _ rfl
      have y5 := H2.out.cell k hlt 5 _ rfl
      simp only [Nat.add_zero] at x0 y0
      obtain ⟨⟨t1, t2, t3, t4, t5, t6⟩, hs⟩ : ∃ s, l[k] = s := ⟨_, rfl⟩
      rw [hs] at x0 y0 x1 y1 x2 y2 x3 y3 x4 y4 x5 y5
      have i1 : (0 : Int) ≤ (k : Int) := by omega
      have i2 : (k : Int) < (l.length : Int) := by omega
      have wr1 : IntKind.i64.wrap ((k : Int) + 1) = (k : Int) + 1 := wrap_i64 (by omega) (by omega)
      clear hs
      go_wp2_with fail
      go_quiet (fail)
      go_wp2_with fail
      go_roundw
      case rel => exact ⟨k + 1, _, by omega, by go_num, rfl⟩
      case measure => simp [intOf]; omega
    · have i1 : ¬ (k : Int) < (l.length : Int) := by omega
      go_wp2_with fail
      go_ret
      exact ⟨rfl, below_drewN (Below.refl _ _) _⟩
set_option maxHeartbeats 4000000 in
set_option maxRecDepth 100000 in
/-- two lists of the same records -/
theorem recordsSame (l : List RecD) (a1 a2 : Option Addr) (c1 c2 : Nat) (w : World) (hl : l.length ≤ 1048576) (h1 : Mem false (From 0) w (flatL 6 RecD.cs l) (.slice a1 l.length c1)) (h2 : Mem false (From 0) w (flatL 6 RecD.cs l) (.slice a2 l.length c2)) :
    Calls Tryz.prog 33 #[.slice a1 l.length c1, .slice a2 l.length c2] w fun e w' => e = .returned (.bool true) ∧ Below w.heap.size w w' := by
  obtain ⟨_, _, b1, o1, he1, -, hC1⟩ := flat_open h1
  obtain ⟨_, _, b2, o2, he2, -, hC2⟩ := flat_open h2
  injection he1 with e1 e2 e3
  injection he2 with e4 e5 e6
  subst e1 e3 e4 e6
  have H1 := Lib.hid hC1; have H2 := Lib.hid hC2
  clear h1 h2 hC1 hC2 e2 e5
  go_enter Tryz.func33, Tryz.ntmps33
  go_wp2_with fail
  go_loopw [5] (fun i wr => ∃ k q : Nat, k ≤ l.length ∧ i = .int .i64 k ∧ wr = w.drewN q) (fun i _ => l.length - (intOf i).toNat)
  case atStart => exact ⟨0, 0, by omega, rfl, rfl⟩
  case round =>
    obtain ⟨k, q, hk, rfl, rfl⟩ := hrel
    by_cases hlt : k < l.length
    · obtain ⟨rfl, -, -⟩ := H1.out.at0 (by omega)
      obtain ⟨rfl, -, -⟩ := H2.out.at0 (by omega)
      have x0 := H1.out.cell k hlt 0 _ rfl
      have x1 := H1.out.cell k hlt 1 _ rfl
      have x2 := H1.out.cell k hlt 2 _ rfl
      have x3 := H1.out.cell k hlt 3 _ rfl
      have x4 := H1.out.cell k hlt 4 _ rfl
      have x5 := H1.out.cell k hlt 5 _ rfl
      have y0 := H2.out.cell k hlt 0 _ rfl
      have y1 := H2.out.cell k hlt 1 _ rfl
      have y2 := H2.out.cell k hlt 2 _ rfl
      have y3 := H2.out.cell k hlt 3 _ rfl
      have y4 := H2.out.cell k hlt 4 _ rfl
      have y5 := H2.out.cell k hlt 5 _ rfl
      simp only [Nat.add_zero] at x0 y0
      obtain ⟨⟨t1, t2, t3, t4, t5, t6⟩, hs⟩ : ∃ s, l[k] = s := ⟨_, rfl⟩
      rw [hs] at x0 y0 x1 y1 x2 y2 x3 y3 x4 y4 x5 y5
      have i1 : (0 : Int) ≤ (k : Int) := by omega
      have i2 : (k : Int) < (l.length : Int) := by omega
      have wr1 : IntKind.i64.wrap ((k : Int) + 1) = (k : Int) + 1 := wrap_i64 (by omega) (by omega)
      clear hs
      go_wp2_with fail
      go_quiet (fail)
      go_wp2_with fail
      go_roundw
      case rel => exact ⟨k + 1, _, by omega, by go_num, rfl⟩
      case measure => simp [intOf]; omega
    · have i1 : ¬ (k : Int) < (l.length : Int) := by omega
      go_wp2_with fail
      go_ret
      exact ⟨rfl, below_drewN (Below.refl _ _) _⟩
set_option maxHeartbeats 4000000 in
set_option maxRecDepth 100000 in
/-- two users that are the same -/
theorem userSame (u : UserD) (a1 a2 : Option Addr) (c1 c2 : Nat) (w : World) (hl : u.rs.length ≤ 1048576) (h1 : Mem false (From 0) w (strD u.rs) (.slice a1 u.rs.length c1)) (h2 : Mem false (From 0) w (strD u.rs) (.slice a2 u.rs.length c2)) :
    Calls Tryz.prog 16 #[.agg #[.string u.n, .string u.s, .string u.p, .slice a1 u.rs.length c1], .agg #[.string u.n, .string u.s, .string u.p, .slice a2 u.rs.length c2]] w fun e w' => e = .returned (.bool true) ∧ Below w.heap.size w w' := by
  obtain ⟨_, _, b1, o1, he1, -, hC1⟩ := flat_open h1
  obtain ⟨_, _, b2, o2, he2, -, hC2⟩ := flat_open h2
  injection he1 with e1 e2 e3
  injection he2 with e4 e5 e6
  subst e1 e3 e4 e6
  have H1 := Lib.hid hC1; have H2 := Lib.hid hC2
  have HB0 := Lib.hid (B2.start w 25 4 #[.string u.n, .string u.s, .string u.p, .slice a1 u.rs.length c1] #[.string u.n, .string u.s, .string u.p, .slice a2 u.rs.length c2] rfl rfl)
  clear h1 h2 hC1 hC2 e2 e5
  go_enter Tryz.func16, Tryz.ntmps16
  go_upto_region 1 with fail
  revert HB0
  generalize (w.alloc (.cells #[.string u.n, .string u.s, .string u.p, .slice a1 u.rs.length c1] 25)).alloc (.cells #[.string u.n, .string u.s, .string u.p, .slice a2 u.rs.length c2] 25) = W0
  intro HB0
  have k0 := HB0.out.cp 0 _ rfl
  have k1 := HB0.out.cp 1 _ rfl
  have k2 := HB0.out.cp 2 _ rfl
  have k3 := HB0.out.cp 3 _ rfl
  have q0 := HB0.out.cq 0 _ rfl
  have q1 := HB0.out.cq 1 _ rfl
  have q2 := HB0.out.cq 2 _ rfl
  have q3 := HB0.out.cq 3 _ rfl
  go_wp2_with fail
  clear k0 k1 k2 q0 q1 q2
  go_loopw [5] (fun i wr => ∃ k q : Nat, k ≤ u.rs.length ∧ i = .int .i64 k ∧ wr = W0.drewN q) (fun i _ => u.rs.length - (intOf i).toNat)
  case atStart => exact ⟨0, 0, by omega, rfl, rfl⟩
  case round =>
    obtain ⟨k, q, hk, rfl, rfl⟩ := hrel
    by_cases hlt : k < u.rs.length
    · obtain ⟨rfl, -, -⟩ := H1.out.at0 (by omega)
      obtain ⟨rfl, -, -⟩ := H2.out.at0 (by omega)
      have x0 := cellBelow2 HB0.out.below (H1.out.cell k hlt 0 _ rfl)
      have y0 := cellBelow2 HB0.out.below (H2.out.cell k hlt 0 _ rfl)
      simp only [Nat.add_zero, Nat.mul_one] at x0 y0
      obtain ⟨t, hs⟩ : ∃ s, u.rs[k] = s := ⟨_, rfl⟩
      rw [hs] at x0 y0
      have i1 : (0 : Int) ≤ (k : Int) := by omega
      have i2 : (k : Int) < (u.rs.length : Int) := by omega
      have wr1 : IntKind.i64.wrap ((k : Int) + 1) = (k : Int) + 1 := wrap_i64 (by omega) (by omega)
      clear hs
      go_wp2_with fail
      go_quiet (fail)
      go_wp2_with fail
      go_roundw
      case rel => exact ⟨k + 1, _, by omega, by go_num, rfl⟩
      case measure => simp [intOf]; omega
    · have i1 : ¬ (k : Int) < (u.rs.length : Int) := by omega
      have HBz := Lib.hid (HB0.out.drewN q)
      go_wp2_with fail
      go_ret
      exact ⟨rfl, HBz.out.below⟩
end Go.Proofs.YtinijohmdljieaaGreatDoor
