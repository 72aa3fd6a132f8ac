/- docketlaw20.RolesTurned: its walk. -/
import Derived.Test.YtkiepajhakoeiaaDoorOwnStrs
import Derived.Test.YtkiepajhakoeiaaDoorRolesApart
import Derived.Test.YtkiepajhakoeiaaDoorAlive
import Derived.Deep.RegionHeld3
import Derived.Deep.DrawnRows
namespace Go.Proofs.YtkiepajhakoeiaaDoor
open Go.RowKit

theorem apart_turned (ap ac : List (ByteArray × ByteArray)) (user role : ByteArray) : apart (turn2 ap) ac user role = apart ap ac user role := by
  unfold apart turn2
  rw [List.any_map]
  congr 1
  funext p
  simp only [Function.comp]
  congr 1
  funext a
  simp only [hit]
  rw [Bool.or_comm]
theorem apartE_turned (ap ac : List (ByteArray × ByteArray)) (role : ByteArray) : apartE (turn2 ap) ac role = apartE ap ac role := by
  simp [apartE, turn2]
def acts (ac : List (ByteArray × ByteArray)) (user : ByteArray) : Bool := ac.any fun a => bq a.1 user
theorem apart_acts {ap ac : List (ByteArray × ByteArray)} {user role : ByteArray} (h : apart ap ac user role = true) : acts ac user = true := by
  unfold apart at h
  obtain ⟨p, -, h1⟩ := List.any_eq_true.1 h
  obtain ⟨a, h2, h3⟩ := List.any_eq_true.1 h1
  refine List.any_eq_true.2 ⟨a, h2, ?_⟩
  simp only [hit, Bool.and_eq_true] at h3
  exact h3.1

set_option maxHeartbeats 2500000 in
set_option maxRecDepth 100000 in
theorem rolesTurned_walk (v1 v2 : Value) (ap ac : List (ByteArray × ByteArray)) (user role : ByteArray) (w : World) (hr : role.size ≤ maxLen)
    (hap : ap.length ≤ maxLen) (hac : ac.length ≤ maxLen) (h1 : Str2s w.heap.size w v1 ap) (h2 : Str2s w.heap.size w v2 ac) :
    Calls Tryd.prog 7 #[v1, v2, .string user, .string role] w fun e w' => e = .returned (.bool true) ∧ Below w.heap.size w w' := by
  have cA := fun W (hb : Below w.heap.size w W) => roles_Apart v1 v2 ap ac user role W hr hap hac ((h1.below hb).mono hb.size) ((h2.below hb).mono hb.size)
  have cB := fun v W (hb : Below w.heap.size w W) (hv : Str2s W.heap.size W v (turn2 ap)) => roles_Apart v v2 (turn2 ap) ac user role W hr (by simpa [turn2] using hap) hac hv ((h2.below hb).mono hb.size)
  simp only [apart_turned, apartE_turned] at cB
  obtain ⟨a1, c1, b1, o1, rfl, -, ha1, hc1⟩ := h1.cells
  obtain ⟨a2, c2, b2, o2, rfl, -, ha2, hc2⟩ := h2.cells
  unfold maxLen at hap hac
  have HA1 := Lib.hid ha1; have HC1 := Lib.hid hc1; have HA2 := Lib.hid ha2; have HC2 := Lib.hid hc2
  clear h1 h2 ha1 hc1 ha2 hc2
  have HAct : Hid ((apartE ap ac role == 0 && apart ap ac user role) = true → acts ac user = true) := fun h => apart_acts (Bool.and_eq_true _ _ ▸ h).2
  generalize (apartE ap ac role == 0 && apart ap ac user role) = r at *
  generalize apartE ap ac role = x at *
  by_cases hb1 : 40 < ap.length
  · have g : decide (40 < (ap.length : Int)) = true := decide_eq_true (by omega)
    clear cA cB
    go_enter Tryd.func7, Tryd.ntmps7
    go_wp2_with fail
    refine (law_alive _).mono ?_
    rintro e w1 ⟨rfl, hb⟩
    go_wp2
    go_ret
    exact ⟨rfl, hb⟩
  have g : decide (40 < (ap.length : Int)) = false := decide_eq_false (by omega)
  by_cases hb2 : 1100 < ac.length
  · have g : decide (1100 < (ac.length : Int)) = true := decide_eq_true (by omega)
    clear cA cB
    go_enter Tryd.func7, Tryd.ntmps7
    go_wp2_with fail
    refine (law_alive _).mono ?_
    rintro e w1 ⟨rfl, hb⟩
    go_wp2
    go_ret
    exact ⟨rfl, hb⟩
  have g2 : decide (1100 < (ac.length : Int)) = false := decide_eq_false (by omega)
  go_enter Tryd.func7, Tryd.ntmps7
  go_wp2_with fail
  refine (law_alive _).mono ?_
  rintro e w1 ⟨rfl, hb⟩
  go_wp2
  clear g g2
  generalize hB1 : w.heap.size = B1 at *
  go_loopw [10, 11] (fun t i wr => ∃ (k : Nat) (va : Option Addr) (vc : Nat), k ≤ ap.length ∧ t = .slice va k vc ∧ i = .int .i64 k ∧ Own wr B1 49 2 va vc k (flat2 (turn2 (ap.take k))) ∧ Below B1 w wr ∧ B1 ≤ wr.heap.size) (fun _ i _ => ap.length - (intOf i).toNat)
  case atStart => exact ⟨0, none, 0, by omega, rfl, rfl, Own.nil _ _ _ _, hb, by have := hb.size; omega⟩
  case round =>
    obtain ⟨k, va, vc, hk, rfl, rfl, hOwn, hbw, hws⟩ := hrel
    have hvc : k ≤ vc := hOwn.cap.1
    by_cases hlt : k < ap.length
    · obtain ⟨rfl, hbl⟩ := HA1.out (by omega)
      have x0 := (hbw.cell (p := ⟨b1, o1 + k * 2, none⟩) hbl).trans (HC1.out k hlt).1
      have x1 := (hbw.cell (p := ⟨b1, o1 + k * 2 + 1, none⟩) hbl).trans (HC1.out k hlt).2
      obtain ⟨p, hp⟩ : ∃ p, ap[k] = p := ⟨_, rfl⟩
      have Hp := Lib.hid hp
      rw [hp] at x0 x1
      clear hp
      have hOa := (hOwn.alloc (.cells #[.string p.2, .string p.1] 49)).drew
      have hba : Below B1 w ((wr.alloc (.cells #[.string p.2, .string p.1] 49)).drew) := (hbw.alloc hws _).drew
      obtain ⟨va', vc', w6, hap6, hO6, hg6⟩ := Own.app elemArr2 22 hOa (by simp; omega) (some ⟨wr.heap.size, 0, none⟩) 1 1 wr.heap.size 0 [.string p.2, .string p.1] (by simp) (fun _ => rfl)
        (by intro j u hj
            match j, hj with
            | 0, hj => injection hj with hj; subst hj; go_simp
            | 1, hj => injection hj with hj; subst hj; go_simp
            | j + 2, hj => simp at hj) (by intro u hu; simp at hu; rcases hu with rfl | rfl <;> rfl) (by unfold maxLen; omega) (by omega)
      have hb6 : Below B1 w w6 := hOa.belowGrown hba (Nat.le_refl _) (by simp; omega) hg6
      have z0 := (hb6.cell (p := ⟨b1, o1 + k * 2, none⟩) hbl).trans ((hbw.cell (p := ⟨b1, o1 + k * 2, none⟩) hbl).symm.trans x0)
      have z1 := (hb6.cell (p := ⟨b1, o1 + k * 2 + 1, none⟩) hbl).trans ((hbw.cell (p := ⟨b1, o1 + k * 2 + 1, none⟩) hbl).symm.trans x1)
      have hs6 := hg6.size
      have HAP := Lib.hid hap6
      have HM6 := Lib.hid (And.intro hO6 hb6)
      clear hap6 hO6 hb6 hg6 hOa hba hOwn
      go_wp2
      go_region_held3 (fun w' => w'.cell? ⟨b1, o1 + k * 2, none⟩ = some (.string p.1) ∧ w'.cell? ⟨b1, o1 + k * 2 + 1, none⟩ = some (.string p.2)) (first | go_keep | exact ⟨z0, z1⟩)
        ((refine step_append_run (by rfl) _ _ _ (by rfl) (by rfl) (by rfl) HAP.out ?_))
      go_wp2
      go_roundw
      case rel =>
        obtain ⟨hO6, hb6⟩ := HM6.out
        exact ⟨k + 1, va', vc', by omega, rfl, by go_num, by rw [turn2_snoc hlt, Hp.out]; exact hO6, hb6, by simp at hs6; omega⟩
      case measure => simp [intOf]; omega
    · obtain rfl : k = ap.length := by omega
      rw [List.take_length] at hOwn
      have cA1 := cA _ hbw
      have hS : Str2s wr.heap.size wr (.slice va ap.length vc) (turn2 ap) := by
        have := own_str2s (xs := turn2 ap) (va := va) (vc := vc) (B := wr.heap.size) (w := wr) (base := B1) (E := 49) (by rw [show (turn2 ap).length = ap.length by simp [turn2]]; exact hOwn) (Nat.le_refl _)
        rwa [show (turn2 ap).length = ap.length by simp [turn2]] at this
      clear hOwn
      go_wp2_with fail
      refine cA1.mono ?_
      rintro e w2 ⟨rfl, hb2⟩
      have hb02 : Below B1 w w2 := hbw.trans (hb2.mono hws)
      go_wp2_with fail
      refine (cB _ _ hb02 ((hS.below hb2).mono hb2.size)).mono ?_
      rintro e w3 ⟨rfl, hb3⟩
      have hb03 : Below B1 w w3 := hb02.trans (hb3.mono (Nat.le_trans hws hb2.size))
      clear hb2 hb3 hS cA1 cB cA hb02 hbw
      go_wp2
      go_loopw [16, 17] (fun d i wr => ∃ (k q : Nat), k ≤ ac.length ∧ d = .bool ((ac.take k).any fun a => bq a.1 user) ∧ i = .int .i64 k ∧ wr = w3.drewN q) (fun _ i _ => ac.length - (intOf i).toNat)
      case atStart => exact ⟨0, 0, by omega, by simp, rfl, rfl⟩
      case round =>
        obtain ⟨k, q, hk, rfl, rfl, rfl⟩ := hrel
        by_cases hlt : k < ac.length
        · obtain ⟨rfl, hbl⟩ := HA2.out (by omega)
          have hbl' : b2 < B1 := hbl
          have y0 := (hb03.cell (p := ⟨b2, o2 + k * 2, none⟩) hbl).trans (HC2.out k hlt).1
          have HS := Lib.hid (any_snoc (p := fun a : ByteArray × ByteArray => bq a.1 user) hlt)
          cases hd : (ac.take k).any fun a => bq a.1 user
          · rw [hd] at HS
            obtain ⟨s, hs⟩ : ∃ s, (ac[k]).1 = s := ⟨_, rfl⟩
            rw [hs] at y0
            have hq := ba_eq s user
            by_cases he : s = user
            · have HE : Hid ((ac.take (k + 1)).any (fun a => bq a.1 user) = true) := by
                show _ = _
                rw [HS.out, hs, bq, hq, decide_eq_true he]; rfl
              rw [decide_eq_true he] at hq
              clear he hs hd HS
              go_wp2
              go_roundw
              case rel => exact ⟨k + 1, _, by omega, by rw [HE.out], by go_num, rfl⟩
              case measure => simp [intOf]; omega
            · have HE : Hid ((ac.take (k + 1)).any (fun a => bq a.1 user) = false) := by
                show _ = _
                rw [HS.out, hs, bq, hq, decide_eq_false he]; rfl
              rw [decide_eq_false he] at hq
              clear he hs hd HS
              go_wp2
              go_roundw
              case rel => exact ⟨k + 1, _, by omega, by rw [HE.out], by go_num, rfl⟩
              case measure => simp [intOf]; omega
          · have HE : Hid ((ac.take (k + 1)).any (fun a => bq a.1 user) = true) := by
              show _ = _
              rw [HS.out, hd]; rfl
            clear hd HS
            go_wp2
            go_roundw
            case rel => exact ⟨k + 1, _, by omega, by rw [HE.out], by go_num, rfl⟩
            case measure => simp [intOf]; omega
        · have HD := Lib.hid (any_end (p := fun a : ByteArray × ByteArray => bq a.1 user) (l := ac) (k := k) (by omega))
          have hend : (((ac.take k).any fun a => bq a.1 user) = true) ∨ ((((ac.take k).any fun a => bq a.1 user) = false) ∧ r = false) := by
            rw [HD.out]
            cases hd : ac.any fun a => bq a.1 user
            · right
              refine ⟨rfl, ?_⟩
              cases r
              · rfl
              · have := HAct.out rfl
                rw [acts, hd] at this; cases this
            · left; rfl
          have hBE := Lib.hid (below_drewN hb03 q)
          rcases hend with hd | ⟨hd, rfl⟩
          all_goals
            rw [hd]
            clear hd
            go_wp2
            go_ret
            exact ⟨rfl, by rw [hB1]; exact hBE.out⟩
end Go.Proofs.YtkiepajhakoeiaaDoor
