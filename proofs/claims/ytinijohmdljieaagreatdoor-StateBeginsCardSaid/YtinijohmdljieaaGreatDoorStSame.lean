/- docketref21: Same; appending strings. -/
import Derived.Test.YtinijohmdljieaaGreatDoorStMay
import Derived.Test.YtinijohmdljieaaGreatDoorCloneStrs
namespace Go.Proofs.YtinijohmdljieaaGreatDoor
open Go.RowKit

theorem Own.appStrs {w : World} {base B vc n c : Nat} {va a : Option Addr} {xs ys : List ByteArray} (h : Own w base 9 1 va vc n (xs.map Value.string)) (hbase : base ≤ w.heap.size)
    (hs : Strs B w (.slice a ys.length c) ys) (hn : n + ys.length ≤ 1000000) :
    ∃ va' vc' w', (Builtin.append_ #[23, 23] 23 #[.slice va n vc, .slice a ys.length c]).run Tryz.prog w = .ok (.slice va' (n + ys.length) vc') w' ∧ Own w' base 9 1 va' vc' (n + ys.length) ((xs ++ ys).map Value.string) ∧ w.grownBy w' (blockOf va) := by
  obtain ⟨a', c', b, o, he, -, ha, hc⟩ := hs.cells
  injection he with e1 e2 e3
  subst e1 e3
  obtain ⟨va', vc', w', h1, h2, h3⟩ := Own.app elemStr 23 h hbase a ys.length c b o (ys.map Value.string) (by simp) (fun h => (ha h).1) (by
      intro j u hj
      have hjl : j < ys.length := by
        rcases Nat.lt_or_ge j ys.length with h | h
        · exact h
        · rw [List.getElem?_eq_none (by simpa using h)] at hj; cases hj
      rw [hc j hjl, ← hj]
      simp [hjl]) (by intro u hu; obtain ⟨s, -, rfl⟩ := List.mem_map.1 hu; rfl) (by unfold maxLen; omega) (by omega)
  exact ⟨va', vc', w', h1, by rw [List.map_append]; exact h2, h3⟩
theorem strs_ne_false {a b : ByteArray} (h : a = b) : (a.toList != b.toList) = false := by rw [h]; simp
theorem strs_ne_true {a b : ByteArray} (h : a ≠ b) : (a.toList != b.toList) = true := by
  have h2 := ba_eq a b
  simp only [bne, h2, decide_eq_false h]; rfl
set_option maxHeartbeats 4000000 in
set_option maxRecDepth 100000 in
/-- two users that are the same -/
theorem refSame_yes (n s p : ByteArray) (a1 a2 : Option Addr) (c1 c2 : Nat) (rs : List ByteArray) (w : World) (hl : rs.length ≤ 1000000)
    (h1 : Strs w.heap.size w (.slice a1 rs.length c1) rs) (h2 : Strs w.heap.size w (.slice a2 rs.length c2) rs) :
    Calls Tryz.prog 16 #[.agg #[.string n, .string s, .string p, .slice a1 rs.length c1], .agg #[.string n, .string s, .string p, .slice a2 rs.length c2]] w fun e w' => e = .returned (.bool true) ∧ Below w.heap.size w w' := by
  obtain ⟨a', c', b1, o1, he, -, ha1, hc1⟩ := h1.cells
  injection he with e1 e2 e3
  subst e1 e3
  obtain ⟨a', c', b2, o2, he, -, ha2, hc2⟩ := h2.cells
  injection he with e1 e2 e3
  subst e1 e3
  have HA1 := Lib.hid ha1; have HC1 := Lib.hid hc1; have HA2 := Lib.hid ha2; have HC2 := Lib.hid hc2
  have hb0 : Below w.heap.size w ((w.alloc (.cells #[.string n, .string s, .string p, .slice a1 rs.length c1] 25)).alloc (.cells #[.string n, .string s, .string p, .slice a2 rs.length c2] 25)) := ((Below.refl _ _).alloc (Nat.le_refl _) _).alloc (by simp) _
  have HB0 := Lib.hid hb0
  clear h1 h2 ha1 hc1 ha2 hc2 hb0
  go_enter Tryz.func16, Tryz.ntmps16
  go_wp2
  go_loopw [5] (fun i wr => ∃ k q : Nat, k ≤ rs.length ∧ i = .int .i64 k ∧ wr = (((w.alloc (.cells #[.string n, .string s, .string p, .slice a1 rs.length c1] 25)).alloc (.cells #[.string n, .string s, .string p, .slice a2 rs.length c2] 25)).drewN q)) (fun i _ => rs.length - (intOf i).toNat)
  case atStart => exact ⟨0, 0, by omega, rfl, rfl⟩
  case round =>
    obtain ⟨k, q, hk, rfl, rfl⟩ := hrel
    by_cases hlt : k < rs.length
    · obtain ⟨rfl, hl1⟩ := HA1.out (by omega)
      obtain ⟨rfl, hl2⟩ := HA2.out (by omega)
      have x1 := (HB0.out.cell (p := ⟨b1, o1 + k, none⟩) hl1).trans (HC1.out k hlt)
      have x2 := (HB0.out.cell (p := ⟨b2, o2 + k, none⟩) hl2).trans (HC2.out k hlt)
      obtain ⟨t, ht⟩ : ∃ t, rs[k] = t := ⟨_, rfl⟩
      rw [ht] at x1 x2
      have i1 : (0 : Int) ≤ (k : Int) := by omega
      have i2 : (k : Int) < (rs.length : Int) := by omega
      have y1 : ((w.alloc (.cells #[.string n, .string s, .string p, .slice (some ⟨b1, o1, none⟩) rs.length c1] 25)).alloc (.cells #[.string n, .string s, .string p, .slice (some ⟨b2, o2, none⟩) rs.length c2] 25)).cell? ⟨w.heap.size, 3, none⟩ = some (.slice (some ⟨b1, o1, none⟩) rs.length c1) := by go_simp
      have y2 : ((w.alloc (.cells #[.string n, .string s, .string p, .slice (some ⟨b1, o1, none⟩) rs.length c1] 25)).alloc (.cells #[.string n, .string s, .string p, .slice (some ⟨b2, o2, none⟩) rs.length c2] 25)).cell? ⟨w.heap.size + 1, 3, none⟩ = some (.slice (some ⟨b2, o2, none⟩) rs.length c2) := by go_simp
      clear ht
      generalize (w.alloc (.cells #[.string n, .string s, .string p, .slice (some ⟨b1, o1, none⟩) rs.length c1] 25)).alloc (.cells #[.string n, .string s, .string p, .slice (some ⟨b2, o2, none⟩) rs.length c2] 25) = W at *
      go_wp2
      go_quiet (fail)
      go_wp2
      go_roundw
      case rel => exact ⟨k + 1, _, by omega, by go_num, rfl⟩
      case measure => simp [intOf]; omega
    · have hkl : rs.length ≤ k := by omega
      go_wp2
      go_ret
      exact ⟨rfl, below_drewN HB0.out _⟩
end Go.Proofs.YtinijohmdljieaaGreatDoor
