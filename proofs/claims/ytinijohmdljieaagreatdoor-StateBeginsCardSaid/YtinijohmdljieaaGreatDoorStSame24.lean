/- docketref24.Same at two first states that are the same. -/
import Derived.Test.YtinijohmdljieaaGreatDoorGb
namespace Go.Proofs.YtinijohmdljieaaGreatDoor
open Go.RowKit

theorem StW.start2 (w : World) (sec us rs sec2 us2 rs2) : StW w ((w.alloc (stO sec us rs)).alloc (stO sec2 us2 rs2)) (stC sec us rs) (stC sec2 us2 rs2) := by
  refine ⟨(ownBox w _ _ 14 _ (Nat.le_refl _) rfl).alloc _, ?_, ((Below.refl _ _).alloc (Nat.le_refl _) _).alloc (by simp) _⟩
  have h := ownBox (w.alloc (stO sec us rs)) #[.int .i64 0, .string sec2, us2, rs2, .slice none 0 0, .slice none 0 0, .slice none 0 0, .slice none 0 0, .slice none 0 0, .slice none 0 0, .int .i64 0, .int .i64 0, .int .i64 0, .int .i64 0] 35 14 w.heap.size (by simp) rfl
  have hz : (w.alloc (stO sec us rs)).heap.size = w.heap.size + 1 := by simp
  rw [hz] at h
  exact h
theorem StW.drew {w W : World} {x y : List Value} (h : StW w W x y) : StW w W.drew x y := h.call (Below.refl _ _).drew
/-- a user's cells -/
structure UsrC (w : World) (g : Nat) (n s p : ByteArray) (v : Value) : Prop where
  lt : g < w.heap.size
  c0 : w.cell? ⟨g, 0, none⟩ = some (.string n)
  c1 : w.cell? ⟨g, 1, none⟩ = some (.string s)
  c2 : w.cell? ⟨g, 2, none⟩ = some (.string p)
  c3 : w.cell? ⟨g, 3, none⟩ = some v
theorem UsrC.below {w w' : World} {g : Nat} {n s p : ByteArray} {v : Value} (h : UsrC w g n s p v) (hb : Below w.heap.size w w') : UsrC w' g n s p v :=
  ⟨Nat.lt_of_lt_of_le h.lt hb.size, cellBelow2 hb h.c0, cellBelow2 hb h.c1, cellBelow2 hb h.c2, cellBelow2 hb h.c3⟩
theorem StW.packU {w W : World} {sec sec2 : ByteArray} {us rs us2 rs2 v1 v2 : Value} {g1 g2 : Nat} {n s p : ByteArray} (h1 : UsrC w g1 n s p v1) (h2 : UsrC w g2 n s p v2) (h : StW w W (stC sec us rs) (stC sec2 us2 rs2)) :
    StW w W (stC sec us rs) (stC sec2 us2 rs2) ∧ W.cell? ⟨w.heap.size, 2, none⟩ = some us ∧ W.cell? ⟨w.heap.size + 1, 2, none⟩ = some us2 ∧
      W.cell? ⟨g1, 0, none⟩ = some (.string n) ∧ W.cell? ⟨g1, 1, none⟩ = some (.string s) ∧ W.cell? ⟨g1, 2, none⟩ = some (.string p) ∧ W.cell? ⟨g1, 3, none⟩ = some v1 ∧
      W.cell? ⟨g2, 0, none⟩ = some (.string n) ∧ W.cell? ⟨g2, 1, none⟩ = some (.string s) ∧ W.cell? ⟨g2, 2, none⟩ = some (.string p) ∧ W.cell? ⟨g2, 3, none⟩ = some v2 :=
  ⟨h, h.cp 2 _ rfl, h.cq 2 _ rfl, (h1.below h.below).c0, (h1.below h.below).c1, (h1.below h.below).c2, (h1.below h.below).c3, (h2.below h.below).c0, (h2.below h.below).c1, (h2.below h.below).c2, (h2.below h.below).c3⟩
/-- the k-th role of two lists of the same data -/
structure RolC (w : World) (a1 a2 : Option Addr) (b1 o1 b2 o2 k : Nat) (nm : ByteArray) (h m : List ByteArray) (x1 : Option Addr) (y1 : Nat) (x2 : Option Addr) (y2 : Nat) (x3 : Option Addr) (y3 : Nat) (x4 : Option Addr) (y4 : Nat) : Prop where
  e1 : a1 = some ⟨b1, o1, none⟩
  e2 : a2 = some ⟨b2, o2, none⟩
  p0 : w.cell? ⟨b1, o1 + k * 3, none⟩ = some (.string nm)
  p1 : w.cell? ⟨b1, o1 + k * 3 + 1, none⟩ = some (.slice x1 h.length y1)
  p2 : w.cell? ⟨b1, o1 + k * 3 + 2, none⟩ = some (.slice x2 m.length y2)
  q0 : w.cell? ⟨b2, o2 + k * 3, none⟩ = some (.string nm)
  q1 : w.cell? ⟨b2, o2 + k * 3 + 1, none⟩ = some (.slice x3 h.length y3)
  q2 : w.cell? ⟨b2, o2 + k * 3 + 2, none⟩ = some (.slice x4 m.length y4)
  s1 : Strs w.heap.size w (.slice x1 h.length y1) h
  s2 : Strs w.heap.size w (.slice x2 m.length y2) m
  s3 : Strs w.heap.size w (.slice x3 h.length y3) h
  s4 : Strs w.heap.size w (.slice x4 m.length y4) m
  l1 : h.length ≤ 1000000
  l2 : m.length ≤ 1000000
theorem RolC.below {w w' : World} {a1 a2 x1 x2 x3 x4 : Option Addr} {b1 o1 b2 o2 k y1 y2 y3 y4 : Nat} {nm : ByteArray} {h m : List ByteArray} (H : RolC w a1 a2 b1 o1 b2 o2 k nm h m x1 y1 x2 y2 x3 y3 x4 y4) (hb : Below w.heap.size w w') : RolC w' a1 a2 b1 o1 b2 o2 k nm h m x1 y1 x2 y2 x3 y3 x4 y4 :=
  ⟨H.e1, H.e2, cellBelow2 hb H.p0, cellBelow2 hb H.p1, cellBelow2 hb H.p2, cellBelow2 hb H.q0, cellBelow2 hb H.q1, cellBelow2 hb H.q2, (H.s1.below hb).mono hb.size, (H.s2.below hb).mono hb.size, (H.s3.below hb).mono hb.size, (H.s4.below hb).mono hb.size, H.l1, H.l2⟩
theorem rolC_at {w : World} {a1 a2 : Option Addr} {b1 o1 b2 o2 : Nat} {l1 l2 : List Rl} (h1 : RlsC w.heap.size w a1 b1 o1 l1) (h2 : RlsC w.heap.size w a2 b2 o2 l2) (hd : SameD l1 l2) (hn : ∀ r ∈ l1, r.holds.length ≤ 1000000 ∧ r.may.length ≤ 1000000) {k : Nat} (hk : k < l1.length) :
    ∃ nm h m x1 y1 x2 y2 x3 y3 x4 y4, RolC w a1 a2 b1 o1 b2 o2 k nm h m x1 y1 x2 y2 x3 y3 x4 y4 := by
  have hk2 : k < l2.length := by rw [hd.1]; exact hk
  obtain ⟨d1, d2, d3⟩ := hd.2 k hk hk2
  obtain ⟨n1, n2⟩ := hn _ (List.getElem_mem hk)
  have t1 := h1.c1 k hk; have t2 := h1.c2 k hk; have t3 := h2.c0 k hk2; have t4 := h2.c1 k hk2; have t5 := h2.c2 k hk2
  have u3 := h2.hs k hk2; have u4 := h2.ms k hk2
  simp only [Rl.hv, Rl.mv] at t4 t5 u3 u4
  rw [d1] at t3
  rw [d2] at t4 u3
  rw [d3] at t5 u4
  exact ⟨_, _, _, _, _, _, _, _, _, _, _, (h1.at0 (by omega)).1, (h2.at0 (by omega)).1, h1.c0 k hk, t1, t2, t3, t4, t5, h1.hs k hk, h1.ms k hk, u3, u4, n1, n2⟩
theorem StW.packR {w W : World} {sec sec2 : ByteArray} {us rs us2 rs2 : Value} {a1 a2 x1 x2 x3 x4 : Option Addr} {b1 o1 b2 o2 k y1 y2 y3 y4 : Nat} {nm : ByteArray} {h m : List ByteArray} (H : RolC w a1 a2 b1 o1 b2 o2 k nm h m x1 y1 x2 y2 x3 y3 x4 y4) (hS : StW w W (stC sec us rs) (stC sec2 us2 rs2)) :
    StW w W (stC sec us rs) (stC sec2 us2 rs2) ∧ W.cell? ⟨w.heap.size, 3, none⟩ = some rs ∧ W.cell? ⟨w.heap.size + 1, 3, none⟩ = some rs2 ∧
      W.cell? ⟨b1, o1 + k * 3, none⟩ = some (.string nm) ∧ W.cell? ⟨b1, o1 + k * 3 + 1, none⟩ = some (.slice x1 h.length y1) ∧ W.cell? ⟨b1, o1 + k * 3 + 2, none⟩ = some (.slice x2 m.length y2) ∧
      W.cell? ⟨b2, o2 + k * 3, none⟩ = some (.string nm) ∧ W.cell? ⟨b2, o2 + k * 3 + 1, none⟩ = some (.slice x3 h.length y3) ∧ W.cell? ⟨b2, o2 + k * 3 + 2, none⟩ = some (.slice x4 m.length y4) :=
  ⟨hS, hS.cp 3 _ rfl, hS.cq 3 _ rfl, (H.below hS.below).p0, (H.below hS.below).p1, (H.below hS.below).p2, (H.below hS.below).q0, (H.below hS.below).q1, (H.below hS.below).q2⟩
set_option maxHeartbeats 8000000 in
set_option maxRecDepth 100000 in
/-- docketref24.Same, at two first states of the same data -/
theorem refSame24 (sec n s p : ByteArray) (g1 c1 g2 c2 : Nat) (ua1 ua2 : Option Addr) (uc1 uc2 : Nat) (rs : List ByteArray) (a1 a2 : Option Addr) (vc1 vc2 b1 o1 b2 o2 : Nat) (l1 l2 : List Rl) (w : World)
    (hu1 : UsrC w g1 n s p (.slice ua1 rs.length uc1)) (hu2 : UsrC w g2 n s p (.slice ua2 rs.length uc2)) (hs1 : Strs w.heap.size w (.slice ua1 rs.length uc1) rs) (hs2 : Strs w.heap.size w (.slice ua2 rs.length uc2) rs) (hrl : rs.length ≤ 1000000)
    (h1 : RlsC w.heap.size w a1 b1 o1 l1) (h2 : RlsC w.heap.size w a2 b2 o2 l2) (hd : SameD l1 l2) (hn : ∀ r ∈ l1, r.holds.length ≤ 1000000 ∧ r.may.length ≤ 1000000) (hl : l1.length ≤ 1000) :
    Calls Tryz.prog 8 #[stV sec (.slice (some ⟨g1, 0, none⟩) 1 c1) (.slice a1 l1.length vc1), stV sec (.slice (some ⟨g2, 0, none⟩) 1 c2) (.slice a2 l1.length vc2)] w fun e w' => e = .returned (.bool true) ∧ Below w.heap.size w w' := by
  have HS0 := Lib.hid (StW.start2 w sec (.slice (some ⟨g1, 0, none⟩) 1 c1) (.slice a1 l1.length vc1) sec (.slice (some ⟨g2, 0, none⟩) 1 c2) (.slice a2 l1.length vc2))
  have HU1 := Lib.hid hu1
  have HU2 := Lib.hid hu2
  have HUS := Lib.hid (fun W (hb : Below w.heap.size w W) => refSame_yes n s p ua1 ua2 uc1 uc2 rs W hrl ((hs1.below hb).mono hb.size) ((hs2.below hb).mono hb.size))
  have HRO := Lib.hid (fun k (hk : k < l1.length) => rolC_at h1 h2 hd hn hk)
  generalize l1.length = L at *
  clear hu1 hu2 hs1 hs2 hrl h1 h2 hd hn
  go_enter Tryz.func8, Tryz.ntmps8
  go_upto_region 1 with fail
  generalize (w.alloc (stO sec (.slice (some ⟨g1, 0, none⟩) 1 c1) (.slice a1 L vc1))).alloc (stO sec (.slice (some ⟨g2, 0, none⟩) 1 c2) (.slice a2 L vc2)) = W0 at *
  have k0 := HS0.out.cp 0 _ rfl
  have k1 := HS0.out.cp 1 _ rfl
  have k2 := HS0.out.cp 2 _ rfl
  have k3 := HS0.out.cp 3 _ rfl
  have k4 := HS0.out.cp 4 _ rfl
  have k5 := HS0.out.cp 5 _ rfl
  have k9 := HS0.out.cp 9 _ rfl
  have k10 := HS0.out.cp 10 _ rfl
  have k11 := HS0.out.cp 11 _ rfl
  have k12 := HS0.out.cp 12 _ rfl
  have k13 := HS0.out.cp 13 _ rfl
  have q0 := HS0.out.cq 0 _ rfl
  have q1 := HS0.out.cq 1 _ rfl
  have q2 := HS0.out.cq 2 _ rfl
  have q3 := HS0.out.cq 3 _ rfl
  have q4 := HS0.out.cq 4 _ rfl
  have q5 := HS0.out.cq 5 _ rfl
  have q9 := HS0.out.cq 9 _ rfl
  have q10 := HS0.out.cq 10 _ rfl
  have q11 := HS0.out.cq 11 _ rfl
  have q12 := HS0.out.cq 12 _ rfl
  have q13 := HS0.out.cq 13 _ rfl
  go_wp2_with fail
  clear k0 k1 k2 k3 k4 k5 k9 k10 k11 k12 k13 q0 q1 q2 q3 q4 q5 q9 q10 q11 q12 q13
  go_loopw [5] (fun i wr => (i = .int .i64 0 ∨ i = .int .i64 1) ∧ Hid (StW w wr (stC sec (.slice (some ⟨g1, 0, none⟩) 1 c1) (.slice a1 L vc1)) (stC sec (.slice (some ⟨g2, 0, none⟩) 1 c2) (.slice a2 L vc2)))) (fun i _ => 1 - (intOf i).toNat)
  case atStart => exact ⟨.inl rfl, HS0⟩
  case round =>
    clear HS0
    obtain ⟨hi, HS⟩ := hrel
    have k2 := HS.out.cp 2 _ rfl
    have q2 := HS.out.cq 2 _ rfl
    rcases hi with rfl | rfl
    · go_upto_region 8 with fail
      clear k2 q2 HRO
      go_region_held3 (fun W => StW w W (stC sec (.slice (some ⟨g1, 0, none⟩) 1 c1) (.slice a1 L vc1)) (stC sec (.slice (some ⟨g2, 0, none⟩) 1 c2) (.slice a2 L vc2)) ∧ W.cell? ⟨w.heap.size, 2, none⟩ = some (.slice (some ⟨g1, 0, none⟩) 1 c1) ∧ W.cell? ⟨w.heap.size + 1, 2, none⟩ = some (.slice (some ⟨g2, 0, none⟩) 1 c2) ∧
        W.cell? ⟨g1, 0, none⟩ = some (.string n) ∧ W.cell? ⟨g1, 1, none⟩ = some (.string s) ∧ W.cell? ⟨g1, 2, none⟩ = some (.string p) ∧ W.cell? ⟨g1, 3, none⟩ = some (.slice ua1 rs.length uc1) ∧
        W.cell? ⟨g2, 0, none⟩ = some (.string n) ∧ W.cell? ⟨g2, 1, none⟩ = some (.string s) ∧ W.cell? ⟨g2, 2, none⟩ = some (.string p) ∧ W.cell? ⟨g2, 3, none⟩ = some (.slice ua2 rs.length uc2))
        (first | exact StW.packU HU1.out HU2.out HS.out.drew | exact StW.packU HU1.out HU2.out (by assumption))
        ((go_at_call 16; refine (HUS.out _ (StW.below (And.left (by assumption)))).mono ?_; rintro e W' ⟨rfl, hbw⟩; have hsw := StW.call (And.left (by assumption)) hbw))
      all_goals
        rename_i hS
        have hS1 := Lib.hid hS.1
        clear hS HS HU1 HU2 HUS
        go_wp2_with fail
        go_roundw
        case rel => exact ⟨.inr rfl, hS1⟩
        case measure => simp [intOf]
    · clear HU1 HU2 HUS
      go_wp2_with fail
      go_loopw [6] (fun i wr => ∃ k : Nat, k ≤ L ∧ i = .int .i64 k ∧ Hid (StW w wr (stC sec (.slice (some ⟨g1, 0, none⟩) 1 c1) (.slice a1 L vc1)) (stC sec (.slice (some ⟨g2, 0, none⟩) 1 c2) (.slice a2 L vc2)))) (fun i _ => L - (intOf i).toNat)
      case atStart => exact ⟨0, Nat.zero_le _, rfl, HS⟩
      case round =>
        clear HS k2 q2
        obtain ⟨k, hk, rfl, HS⟩ := hrel
        have k3 := HS.out.cp 3 _ rfl
        have q3 := HS.out.cq 3 _ rfl
        by_cases hlt : k < L
        · obtain ⟨nm, h, m, x1, y1, x2, y2, x3, y3, x4, y4, hR⟩ := HRO.out k hlt
          obtain rfl := hR.e1
          obtain rfl := hR.e2
          have HR := Lib.hid hR
          have HT1 := Lib.hid (fun W (hb : Below w.heap.size w W) => refTexts_yes x1 x3 y1 y3 h W.heap.size W hR.l1 (hR.below hb).s1 (hR.below hb).s3)
          have HT2 := Lib.hid (fun W (hb : Below w.heap.size w W) => refTexts_yes x2 x4 y2 y4 m W.heap.size W hR.l2 (hR.below hb).s2 (hR.below hb).s4)
          have i1 : (0 : Int) ≤ (k : Int) := by omega
          have i2 : (k : Int) < (L : Int) := by omega
          clear hR HRO
          go_upto_region 13 with fail
          clear k3 q3
          go_region_held3 (fun W => StW w W (stC sec (.slice (some ⟨g1, 0, none⟩) 1 c1) (.slice (some ⟨b1, o1, none⟩) L vc1)) (stC sec (.slice (some ⟨g2, 0, none⟩) 1 c2) (.slice (some ⟨b2, o2, none⟩) L vc2)) ∧ W.cell? ⟨w.heap.size, 3, none⟩ = some (.slice (some ⟨b1, o1, none⟩) L vc1) ∧ W.cell? ⟨w.heap.size + 1, 3, none⟩ = some (.slice (some ⟨b2, o2, none⟩) L vc2) ∧
            W.cell? ⟨b1, o1 + k * 3, none⟩ = some (.string nm) ∧ W.cell? ⟨b1, o1 + k * 3 + 1, none⟩ = some (.slice x1 h.length y1) ∧ W.cell? ⟨b1, o1 + k * 3 + 2, none⟩ = some (.slice x2 m.length y2) ∧
            W.cell? ⟨b2, o2 + k * 3, none⟩ = some (.string nm) ∧ W.cell? ⟨b2, o2 + k * 3 + 1, none⟩ = some (.slice x3 h.length y3) ∧ W.cell? ⟨b2, o2 + k * 3 + 2, none⟩ = some (.slice x4 m.length y4))
            (first | exact StW.packR HR.out HS.out.drew | exact StW.packR HR.out (by assumption))
            (first
              | (go_at_call 30; refine (HT1.out _ (StW.below (And.left (by assumption)))).mono ?_; rintro e W' ⟨rfl, hbw⟩; have hsw := StW.call (And.left (by assumption)) hbw; clear HT1)
              | (go_at_call 30; refine (HT2.out _ (StW.below (And.left (by assumption)))).mono ?_; rintro e W' ⟨rfl, hbw⟩; have hsw := StW.call (And.left (by assumption)) hbw; clear HT2))
          all_goals
            rename_i hS
            have hS1 := Lib.hid hS.1
            clear hS HS HR
            go_wp2_with fail
            go_roundw
            case rel => exact ⟨k + 1, by omega, by go_num, hS1⟩
            case measure => simp [intOf]; omega
        · have i1 : ¬ (k : Int) < (L : Int) := by omega
          clear HRO
          have k4 := HS.out.cp 4 _ rfl
          have k5 := HS.out.cp 5 _ rfl
          have k9 := HS.out.cp 9 _ rfl
          go_wp2_with fail
          go_loopw [7] (fun i wr' => i = .int .i64 0 ∧ wr' = wr) (fun _ _ => 0)
          case atStart => exact ⟨rfl, rfl⟩
          case round =>
            obtain ⟨rfl, rfl⟩ := hrel
            go_wp2_with fail
            go_loopw [8] (fun i wr'' => i = .int .i64 0 ∧ wr'' = wr) (fun _ _ => 0)
            case atStart => exact ⟨rfl, rfl⟩
            case round =>
              obtain ⟨rfl, rfl⟩ := hrel
              go_wp2_with fail
              go_loopw [9] (fun i wz => i = .int .i64 0 ∧ wz = wr) (fun _ _ => 0)
              case atStart => exact ⟨rfl, rfl⟩
              case round =>
                obtain ⟨rfl, rfl⟩ := hrel
                have k6 := HS.out.cp 6 _ rfl
                have k7 := HS.out.cp 7 _ rfl
                have k8 := HS.out.cp 8 _ rfl
                have q6 := HS.out.cq 6 _ rfl
                have q7 := HS.out.cq 7 _ rfl
                have q8 := HS.out.cq 8 _ rfl
                go_wp2_with (first
                  | (go_at_call 31; refine (sameNilT _).mono ?_; rintro e W' ⟨rfl, rfl⟩)
                  | (go_at_call 32; refine (sameNilW _).mono ?_; rintro e W' ⟨rfl, rfl⟩)
                  | (go_at_call 33; refine (sameNilA _).mono ?_; rintro e W' ⟨rfl, rfl⟩))
                go_ret
                exact ⟨rfl, HS.out.below⟩
set_option maxHeartbeats 8000000 in
set_option maxRecDepth 100000 in
/-- docketref24.Same, at two empty states -/
theorem refSame24_nil (w : World) :
    Calls Tryz.prog 8 #[stV ⟨#[]⟩ (.slice none 0 0) (.slice none 0 0), stV ⟨#[]⟩ (.slice none 0 0) (.slice none 0 0)] w fun e w' => e = .returned (.bool true) ∧ Below w.heap.size w w' := by
  have HS0 := Lib.hid (StW.start2 w ⟨#[]⟩ (.slice none 0 0) (.slice none 0 0) ⟨#[]⟩ (.slice none 0 0) (.slice none 0 0))
  go_enter Tryz.func8, Tryz.ntmps8
  go_upto_region 1 with fail
  generalize (w.alloc (stO ⟨#[]⟩ (.slice none 0 0) (.slice none 0 0))).alloc (stO ⟨#[]⟩ (.slice none 0 0) (.slice none 0 0)) = W0 at *
  have k0 := HS0.out.cp 0 _ rfl
  have k1 := HS0.out.cp 1 _ rfl
  have k2 := HS0.out.cp 2 _ rfl
  have k3 := HS0.out.cp 3 _ rfl
  have k4 := HS0.out.cp 4 _ rfl
  have k5 := HS0.out.cp 5 _ rfl
  have k6 := HS0.out.cp 6 _ rfl
  have k7 := HS0.out.cp 7 _ rfl
  have k8 := HS0.out.cp 8 _ rfl
  have k9 := HS0.out.cp 9 _ rfl
  have k10 := HS0.out.cp 10 _ rfl
  have k11 := HS0.out.cp 11 _ rfl
  have k12 := HS0.out.cp 12 _ rfl
  have k13 := HS0.out.cp 13 _ rfl
  have q0 := HS0.out.cq 0 _ rfl
  have q1 := HS0.out.cq 1 _ rfl
  have q2 := HS0.out.cq 2 _ rfl
  have q3 := HS0.out.cq 3 _ rfl
  have q4 := HS0.out.cq 4 _ rfl
  have q5 := HS0.out.cq 5 _ rfl
  have q6 := HS0.out.cq 6 _ rfl
  have q7 := HS0.out.cq 7 _ rfl
  have q8 := HS0.out.cq 8 _ rfl
  have q9 := HS0.out.cq 9 _ rfl
  have q10 := HS0.out.cq 10 _ rfl
  have q11 := HS0.out.cq 11 _ rfl
  have q12 := HS0.out.cq 12 _ rfl
  have q13 := HS0.out.cq 13 _ rfl
  have HB := Lib.hid HS0.out.below
  clear HS0
  go_wp2_with fail
  go_loopw [5] (fun i wr => i = .int .i64 0 ∧ wr = W0) (fun _ _ => 0)
  case atStart => exact ⟨rfl, rfl⟩
  case round =>
    obtain ⟨rfl, rfl⟩ := hrel
    go_wp2_with fail
    go_loopw [6] (fun i wa => i = .int .i64 0 ∧ wa = wr) (fun _ _ => 0)
    case atStart => exact ⟨rfl, rfl⟩
    case round =>
      obtain ⟨rfl, rfl⟩ := hrel
      go_wp2_with fail
      go_loopw [7] (fun i wb => i = .int .i64 0 ∧ wb = wr) (fun _ _ => 0)
      case atStart => exact ⟨rfl, rfl⟩
      case round =>
        obtain ⟨rfl, rfl⟩ := hrel
        go_wp2_with fail
        go_loopw [8] (fun i wc => i = .int .i64 0 ∧ wc = wr) (fun _ _ => 0)
        case atStart => exact ⟨rfl, rfl⟩
        case round =>
          obtain ⟨rfl, rfl⟩ := hrel
          go_wp2_with fail
          go_loopw [9] (fun i wd => i = .int .i64 0 ∧ wd = wr) (fun _ _ => 0)
          case atStart => exact ⟨rfl, rfl⟩
          case round =>
            obtain ⟨rfl, rfl⟩ := hrel
            go_wp2_with (first
              | (go_at_call 31; refine (sameNilT _).mono ?_; rintro e W' ⟨rfl, rfl⟩)
              | (go_at_call 32; refine (sameNilW _).mono ?_; rintro e W' ⟨rfl, rfl⟩)
              | (go_at_call 33; refine (sameNilA _).mono ?_; rintro e W' ⟨rfl, rfl⟩))
            go_ret
            exact ⟨rfl, HB.out⟩
end Go.Proofs.YtinijohmdljieaaGreatDoor
