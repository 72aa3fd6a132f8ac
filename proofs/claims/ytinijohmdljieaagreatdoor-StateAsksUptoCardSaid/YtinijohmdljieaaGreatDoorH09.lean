/- Two boxes of one type; docketref16.Same at values that are the same. docketref24: list, sentries; docketref19: bools. A copy under way: three boxes, the fields that are new, a list that is being built. -/
import Derived.Test.YtinijohmdljieaaGreatDoorJTwin2
namespace Go.Proofs.YtinijohmdljieaaGreatDoor
open Go.RowKit

structure B2 (E : TypeId) (k : Nat) (w W : World) (x y : List Value) : Prop where
  p : Own W w.heap.size E k (some ⟨w.heap.size, 0, none⟩) 1 1 x
  q : Own W w.heap.size E k (some ⟨w.heap.size + 1, 0, none⟩) 1 1 y
  below : Below w.heap.size w W
section
variable {E : TypeId} {k : Nat} {w W W' : World} {x y : List Value}
theorem B2.lt (h : B2 E k w W x y) : w.heap.size + 1 < W.heap.size := (h.q.lt rfl).2
theorem B2.call (h : B2 E k w W x y) (hb : Below W.heap.size W W') : B2 E k w W' x y :=
  ⟨h.p.below hb (Nat.le_refl _), h.q.below hb (Nat.le_refl _), h.below.trans (hb.mono h.below.size)⟩
theorem B2.drew (h : B2 E k w W x y) : B2 E k w W.drew x y := h.call (Below.refl _ _).drew
theorem B2.drewN (h : B2 E k w W x y) (n : Nat) : B2 E k w (W.drewN n) x y := h.call (below_drewN (Below.refl _ _) n)
theorem B2.cp (h : B2 E k w W x y) (j : Nat) (v : Value) (hj : x[j]? = some v) : W.cell? ⟨w.heap.size, j, none⟩ = some v := h.p.cellAt j hj
theorem B2.cq (h : B2 E k w W x y) (j : Nat) (v : Value) (hj : y[j]? = some v) : W.cell? ⟨w.heap.size + 1, j, none⟩ = some v := h.q.cellAt j hj
theorem B2.start (w : World) (E : TypeId) (k : Nat) (x y : Array Value) (hx : x.size = k) (hy : y.size = k) : B2 E k w ((w.alloc (.cells x E)).alloc (.cells y E)) x.toList y.toList := by
  have e1 : (w.alloc (.cells x E)).heap.size = w.heap.size + 1 := by simp
  have h2 := ownBox (w.alloc (.cells x E)) y E k w.heap.size (by omega) hy
  rw [e1] at h2
  exact ⟨(ownBox w x E k _ (Nat.le_refl _) hx).alloc _, h2, ((Below.refl _ _).alloc (Nat.le_refl _) _).alloc (by omega) _⟩
end
set_option maxHeartbeats 8000000 in
set_option maxRecDepth 100000 in
theorem jsonSame {ds : List D} (h : IsJson ds) : ∀ (us vs : List Value) (w : World), MemL false (From 0) w ds us → MemL false (From 0) w ds vs → Calls Tryz.prog 50 #[.agg us.toArray, .agg vs.toArray] w fun e w' => e = .returned (.bool true) ∧ Below w.heap.size w w' := by
  induction h with
  | mk k b i t names es hn he hj ih =>
    intro us vs w hm hm2
    obtain ⟨a, c, a2, c2, b2, o2, vs0, rfl, hnm, hC⟩ := json_open hm
    obtain ⟨a3, c3, a4, c4, b4, o4, vs1, rfl, hnm2, hC2⟩ := json_open hm2
    obtain ⟨_, _, nb, no, hve, -, hNC⟩ := flat_open hnm
    obtain ⟨_, _, nb2, no2, hve2, -, hNC2⟩ := flat_open hnm2
    injection hve with hv1 hv2 hv3
    injection hve2 with hv4 hv5 hv6
    subst hv1 hv3 hv4 hv6
    have HC := Lib.hid hC
    have HC2 := Lib.hid hC2
    have HN := Lib.hid hNC
    have HN2 := Lib.hid hNC2
    have HJA := Lib.hid hj
    have HIA := Lib.hid ih
    have HNL := Lib.hid hn
    have HLE := Lib.hid he
    have HB0 := Lib.hid (B2.start w 77 6 #[.int .u8 k, .bool b, .int .i64 i, .string t, .slice a names.length c, .slice a2 es.length c2] #[.int .u8 k, .bool b, .int .i64 i, .string t, .slice a3 names.length c3, .slice a4 es.length c4] rfl rfl)
    clear hm hm2 hnm hnm2 hC hC2 hj ih hn he hv2 hv5 hNC hNC2
    go_enter Tryz.func50, Tryz.ntmps50
    go_upto_region 1 with fail
    revert HB0
    generalize ((w.alloc (.cells #[.int .u8 k, .bool b, .int .i64 i, .string t, .slice a names.length c, .slice a2 es.length c2] 77)).alloc (.cells #[.int .u8 k, .bool b, .int .i64 i, .string t, .slice a3 names.length c3, .slice a4 es.length c4] 77)) = W0
    intro HB0
    have k0 := HB0.out.cp 0 _ rfl
    have k1 := HB0.out.cp 1 _ rfl
    have k2 := HB0.out.cp 2 _ rfl
    have k3 := HB0.out.cp 3 _ rfl
    have k4 := HB0.out.cp 4 _ rfl
    have k5 := HB0.out.cp 5 _ rfl
    have q0 := HB0.out.cq 0 _ rfl
    have q1 := HB0.out.cq 1 _ rfl
    have q2 := HB0.out.cq 2 _ rfl
    have q3 := HB0.out.cq 3 _ rfl
    have q4 := HB0.out.cq 4 _ rfl
    have q5 := HB0.out.cq 5 _ rfl
    go_wp2_with fail
    clear k0 k1 k2 k3 k5 q0 q1 q2 q3 q5
    go_loopw [5] (fun j wx => ∃ m n : Nat, m ≤ names.length ∧ j = .int .i64 m ∧ wx = W0.drewN n) (fun j _ => names.length - (intOf j).toNat)
    case atStart => exact ⟨0, 0, Nat.zero_le _, rfl, rfl⟩
    case round =>
      obtain ⟨m, n, hml, rfl, rfl⟩ := hrel
      by_cases hlt : m < names.length
      · obtain ⟨rfl, -, -⟩ := HN.out.at0 (by omega)
        obtain ⟨rfl, -, -⟩ := HN2.out.at0 (by omega)
        have x1 := cellBelow2 HB0.out.below (HN.out.cell m hlt 0 _ rfl)
        have x2 := cellBelow2 HB0.out.below (HN2.out.cell m hlt 0 _ rfl)
        simp only [Nat.mul_one, Nat.add_zero] at x1 x2
        obtain ⟨s, hs⟩ : ∃ s, names[m] = s := ⟨_, rfl⟩
        rw [hs] at x1 x2
        have i1 : (0 : Int) ≤ (m : Int) := by omega
        have i2 : (m : Int) < (names.length : Int) := by omega
        have wr1 : IntKind.i64.wrap ((m : Int) + 1) = (m : Int) + 1 := wrap_i64 (by omega) (by have := HNL.out; omega)
        clear hs
        go_wp2_with fail
        go_quiet (fail)
        go_wp2_with fail
        go_roundw
        case rel => exact ⟨m + 1, _, by omega, by go_num, rfl⟩
        case measure => simp [intOf]; omega
      · have hme : names.length ≤ m := by omega
        have i1 : ¬ (m : Int) < (names.length : Int) := by omega
        have HB1 := Lib.hid (HB0.out.drewN n)
        clear HN HN2 k4 q4 hme
        have k4 := HB0.out.cp 4 _ rfl
        have k5 := HB0.out.cp 5 _ rfl
        go_wp2_with fail
        clear k4 k5 i1 HB0
        go_loopw [6] (fun j wx => ∃ m : Nat, m ≤ es.length ∧ j = .int .i64 m ∧ Hid (B2 77 6 w wx (jsonC k b i t (.slice a names.length c) (.slice a2 es.length c2)) (jsonC k b i t (.slice a3 names.length c3) (.slice a4 es.length c4)))) (fun j _ => es.length - (intOf j).toNat)
        case atStart => exact ⟨0, Nat.zero_le _, rfl, HB1.out⟩
        case round =>
          clear HB1 hml hlt
          obtain ⟨m, hml, rfl, HS⟩ := hrel
          have k5 := HS.out.cp 5 _ rfl
          have q5 := HS.out.cq 5 _ rfl
          by_cases hlt : m < es.length
          · obtain ⟨rfl, -, -⟩ := HC.out.at0 (by omega)
            obtain ⟨rfl, -, -⟩ := HC2.out.at0 (by omega)
            have hj1 := HJA.out _ (List.getElem_mem hlt)
            have hv0 : m < vs0.length := by rw [HC.out.len]; exact hlt
            have hv1 : m < vs1.length := by rw [HC2.out.len]; exact hlt
            have hr := HC.out.row m hlt hv0
            have hr2 := HC2.out.row m hlt hv1
            have HIH := Lib.hid (fun W (hb : Below w.heap.size w W) => HIA.out _ (List.getElem_mem hlt) _ _ W (hr.grow hb) (hr2.grow hb))
            obtain ⟨jk, jb, ji, jt, jn, je, ja, jc, ja2, jc2, -, hvs, -⟩ := IsJson.cells hj1 hr
            obtain ⟨lk, lb, li, lt, ln, le, la, lc, la2, lc2, -, hvs2, -⟩ := IsJson.cells hj1 hr2
            have key : ∀ (q : Nat) u, vs0[m][q]? = some u → w.cell? ⟨b2, o2 + m * 6 + q, none⟩ = some u := fun q u hq => HC.out.cell m hv0 q u hq
            have key2 : ∀ (q : Nat) u, vs1[m][q]? = some u → w.cell? ⟨b4, o4 + m * 6 + q, none⟩ = some u := fun q u hq => HC2.out.cell m hv1 q u hq
            rw [hvs] at key HIH
            rw [hvs2] at key2 HIH
            have HP : Hid (∀ W, B2 77 6 w W (jsonC k b i t (.slice a names.length c) (.slice (some ⟨b2, o2, none⟩) es.length c2)) (jsonC k b i t (.slice a3 names.length c3) (.slice (some ⟨b4, o4, none⟩) es.length c4)) →
                W.cell? ⟨w.heap.size, 5, none⟩ = some (.slice (some ⟨b2, o2, none⟩) es.length c2) ∧ W.cell? ⟨w.heap.size + 1, 5, none⟩ = some (.slice (some ⟨b4, o4, none⟩) es.length c4) ∧
                W.cell? ⟨b2, o2 + m * 6, none⟩ = some (.int .u8 jk) ∧ W.cell? ⟨b2, o2 + m * 6 + 1, none⟩ = some (.bool jb) ∧ W.cell? ⟨b2, o2 + m * 6 + 2, none⟩ = some (.int .i64 ji) ∧ W.cell? ⟨b2, o2 + m * 6 + 3, none⟩ = some (.string jt) ∧ W.cell? ⟨b2, o2 + m * 6 + 4, none⟩ = some (.slice ja jn.length jc) ∧ W.cell? ⟨b2, o2 + m * 6 + 5, none⟩ = some (.slice ja2 je.length jc2) ∧
                W.cell? ⟨b4, o4 + m * 6, none⟩ = some (.int .u8 lk) ∧ W.cell? ⟨b4, o4 + m * 6 + 1, none⟩ = some (.bool lb) ∧ W.cell? ⟨b4, o4 + m * 6 + 2, none⟩ = some (.int .i64 li) ∧ W.cell? ⟨b4, o4 + m * 6 + 3, none⟩ = some (.string lt) ∧ W.cell? ⟨b4, o4 + m * 6 + 4, none⟩ = some (.slice la ln.length lc) ∧ W.cell? ⟨b4, o4 + m * 6 + 5, none⟩ = some (.slice la2 le.length lc2)) := by
              intro W hW
              exact ⟨hW.cp 5 _ rfl, hW.cq 5 _ rfl, cellBelow2 hW.below (key 0 _ rfl), cellBelow2 hW.below (key 1 _ rfl), cellBelow2 hW.below (key 2 _ rfl), cellBelow2 hW.below (key 3 _ rfl), cellBelow2 hW.below (key 4 _ rfl), cellBelow2 hW.below (key 5 _ rfl),
                cellBelow2 hW.below (key2 0 _ rfl), cellBelow2 hW.below (key2 1 _ rfl), cellBelow2 hW.below (key2 2 _ rfl), cellBelow2 hW.below (key2 3 _ rfl), cellBelow2 hW.below (key2 4 _ rfl), cellBelow2 hW.below (key2 5 _ rfl)⟩
            have i1 : (0 : Int) ≤ (m : Int) := by omega
            have i2 : (m : Int) < (es.length : Int) := by omega
            clear hj1 hr hr2 hvs hvs2 hv0 hv1 key key2 HC HC2 HIA HJA
            go_upto_region 11 with fail
            clear k5 q5
            go_region_held3 (fun W => B2 77 6 w W (jsonC k b i t (.slice a names.length c) (.slice (some ⟨b2, o2, none⟩) es.length c2)) (jsonC k b i t (.slice a3 names.length c3) (.slice (some ⟨b4, o4, none⟩) es.length c4)) ∧
                W.cell? ⟨w.heap.size, 5, none⟩ = some (.slice (some ⟨b2, o2, none⟩) es.length c2) ∧ W.cell? ⟨w.heap.size + 1, 5, none⟩ = some (.slice (some ⟨b4, o4, none⟩) es.length c4) ∧
                W.cell? ⟨b2, o2 + m * 6, none⟩ = some (.int .u8 jk) ∧ W.cell? ⟨b2, o2 + m * 6 + 1, none⟩ = some (.bool jb) ∧ W.cell? ⟨b2, o2 + m * 6 + 2, none⟩ = some (.int .i64 ji) ∧ W.cell? ⟨b2, o2 + m * 6 + 3, none⟩ = some (.string jt) ∧ W.cell? ⟨b2, o2 + m * 6 + 4, none⟩ = some (.slice ja jn.length jc) ∧ W.cell? ⟨b2, o2 + m * 6 + 5, none⟩ = some (.slice ja2 je.length jc2) ∧
                W.cell? ⟨b4, o4 + m * 6, none⟩ = some (.int .u8 lk) ∧ W.cell? ⟨b4, o4 + m * 6 + 1, none⟩ = some (.bool lb) ∧ W.cell? ⟨b4, o4 + m * 6 + 2, none⟩ = some (.int .i64 li) ∧ W.cell? ⟨b4, o4 + m * 6 + 3, none⟩ = some (.string lt) ∧ W.cell? ⟨b4, o4 + m * 6 + 4, none⟩ = some (.slice la ln.length lc) ∧ W.cell? ⟨b4, o4 + m * 6 + 5, none⟩ = some (.slice la2 le.length lc2))
              (first | exact ⟨HS.out.drew, HP.out _ HS.out.drew⟩ | exact (fun h => ⟨h, HP.out _ h⟩) (by assumption))
              ((go_at_call 50; refine (HIH.out _ (B2.below (And.left (by assumption)))).mono ?_; rintro e W' ⟨rfl, hbw⟩; have hsw := B2.call (And.left (by assumption)) hbw))
            all_goals
              rename_i hS
              have hS1 := Lib.hid hS.1
              have wr1 : IntKind.i64.wrap ((m : Int) + 1) = (m : Int) + 1 := wrap_i64 (by omega) (by have := HLE.out; omega)
              clear hS HS HP HIH
              go_wp2_with fail
              go_roundw
              case rel => exact ⟨m + 1, by omega, by go_num, hS1⟩
              case measure => simp [intOf]; omega
          · have i1 : ¬ (m : Int) < (es.length : Int) := by omega
            clear HC HC2 HIA HJA
            go_wp2_with fail
            go_ret
            exact ⟨rfl, HS.out.below⟩
end Go.Proofs.YtinijohmdljieaaGreatDoor

namespace Go.Proofs.YtinijohmdljieaaGreatDoor
open Go.RowKit

theorem elemSentry : Elem Tryz.prog 111 122 3 40 := ⟨Tryz.underlying111, ⟨.agg #[.int .u8 0, .string ⟨#[]⟩, .string ⟨#[]⟩], by kernel_rfl, rfl⟩, by omega, Tryz.sizeOf122⟩
set_option maxHeartbeats 4000000 in
set_option maxRecDepth 100000 in
/-- sentries in memory of their own -/
theorem refList (v : Value) (l : List SentryD) (w : World) (hl : l.length ≤ 1048576) (h : Mem false (From 0) w (senD l) v) :
    Calls Tryz.prog 73 #[v] w fun e w' => ∃ va vc, e = .returned (.slice va l.length vc) ∧ Mem true (From w.heap.size) w' (senD l) (.slice va l.length vc) ∧ Below w.heap.size w w' := by
  obtain ⟨a, c, b, o, rfl, -, -⟩ := flat_open h
  obtain ⟨va, vc, w6, hap, hm6, hb6, -⟩ := flat_app elemSentry 111 h (fun _ => rfl) (fun x u hu => by
    simp only [SentryD.cs, List.mem_cons, List.not_mem_nil, or_false] at hu
    rcases hu with rfl | rfl | rfl <;> rfl) (by unfold maxLen; omega) (by omega)
  have HAP := Lib.hid hap; have HM := Lib.hid hm6; have HB := Lib.hid hb6
  clear hap hm6 hb6 h hl
  go_enter Tryz.func73, Tryz.ntmps73
  go_wp2_with (at_builtin; refine wpList_append_run rfl (.tmp 4) (.tmp 5) 111 rfl rfl rfl HAP.out ?_)
  go_ret
  exact ⟨_, _, rfl, HM.out, HB.out⟩
set_option maxHeartbeats 4000000 in
set_option maxRecDepth 100000 in
/-- two lists of the same sentries -/
theorem sentriesSame (l : List SentryD) (a1 a2 : Option Addr) (c1 c2 : Nat) (w : World) (hl : l.length ≤ 1048576) (h1 : Mem false (From 0) w (senD l) (.slice a1 l.length c1)) (h2 : Mem false (From 0) w (senD l) (.slice a2 l.length c2)) :
    Calls Tryz.prog 48 #[.slice a1 l.length c1, .slice a2 l.length c2] w fun e w' => e = .returned (.bool true) ∧ Below w.heap.size w w' := by
  obtain ⟨_, _, b1, o1, he1, -, hC1⟩ := flat_open h1
  obtain ⟨_, _, b2, o2, he2, -, hC2⟩ := flat_open h2
  injection he1 with e1 e2 e3
  injection he2 with e4 e5 e6
  subst e1 e3 e4 e6
  have H1 := Lib.hid hC1; have H2 := Lib.hid hC2
  clear h1 h2 hC1 hC2 e2 e5
  go_enter Tryz.func48, Tryz.ntmps48
  go_wp2_with fail
  go_loopw [5] (fun i wr => ∃ k q : Nat, k ≤ l.length ∧ i = .int .i64 k ∧ wr = w.drewN q) (fun i _ => l.length - (intOf i).toNat)
  case atStart => exact ⟨0, 0, by omega, rfl, rfl⟩
  case round =>
    obtain ⟨k, q, hk, rfl, rfl⟩ := hrel
    by_cases hlt : k < l.length
    · obtain ⟨rfl, -, -⟩ := H1.out.at0 (by omega)
      obtain ⟨rfl, -, -⟩ := H2.out.at0 (by omega)
      have x0 := H1.out.cell k hlt 0 _ rfl
      have x1 := H1.out.cell k hlt 1 _ rfl
      have x2 := H1.out.cell k hlt 2 _ rfl
      have y0 := H2.out.cell k hlt 0 _ rfl
      have y1 := H2.out.cell k hlt 1 _ rfl
      have y2 := H2.out.cell k hlt 2 _ rfl
      simp only [Nat.add_zero] at x0 y0
      obtain ⟨⟨on, nm, cd⟩, hs⟩ : ∃ s, l[k] = s := ⟨_, rfl⟩
      rw [hs] at x0 x1 x2 y0 y1 y2
      have i1 : (0 : Int) ≤ (k : Int) := by omega
      have i2 : (k : Int) < (l.length : Int) := by omega
      have wr1 : IntKind.i64.wrap ((k : Int) + 1) = (k : Int) + 1 := wrap_i64 (by omega) (by omega)
      clear hs
      go_wp2_with fail
      go_quiet (fail)
      go_wp2_with fail
      go_roundw
      case rel => exact ⟨k + 1, _, by omega, by go_num, rfl⟩
      case measure => simp [intOf]; omega
    · have i1 : ¬ (k : Int) < (l.length : Int) := by omega
      go_wp2_with fail
      go_ret
      exact ⟨rfl, below_drewN (Below.refl _ _) _⟩
set_option maxHeartbeats 4000000 in
set_option maxRecDepth 100000 in
/-- two lists of the same truths -/
theorem boolsSame (l : List Bool) (a1 a2 : Option Addr) (c1 c2 : Nat) (w : World) (hl : l.length ≤ 1048576) (h1 : Mem false (From 0) w (flatL 1 boolC l) (.slice a1 l.length c1)) (h2 : Mem false (From 0) w (flatL 1 boolC l) (.slice a2 l.length c2)) :
    Calls Tryz.prog 49 #[.slice a1 l.length c1, .slice a2 l.length c2] w fun e w' => e = .returned (.bool true) ∧ Below w.heap.size w w' := by
  obtain ⟨_, _, b1, o1, he1, -, hC1⟩ := flat_open h1
  obtain ⟨_, _, b2, o2, he2, -, hC2⟩ := flat_open h2
  injection he1 with e1 e2 e3
  injection he2 with e4 e5 e6
  subst e1 e3 e4 e6
  have H1 := Lib.hid hC1; have H2 := Lib.hid hC2
  clear h1 h2 hC1 hC2 e2 e5
  go_enter Tryz.func49, Tryz.ntmps49
  go_wp2_with fail
  go_loopw [5] (fun i wr => ∃ k q : Nat, k ≤ l.length ∧ i = .int .i64 k ∧ wr = w.drewN q) (fun i _ => l.length - (intOf i).toNat)
  case atStart => exact ⟨0, 0, by omega, rfl, rfl⟩
  case round =>
    obtain ⟨k, q, hk, rfl, rfl⟩ := hrel
    by_cases hlt : k < l.length
    · obtain ⟨rfl, -, -⟩ := H1.out.at0 (by omega)
      obtain ⟨rfl, -, -⟩ := H2.out.at0 (by omega)
      have x0 := H1.out.cell k hlt 0 _ rfl
      have y0 := H2.out.cell k hlt 0 _ rfl
      simp only [Nat.add_zero, Nat.mul_one] at x0 y0
      obtain ⟨t, hs⟩ : ∃ s, l[k] = s := ⟨_, rfl⟩
      rw [hs] at x0 y0
      have i1 : (0 : Int) ≤ (k : Int) := by omega
      have i2 : (k : Int) < (l.length : Int) := by omega
      have wr1 : IntKind.i64.wrap ((k : Int) + 1) = (k : Int) + 1 := wrap_i64 (by omega) (by omega)
      clear hs
      go_wp2_with fail
      go_quiet (fail)
      go_wp2_with fail
      go_roundw
      case rel => exact ⟨k + 1, _, by omega, by go_num, rfl⟩
      case measure => simp [intOf]; omega
    · have i1 : ¬ (k : Int) < (l.length : Int) := by omega
      go_wp2_with fail
      go_ret
      exact ⟨rfl, below_drewN (Below.refl _ _) _⟩
set_option maxHeartbeats 4000000 in
set_option maxRecDepth 100000 in
/-- texts in memory of their own -/
theorem wordsM (v : Value) (l : List ByteArray) (w : World) (hl : l.length ≤ 1048576) (h : Mem false (From 0) w (strD l) v) :
    Calls Tryz.prog 34 #[v] w fun e w' => ∃ va vc, e = .returned (.slice va l.length vc) ∧ Mem true (From w.heap.size) w' (strD l) (.slice va l.length vc) ∧ Below w.heap.size w w' := by
  obtain ⟨a, c, b, o, rfl, -, -⟩ := flat_open h
  obtain ⟨va, vc, w6, hap, hm6, hb6, -⟩ := flat_app elemStr 23 h (fun _ => rfl) (fun x u hu => by rw [List.mem_singleton] at hu; rw [hu]; rfl) (by unfold maxLen; omega) (by omega)
  have HAP := Lib.hid hap; have HM := Lib.hid hm6; have HB := Lib.hid hb6
  clear hap hm6 hb6 h hl
  go_enter Tryz.func34, Tryz.ntmps34
  go_wp2_with (at_builtin; refine wpList_append_run rfl (.tmp 4) (.tmp 5) 23 rfl rfl rfl HAP.out ?_)
  go_ret
  exact ⟨_, _, rfl, HM.out, HB.out⟩
set_option maxHeartbeats 4000000 in
set_option maxRecDepth 100000 in
/-- two lists of the same texts -/
theorem textsM (l : List ByteArray) (a1 a2 : Option Addr) (c1 c2 : Nat) (w : World) (hl : l.length ≤ 1048576) (h1 : Mem false (From 0) w (strD l) (.slice a1 l.length c1)) (h2 : Mem false (From 0) w (strD l) (.slice a2 l.length c2)) :
    Calls Tryz.prog 30 #[.slice a1 l.length c1, .slice a2 l.length c2] w fun e w' => e = .returned (.bool true) ∧ Below w.heap.size w w' := by
  obtain ⟨_, _, b1, o1, he1, -, hC1⟩ := flat_open h1
  obtain ⟨_, _, b2, o2, he2, -, hC2⟩ := flat_open h2
  injection he1 with e1 e2 e3
  injection he2 with e4 e5 e6
  subst e1 e3 e4 e6
  have H1 := Lib.hid hC1; have H2 := Lib.hid hC2
  clear h1 h2 hC1 hC2 e2 e5
  go_enter Tryz.func30, Tryz.ntmps30
  go_wp2_with fail
  go_loopw [5] (fun i wr => ∃ k q : Nat, k ≤ l.length ∧ i = .int .i64 k ∧ wr = w.drewN q) (fun i _ => l.length - (intOf i).toNat)
  case atStart => exact ⟨0, 0, by omega, rfl, rfl⟩
  case round =>
    obtain ⟨k, q, hk, rfl, rfl⟩ := hrel
    by_cases hlt : k < l.length
    · obtain ⟨rfl, -, -⟩ := H1.out.at0 (by omega)
      obtain ⟨rfl, -, -⟩ := H2.out.at0 (by omega)
      have x0 := H1.out.cell k hlt 0 _ rfl
      have y0 := H2.out.cell k hlt 0 _ rfl
      simp only [Nat.add_zero, Nat.mul_one] at x0 y0
      obtain ⟨t, hs⟩ : ∃ s, l[k] = s := ⟨_, rfl⟩
      rw [hs] at x0 y0
      have i1 : (0 : Int) ≤ (k : Int) := by omega
      have i2 : (k : Int) < (l.length : Int) := by omega
      have wr1 : IntKind.i64.wrap ((k : Int) + 1) = (k : Int) + 1 := wrap_i64 (by omega) (by omega)
      clear hs
      go_wp2_with fail
      go_quiet (fail)
      go_wp2_with fail
      go_roundw
      case rel => exact ⟨k + 1, _, by omega, by go_num, rfl⟩
      case measure => simp [intOf]; omega
    · have i1 : ¬ (k : Int) < (l.length : Int) := by omega
      go_wp2_with fail
      go_ret
      exact ⟨rfl, below_drewN (Below.refl _ _) _⟩
end Go.Proofs.YtinijohmdljieaaGreatDoor

namespace Go.Proofs.YtinijohmdljieaaGreatDoor
open Go.RowKit

structure TB (E : TypeId) (k : Nat) (fs : List (D × Value)) (w W : World) (x y z : List Value) : Prop where
  bx : B3 E k w W x y z
  ms : ∀ p ∈ fs, Mem true (From (w.heap.size + 3)) W p.1 p.2
section
variable {E : TypeId} {k : Nat} {fs : List (D × Value)} {w W W' : World} {x y z : List Value}
theorem TB.call (h : TB E k fs w W x y z) (hb : Below W.heap.size W W') : TB E k fs w W' x y z := ⟨h.bx.call hb, fun p hp => (h.ms p hp).grow hb⟩
theorem TB.setR (h : TB E k fs w W x y z) (j : Nat) (v : Value) : TB E k fs w (W.setCell ⟨w.heap.size + 2, j, none⟩ v) x y (z.set j v) :=
  ⟨h.bx.setR j v, fun p hp => (h.ms p hp).kept (fun b hb _ => Below.heap_setCell W ⟨w.heap.size + 2, j, none⟩ v b (by have : w.heap.size + 3 ≤ b := hb; show b ≠ w.heap.size + 2; omega)) (by simp [World.setCell])⟩
theorem TB.setQ (h : TB E k fs w W x y z) (j : Nat) (v : Value) : TB E k fs w (W.setCell ⟨w.heap.size + 1, j, none⟩ v) x (y.set j v) z :=
  ⟨h.bx.setQ j v, fun p hp => (h.ms p hp).kept (fun b hb _ => Below.heap_setCell W ⟨w.heap.size + 1, j, none⟩ v b (by have : w.heap.size + 3 ≤ b := hb; show b ≠ w.heap.size + 1; omega)) (by simp [World.setCell])⟩
/-- a field more -/
theorem TB.add (h : TB E k fs w W x y z) {d : D} {v : Value} (hm : Mem true (From (w.heap.size + 3)) W d v) : TB E k ((d, v) :: fs) w W x y z :=
  ⟨h.bx, fun p hp => by
    rcases List.mem_cons.1 hp with rfl | hp
    · exact hm
    · exact h.ms p hp⟩
/-- a call that makes a field -/
theorem TB.made (h : TB E k fs w W x y z) (hb : Below W.heap.size W W') {d : D} {v : Value} (hm : Mem true (From W.heap.size) W' d v) : TB E k ((d, v) :: fs) w W' x y z :=
  (h.call hb).add (hm.weak fun b hb2 _ => by have : W.heap.size ≤ b := hb2; have := h.bx.lt; show w.heap.size + 3 ≤ b; omega)
end
/-- .. and a list that is being built -/
structure TA {α : Type} (E : TypeId) (k : Nat) (fs : List (D × Value)) (E2 : TypeId) (k2 : Nat) (f : α → List D) (w W : World) (x y z : List Value) (M : Nat) (va : Option Addr) (vc : Nat) (xs : List α) (vs : List (List Value)) : Prop where
  bx : B3 E k w W x y z
  ms : ∀ p ∈ fs, Mem true (In (w.heap.size + 3) M) W p.1 p.2
  ac : Acc E2 k2 f M W va vc xs vs
  bM : w.heap.size + 3 ≤ M
  ml : M ≤ W.heap.size
section
variable {α : Type} {E : TypeId} {k : Nat} {fs : List (D × Value)} {E2 : TypeId} {k2 : Nat} {f : α → List D} {w W W' : World} {x y z : List Value} {M : Nat} {va : Option Addr} {vc : Nat} {xs : List α} {vs : List (List Value)}
theorem TA.start (h : TB E k fs w W x y z) (E2 : TypeId) (k2 : Nat) (f : α → List D) : TA E k fs E2 k2 f w W x y z W.heap.size none 0 [] [] :=
  ⟨h.bx, fun p hp => (h.ms p hp).weak fun b hb hl => ⟨hb, hl⟩, Acc.start _ _ _ _ _, by have := h.bx.lt; omega, Nat.le_refl _⟩
theorem TA.call (h : TA E k fs E2 k2 f w W x y z M va vc xs vs) (hb : Below W.heap.size W W') : TA E k fs E2 k2 f w W' x y z M va vc xs vs :=
  ⟨h.bx.call hb, fun p hp => (h.ms p hp).grow hb, h.ac.call hb, h.bM, Nat.le_trans h.ml hb.size⟩
theorem TA.setR (h : TA E k fs E2 k2 f w W x y z M va vc xs vs) (j : Nat) (v : Value) : TA E k fs E2 k2 f w (W.setCell ⟨w.heap.size + 2, j, none⟩ v) x y (z.set j v) M va vc xs vs :=
  ⟨h.bx.setR j v, fun p hp => (h.ms p hp).kept (fun b hb _ => Below.heap_setCell W ⟨w.heap.size + 2, j, none⟩ v b (by have := hb.1; show b ≠ w.heap.size + 2; omega)) (by simp [World.setCell]), h.ac.far (by have := h.bM; show w.heap.size + 2 < M; omega) v, h.bM, by have := h.ml; simpa [World.setCell] using this⟩
theorem TA.blk (h : TA E k fs E2 k2 f w W x y z M va vc xs vs) : ∀ q, blockOf va = some q → va = some ⟨q, 0, none⟩ := by
  intro q hq
  rcases h.ac.own.block with ⟨rfl, _⟩ | ⟨gr, rfl, _⟩
  · cases hq
  · injection hq with hq; rw [← hq]
/-- an element more -/
theorem TA.push {Pr : Program} {T : TypeId} {bytes : Nat} (h : TA E k fs E2 k2 f w W x y z M va vc xs vs) (hE : Elem Pr T E2 k2 bytes) (ty : TypeId) (hb : Below W.heap.size W W') {e : α} {us : List Value} (hu : us.length = k2) (hx : (f e).length = k2)
    (hm : MemL true (From W.heap.size) W' (f e) us) (h1 : ∀ u ∈ us, u.oneCell' = true) (h63 : xs.length + 1 ≤ maxLen) (hbytes : (xs.length + 1) * bytes ≤ 140737488355328) :
    ∃ g' vc' W8, (Builtin.append_ #[T, T] ty #[.slice va xs.length vc, .slice (some ⟨W'.heap.size, 0, none⟩) 1 1]).run Pr (W'.alloc (.cells us.toArray E2)) = .ok (.slice (some ⟨g', 0, none⟩) (xs.length + 1) vc') W8 ∧
      TA E k fs E2 k2 f w W8 x y z M (some ⟨g', 0, none⟩) vc' (xs ++ [e]) (vs ++ [us]) ∧ (W'.alloc (.cells us.toArray E2)).grownBy W8 (blockOf va) := by
  obtain ⟨g', vc', W8, hrun, hA, hg⟩ := h.ac.push hE ty h.ml hb hu hx hm h1 h63 hbytes
  have hz := hb.size
  have hml := h.ml
  have hbM := h.bM
  have hblk : ∀ q, q < W.heap.size → (∀ g, va = some ⟨g, 0, none⟩ → q ≠ g) → W8.heap[q]? = W.heap[q]? := by
    intro q hq hne
    have h2 : W8.heap[q]? = (W'.alloc (.cells us.toArray E2)).heap[q]? := hg.block q (by simp; omega) fun he => hne q (h.blk q he.symm) rfl
    rw [h2, Below.heap_alloc W' _ q (by omega)]
    exact hb.block q hq
  have hbel : Below w.heap.size w W8 := by
    refine ((h.bx.below.trans (hb.mono h.bx.below.size)).alloc (by have := h.bx.below.size; omega) _).grown hg (by have := h.bx.below.size; simp; omega) fun q hq => ?_
    have := (h.ac.own.lt (h.blk q hq)).1
    omega
  have hne : ∀ q, q < M → ∀ g, va = some ⟨g, 0, none⟩ → q ≠ g := fun q hq g hg2 => by have := (h.ac.own.lt hg2).1; omega
  have hsz : W.heap.size ≤ W8.heap.size := by have := hg.size; simp at this; omega
  exact ⟨g', vc', W8, hrun, ⟨h.bx.kept hbel fun q hq => hblk q (by omega) (hne q (by omega)), fun p hp => (h.ms p hp).kept (fun q hq hl => hblk q hl (hne q hq.2)) hsz, hA, hbM, by omega⟩, hg⟩
theorem TA.took {l : List α} {m : Nat} (hm : m < l.length) (h : TA E k fs E2 k2 f w W x y z M va vc (l.take m ++ [l[m]]) vs) : TA E k fs E2 k2 f w W x y z M va vc (l.take (m + 1)) vs := by
  rw [List.take_succ_eq_append_getElem hm]; exact h
/-- the list is done -/
theorem TA.done (h : TA E k fs E2 k2 f w W x y z M va vc xs vs) (hk : 0 < k2) : TB E k ((.list k2 (xs.map f), .slice va xs.length vc) :: fs) w W x y z :=
  TB.add ⟨h.bx, fun p hp => (h.ms p hp).weak fun b hb _ => hb.1⟩ ((h.ac.done hk).weak fun b hb _ => by have := h.bM; have := hb.1; show w.heap.size + 3 ≤ b; omega)
end
end Go.Proofs.YtinijohmdljieaaGreatDoor
