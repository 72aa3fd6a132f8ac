/- docketref24.Twin at any state. One box; docketref24.size, docketref16.Many, docketref24.Weight answer some number. docketref24.Weight answers some number. -/
import Derived.Test.YtinijohmdljieaaGreatDoorMTwin
namespace Go.Proofs.YtinijohmdljieaaGreatDoor
open Go.RowKit

theorem elemTimer : Elem Tryz.prog 30 124 5 56 := ⟨Tryz.underlying30, ⟨.agg #[.int .i64 0, .int .i64 0, .int .i64 0, .string ⟨#[]⟩, .string ⟨#[]⟩], by kernel_rfl, rfl⟩, by omega, Tryz.sizeOf124⟩
theorem elemWork : Elem Tryz.prog 31 126 6 72 := ⟨Tryz.underlying31, ⟨.agg #[.int .i64 0, .int .i64 0, .string ⟨#[]⟩, .string ⟨#[]⟩, .int .u8 0, .string ⟨#[]⟩], by kernel_rfl, rfl⟩, by omega, Tryz.sizeOf126⟩
theorem elemRecord : Elem Tryz.prog 32 79 6 72 := ⟨Tryz.underlying32, ⟨.agg #[.int .i64 0, .int .i64 0, .string ⟨#[]⟩, .string ⟨#[]⟩, .int .i64 0, .string ⟨#[]⟩], by kernel_rfl, rfl⟩, by omega, Tryz.sizeOf79⟩
theorem elemSession : Elem Tryz.prog 33 90 3 32 := ⟨Tryz.underlying33, ⟨.agg #[.int .i64 0, .string ⟨#[]⟩, .int .i64 0], by kernel_rfl, rfl⟩, by omega, Tryz.sizeOf90⟩
theorem elemVersion : Elem Tryz.prog 28 55 7 144 := ⟨Tryz.underlying28, ⟨.agg #[.string ⟨#[]⟩, .slice none 0 0, .slice none 0 0, .slice none 0 0, .slice none 0 0, .slice none 0 0, .int .i64 0], by kernel_rfl, rfl⟩, by omega, Tryz.sizeOf55⟩
theorem elemCase : Elem Tryz.prog 29 64 7 128 := ⟨Tryz.underlying29, ⟨.agg #[.int .i64 0, .string ⟨#[]⟩, .int .i64 0, .slice none 0 0, .slice none 0 0, .slice none 0 0, .slice none 0 0], by kernel_rfl, rfl⟩, by omega, Tryz.sizeOf64⟩
abbrev stateC (s : StateD) (u r m c t k a e : Value) : List Value := [.int .i64 s.clock, .string s.secret, u, r, m, c, t, k, a, e, .int .i64 s.nc, .int .i64 s.nw, .int .i64 s.np, .int .i64 s.nt]
structure StateD.Ok (s : StateD) : Prop where
  ul : s.users.length ≤ 1048576
  rl : s.roles.length ≤ 1048576
  ml : s.models.length ≤ 1048576
  cl : s.cases.length ≤ 1048576
  tl : s.timers.length ≤ 1048576
  wl : s.works.length ≤ 1048576
  al : s.audit.length ≤ 1048576
  sl : s.sess.length ≤ 1048576
  uo : ∀ u ∈ s.users, u.rs.length ≤ 1048576
  ro : ∀ r ∈ s.roles, r.holds.length ≤ 1048576 ∧ r.may.length ≤ 1048576
  mo : ∀ v ∈ s.models, v.m.Ok
  co : ∀ c ∈ s.cases, c.Ok
structure StateM (o : Bool) (P : Nat → Prop) (w : World) (s : StateD) (u r m c t k a e : Value) : Prop where
  u : Mem o P w (.list 4 (s.users.map UserD.ds)) u
  r : Mem o P w (.list 3 (s.roles.map RoleD.ds)) r
  m : Mem o P w (.list 7 (s.models.map VerD.ds)) m
  c : Mem o P w (.list 7 (s.cases.map CaseD.ds)) c
  t : Mem o P w (flatL 5 TimerD.cs s.timers) t
  k : Mem o P w (flatL 6 WorkD.cs s.works) k
  a : Mem o P w (flatL 6 RecD.cs s.audit) a
  e : Mem o P w (flatL 3 SessD.cs s.sess) e
theorem stateM_ds {o : Bool} {P : Nat → Prop} {w : World} {s : StateD} {u r m c t k a e : Value} (h : StateM o P w s u r m c t k a e) : MemL o P w s.ds (stateC s u r m c t k a e) :=
  .cons (.atom _) (.cons (.atom _) (.cons h.u (.cons h.r (.cons h.m (.cons h.c (.cons h.t (.cons h.k (.cons h.a (.cons h.e (.cons (.atom _) (.cons (.atom _) (.cons (.atom _) (.cons (.atom _) (MemL.nil _ _ _))))))))))))))
theorem StateM.grow {o : Bool} {P : Nat → Prop} {w w' : World} {s : StateD} {u r m c t k a e : Value} (h : StateM o P w s u r m c t k a e) (hb : Below w.heap.size w w') : StateM o P w' s u r m c t k a e :=
  ⟨h.u.grow hb, h.r.grow hb, h.m.grow hb, h.c.grow hb, h.t.grow hb, h.k.grow hb, h.a.grow hb, h.e.grow hb⟩
theorem StateD.cells {o : Bool} {P : Nat → Prop} {w : World} {s : StateD} {us : List Value} (h : MemL o P w s.ds us) : ∃ a1 c1 a2 c2 a3 c3 a4 c4 a5 c5 a6 c6 a7 c7 a8 c8, us = stateC s (.slice a1 s.users.length c1) (.slice a2 s.roles.length c2) (.slice a3 s.models.length c3) (.slice a4 s.cases.length c4) (.slice a5 s.timers.length c5) (.slice a6 s.works.length c6) (.slice a7 s.audit.length c7) (.slice a8 s.sess.length c8) ∧
    StateM o P w s (.slice a1 s.users.length c1) (.slice a2 s.roles.length c2) (.slice a3 s.models.length c3) (.slice a4 s.cases.length c4) (.slice a5 s.timers.length c5) (.slice a6 s.works.length c6) (.slice a7 s.audit.length c7) (.slice a8 s.sess.length c8) := by
  obtain ⟨x0, y0, rfl, h0, h⟩ := MemL.inv h
  obtain ⟨x1, y1, rfl, h1, h⟩ := h.inv
  obtain ⟨x2, y2, rfl, h2, h⟩ := h.inv
  obtain ⟨x3, y3, rfl, h3, h⟩ := h.inv
  obtain ⟨x4, y4, rfl, h4, h⟩ := h.inv
  obtain ⟨x5, y5, rfl, h5, h⟩ := h.inv
  obtain ⟨x6, y6, rfl, h6, h⟩ := h.inv
  obtain ⟨x7, y7, rfl, h7, h⟩ := h.inv
  obtain ⟨x8, y8, rfl, h8, h⟩ := h.inv
  obtain ⟨x9, y9, rfl, h9, h⟩ := h.inv
  obtain ⟨x10, y10, rfl, h10, h⟩ := h.inv
  obtain ⟨x11, y11, rfl, h11, h⟩ := h.inv
  obtain ⟨x12, y12, rfl, h12, h⟩ := h.inv
  obtain ⟨x13, y13, rfl, h13, h⟩ := h.inv
  obtain rfl := h.inv0
  obtain ⟨a1, c1, _, _, rfl, -, -⟩ := rec_open h2
  obtain ⟨a2, c2, _, _, rfl, -, -⟩ := rec_open h3
  obtain ⟨a3, c3, _, _, rfl, -, -⟩ := rec_open h4
  obtain ⟨a4, c4, _, _, rfl, -, -⟩ := rec_open h5
  obtain ⟨a5, c5, _, _, rfl, -, -⟩ := flat_open h6
  obtain ⟨a6, c6, _, _, rfl, -, -⟩ := flat_open h7
  obtain ⟨a7, c7, _, _, rfl, -, -⟩ := flat_open h8
  obtain ⟨a8, c8, _, _, rfl, -, -⟩ := flat_open h9
  exact ⟨a1, c1, a2, c2, a3, c3, a4, c4, a5, c5, a6, c6, a7, c7, a8, c8, by rw [h0.atomInv, h1.atomInv, h10.atomInv, h11.atomInv, h12.atomInv, h13.atomInv], h2, h3, h4, h5, h6, h7, h8, h9⟩
/-- one list made for a record that lies in the box at B -/
theorem one_new {wr w3 : World} {B j1 : Nat} {d1 : D} {v1 u1 : Value} (hB : B = wr.heap.size) (hm1 : Mem true (From (B + 1)) w3 d1 v1) (hb3 : Below wr.heap.size wr w3) :
    Below wr.heap.size wr (w3.setCell ⟨B, j1, none⟩ u1) ∧ Mem true (From wr.heap.size) (w3.setCell ⟨B, j1, none⟩ u1) d1 v1 :=
  ⟨hb3.setCell (p := ⟨B, j1, none⟩) (by show _ ≤ B; omega) u1, (hm1.kept (w' := w3.setCell ⟨B, j1, none⟩ u1) (fun b hb _ => Below.heap_setCell w3 ⟨B, j1, none⟩ u1 b (by have : B + 1 ≤ b := hb; show b ≠ B; omega)) (by simp [World.setCell])).weak fun b hb _ => by have : B + 1 ≤ b := hb; show wr.heap.size ≤ b; omega⟩
theorem UB.start3 (w : World) (E : TypeId) (k : Nat) (x y z : Array Value) (hx : x.size = k) (hy : y.size = k) (hz : z.size = k) : UB E k (w.heap.size + 1 + 1) [] w (((w.alloc (.cells x E)).alloc (.cells y E)).alloc (.cells z E)) x.toList y.toList z.toList := by
  have h := B3.start w E k x y z hx hy hz
  exact ⟨⟨h.p, h.q, h.r, Nat.le_refl _, h.below⟩, fun p hp => absurd hp (by simp)⟩
end Go.Proofs.YtinijohmdljieaaGreatDoor

namespace Go.Proofs.YtinijohmdljieaaGreatDoor
open Go.RowKit

/-- one box -/
structure B1 (E : TypeId) (k : Nat) (w W : World) (x : List Value) : Prop where
  p : Own W w.heap.size E k (some ⟨w.heap.size, 0, none⟩) 1 1 x
  below : Below w.heap.size w W
section
variable {E : TypeId} {k : Nat} {w W W' : World} {x : List Value}
theorem B1.lt (h : B1 E k w W x) : w.heap.size < W.heap.size := (h.p.lt rfl).2
theorem B1.call (h : B1 E k w W x) (hb : Below W.heap.size W W') : B1 E k w W' x := ⟨h.p.below hb (Nat.le_refl _), h.below.trans (hb.mono h.below.size)⟩
theorem B1.drew (h : B1 E k w W x) : B1 E k w W.drew x := h.call (Below.refl _ _).drew
theorem B1.drewN (h : B1 E k w W x) (n : Nat) : B1 E k w (W.drewN n) x := h.call (below_drewN (Below.refl _ _) n)
theorem B1.cp (h : B1 E k w W x) (j : Nat) (v : Value) (hj : x[j]? = some v) : W.cell? ⟨w.heap.size, j, none⟩ = some v := h.p.cellAt j hj
theorem B1.start (w : World) (E : TypeId) (k : Nat) (x : Array Value) (hx : x.size = k) : B1 E k w (w.alloc (.cells x E)) x.toList :=
  ⟨ownBox w x E k _ (Nat.le_refl _) hx, (Below.refl _ _).alloc (Nat.le_refl _) _⟩
end
/-- the answer is some number -/
def NumEnd (w : World) (e : Ending) (w' : World) : Prop := ∃ n : Int, e = .returned (.int .i64 n) ∧ Below w.heap.size w w'
set_option maxHeartbeats 4000000 in
set_option maxRecDepth 100000 in
theorem sizeM (a : Option Addr) (c : Nat) (l : List SentryD) (w : World) (hl : l.length ≤ 1048576) (h : Mem false (From 0) w (senD l) (.slice a l.length c)) :
    Calls Tryz.prog 51 #[.slice a l.length c] w (NumEnd w) := by
  obtain ⟨_, _, b1, o1, he1, -, hC1⟩ := flat_open h
  injection he1 with e1 e2 e3
  subst e1 e3
  have H1 := Lib.hid hC1
  clear h hC1 e2
  go_enter Tryz.func51, Tryz.ntmps51
  go_wp2_with fail
  go_loopw [4, 3] (fun i n wr => ∃ (k q : Nat) (N : Int), k ≤ l.length ∧ i = .int .i64 k ∧ n = .int .i64 N ∧ wr = w.drewN q) (fun i _ _ => l.length - (intOf i).toNat)
  case atStart => exact ⟨0, 0, 0, by omega, rfl, rfl, rfl⟩
  case round =>
    obtain ⟨k, q, N, hk, rfl, rfl, rfl⟩ := hrel
    by_cases hlt : k < l.length
    · by_cases hN : N < 100000
      · obtain ⟨rfl, -, -⟩ := H1.out.at0 (by omega)
        have x1 := H1.out.cell k hlt 1 _ rfl
        have x2 := H1.out.cell k hlt 2 _ rfl
        obtain ⟨⟨on, nm, cd⟩, hs⟩ : ∃ s, l[k] = s := ⟨_, rfl⟩
        rw [hs] at x1 x2
        have i1 : (0 : Int) ≤ (k : Int) := by omega
        have i2 : (k : Int) < (l.length : Int) := by omega
        have i3 : decide (N < 100000) = true := decide_eq_true hN
        have wr1 : IntKind.i64.wrap ((k : Int) + 1) = (k : Int) + 1 := wrap_i64 (by omega) (by omega)
        clear hs hN
        go_wp2_with fail
        go_quiet (fail)
        go_wp2_with fail
        go_roundw
        case rel => exact ⟨k + 1, _, _, by omega, by go_num, rfl, rfl⟩
        case measure => simp [intOf]; omega
      · have i2 : (k : Int) < (l.length : Int) := by omega
        have i3 : decide (N < 100000) = false := decide_eq_false hN
        clear hN
        go_wp2_with fail
        go_ret
        exact ⟨_, rfl, below_drewN (Below.refl _ _) _⟩
    · have i1 : ¬ (k : Int) < (l.length : Int) := by omega
      go_wp2_with fail
      go_ret
      exact ⟨_, rfl, below_drewN (Below.refl _ _) _⟩
set_option maxHeartbeats 8000000 in
set_option maxRecDepth 100000 in
theorem manyM {ds : List D} (h : IsJson ds) : ∀ (us : List Value) (deep : Int) (w : World), MemL false (From 0) w ds us → Calls Tryz.prog 21 #[.agg us.toArray, .int .i64 deep] w (NumEnd w) := by
  induction h with
  | mk k b i t names es hn he hj ih =>
    intro us deep w hm
    obtain ⟨a, c, a2, c2, b2, o2, vs0, rfl, hnm, hC⟩ := json_open hm
    obtain ⟨_, _, nb, no, hve, -, hNC⟩ := flat_open hnm
    injection hve with hv1 hv2 hv3
    subst hv1 hv3
    have HC := Lib.hid hC
    have HN := Lib.hid hNC
    have HJA := Lib.hid hj
    have HIA := Lib.hid ih
    have HNL := Lib.hid hn
    have HLE := Lib.hid he
    have HB0 := Lib.hid (B1.start w 77 6 #[.int .u8 k, .bool b, .int .i64 i, .string t, .slice a names.length c, .slice a2 es.length c2] rfl)
    clear hm hnm hC hj ih hn he hv2 hNC
    go_enter Tryz.func21, Tryz.ntmps21
    go_upto_region 1 with fail
    revert HB0
    generalize w.alloc (.cells #[.int .u8 k, .bool b, .int .i64 i, .string t, .slice a names.length c, .slice a2 es.length c2] 77) = W0
    intro HB0
    by_cases hd : 60 < deep
    · go_wp2_with fail
      go_ret
      exact ⟨_, rfl, HB0.out.below⟩
    have k3 := HB0.out.cp 3 _ rfl
    have k4 := HB0.out.cp 4 _ rfl
    go_wp2_with fail
    clear k3
    go_loopw [6, 5] (fun j x wx => ∃ (m n : Nat) (N : Int), m ≤ names.length ∧ j = .int .i64 m ∧ x = .int .i64 N ∧ wx = W0.drewN n) (fun j _ _ => names.length - (intOf j).toNat)
    case atStart => exact ⟨0, 0, _, Nat.zero_le _, rfl, rfl, rfl⟩
    case round =>
      clear hd
      obtain ⟨m, n, N, hml, rfl, rfl, rfl⟩ := hrel
      by_cases hlt : m < names.length
      · obtain ⟨rfl, -, -⟩ := HN.out.at0 (by omega)
        have x1 := cellBelow2 HB0.out.below (HN.out.cell m hlt 0 _ rfl)
        simp only [Nat.mul_one, Nat.add_zero] at x1
        obtain ⟨s, hs⟩ : ∃ s, names[m] = s := ⟨_, rfl⟩
        rw [hs] at x1
        have i1 : (0 : Int) ≤ (m : Int) := by omega
        have i2 : (m : Int) < (names.length : Int) := by omega
        have wr1 : IntKind.i64.wrap ((m : Int) + 1) = (m : Int) + 1 := wrap_i64 (by omega) (by have := HNL.out; omega)
        clear hs
        go_wp2_with fail
        go_roundw
        case rel => exact ⟨m + 1, _, _, by omega, by go_num, rfl, rfl⟩
        case measure => simp [intOf]; omega
      · have i1 : ¬ (m : Int) < (names.length : Int) := by omega
        have HB1 := Lib.hid (HB0.out.drewN n)
        clear HN k4
        have k4 := HB0.out.cp 4 _ rfl
        go_wp2_with fail
        clear k4 i1 HB0
        go_loopw [7, 5] (fun j x wx => ∃ (m : Nat) (N : Int), m ≤ es.length ∧ j = .int .i64 m ∧ x = .int .i64 N ∧ Hid (B1 77 6 w wx (jsonC k b i t (.slice a names.length c) (.slice a2 es.length c2)))) (fun j _ _ => es.length - (intOf j).toNat)
        case atStart => exact ⟨0, _, Nat.zero_le _, rfl, rfl, HB1.out⟩
        case round =>
          clear HB1 hml hlt
          obtain ⟨m, N, hml, rfl, rfl, HS⟩ := hrel
          have k5 := HS.out.cp 5 _ rfl
          by_cases hlt : m < es.length
          · by_cases hN : N < 1000000
            · obtain ⟨rfl, -, -⟩ := HC.out.at0 (by omega)
              have hj1 := HJA.out _ (List.getElem_mem hlt)
              have hv0 : m < vs0.length := by rw [HC.out.len]; exact hlt
              have hr := HC.out.row m hlt hv0
              have HIH := Lib.hid (fun W dp (hb : Below w.heap.size w W) => HIA.out _ (List.getElem_mem hlt) _ dp W (hr.grow hb))
              obtain ⟨jk, jb, ji, jt, jn, je, ja, jc, ja2, jc2, -, hvs, -⟩ := IsJson.cells hj1 hr
              have key : ∀ (q : Nat) u, vs0[m][q]? = some u → wr.cell? ⟨b2, o2 + m * 6 + q, none⟩ = some u := fun q u hq => cellBelow2 HS.out.below (HC.out.cell m hv0 q u hq)
              rw [hvs] at key HIH
              have y0 := key 0 _ rfl
              have y1 := key 1 _ rfl
              have y2 := key 2 _ rfl
              have y3 := key 3 _ rfl
              have y4 := key 4 _ rfl
              have y5 := key 5 _ rfl
              rw [Nat.add_zero] at y0
              have i1 : (0 : Int) ≤ (m : Int) := by omega
              have i2 : (m : Int) < (es.length : Int) := by omega
              have i3 : decide (N < 1000000) = true := decide_eq_true hN
              clear hj1 hr hvs hv0 key HC HIA HJA hN
              go_wp2_with fail
              refine (HIH.out _ _ HS.out.below).mono ?_
              rintro e W' ⟨N', rfl, hb'⟩
              have HS1 := Lib.hid (HS.out.call hb')
              have wr1 : IntKind.i64.wrap ((m : Int) + 1) = (m : Int) + 1 := wrap_i64 (by omega) (by have := HLE.out; omega)
              clear hb' y0 y1 y2 y3 y4 y5 k5 HIH HS
              go_wp2_with fail
              exact ⟨⟨m + 1, _, by omega, by go_num, rfl, HS1⟩, by simp [intOf]; omega⟩
            · have i2 : (m : Int) < (es.length : Int) := by omega
              have i3 : decide (N < 1000000) = false := decide_eq_false hN
              clear HC HIA HJA hN
              go_wp2_with fail
              go_ret
              exact ⟨_, rfl, HS.out.below⟩
          · have i1 : ¬ (m : Int) < (es.length : Int) := by omega
            clear HC HIA HJA
            go_wp2_with fail
            go_ret
            exact ⟨_, rfl, HS.out.below⟩
end Go.Proofs.YtinijohmdljieaaGreatDoor

namespace Go.Proofs.YtinijohmdljieaaGreatDoor
open Go.RowKit

set_option maxHeartbeats 8000000 in
set_option maxRecDepth 100000 in
theorem weightM (md : ModelD) (hok : md.Ok) (a1 : Option Addr) (c1 : Nat) (a2 : Option Addr) (c2 : Nat) (a3 : Option Addr) (c3 : Nat) (a4 : Option Addr) (c4 : Nat) (a5 : Option Addr) (c5 : Nat) (w : World) (hM : ModelM false (From 0) w md ⟨a1, c1, a2, c2, a3, c3, a4, c4, a5, c5⟩) :
    Calls Tryz.prog 20 #[.agg (modelC md.name (.slice a1 md.attrs.length c1) (.slice a2 md.events.length c2) (.slice a3 md.stages.length c3) (.slice a4 md.stones.length c4) (.slice a5 md.apart.length c5)).toArray] w (NumEnd w) := by
  obtain ⟨_, _, b3, o3, hv3, -, hS3⟩ := rec_open hM.stages
  obtain ⟨_, _, b4, o4, hv4, -, hS4⟩ := rec_open hM.stones
  injection hv3 with h3 h3' h3''
  injection hv4 with h4 h4' h4''
  subst h3 h3'' h4 h4''
  have H3 := Lib.hid hS3
  have H4 := Lib.hid hS4
  have HO := Lib.hid hok
  have HB0 := Lib.hid (B1.start w 53 6 #[.string md.name, .slice a1 md.attrs.length c1, .slice a2 md.events.length c2, .slice a3 md.stages.length c3, .slice a4 md.stones.length c4, .slice a5 md.apart.length c5] rfl)
  clear hM hS3 hS4 hok h3' h4'
  go_enter Tryz.func20, Tryz.ntmps20
  go_upto_region 1 with fail
  revert HB0
  generalize w.alloc (.cells #[.string md.name, .slice a1 md.attrs.length c1, .slice a2 md.events.length c2, .slice a3 md.stages.length c3, .slice a4 md.stones.length c4, .slice a5 md.apart.length c5] 53) = W0
  intro HB0
  have k0 := HB0.out.cp 0 _ rfl
  have k1 := HB0.out.cp 1 _ rfl
  have k2 := HB0.out.cp 2 _ rfl
  have k3 := HB0.out.cp 3 _ rfl
  have k5 := HB0.out.cp 5 _ rfl
  go_wp2_with fail
  clear k0 k1 k2 k3 k5
  go_loopw [4, 3] (fun j x wx => ∃ (m : Nat) (N : Int), m ≤ md.stages.length ∧ j = .int .i64 m ∧ x = .int .i64 N ∧ Hid (B1 53 6 w wx (modelC md.name (.slice a1 md.attrs.length c1) (.slice a2 md.events.length c2) (.slice a3 md.stages.length c3) (.slice a4 md.stones.length c4) (.slice a5 md.apart.length c5)))) (fun j _ _ => md.stages.length - (intOf j).toNat)
  case atStart => exact ⟨0, _, Nat.zero_le _, rfl, rfl, HB0.out⟩
  case round =>
    clear HB0
    obtain ⟨m, N, hml, rfl, rfl, HS⟩ := hrel
    have k3 := HS.out.cp 3 _ rfl
    by_cases hlt : m < md.stages.length
    · by_cases hN : N < 100000
      · obtain ⟨rfl, -, -⟩ := H3.out.at0 (by omega)
        obtain ⟨us0, hr, hcell⟩ := H3.out.row m hlt
        have hso := HO.out.so _ (List.getElem_mem hlt)
        obtain ⟨st, hst⟩ : ∃ st, md.stages[m] = st := ⟨_, rfl⟩
        rw [hst] at hr hso
        obtain ⟨x1, y1, x2, y2, rfl, hg, hi⟩ := StageD.cells hr
        have HC1 := Lib.hid (fun W (hb : Below w.heap.size w W) => sizeM x1 y1 st.opens W hso.1 (hg.grow hb))
        have HC2 := Lib.hid (fun W (hb : Below w.heap.size w W) => sizeM x2 y2 st.closes W hso.2 (hi.grow hb))
        have HP : Hid (∀ W, B1 53 6 w W (modelC md.name (.slice a1 md.attrs.length c1) (.slice a2 md.events.length c2) (.slice (some ⟨b3, o3, none⟩) md.stages.length c3) (.slice a4 md.stones.length c4) (.slice a5 md.apart.length c5)) → W.cell? ⟨w.heap.size, 3, none⟩ = some (.slice (some ⟨b3, o3, none⟩) md.stages.length c3) ∧ W.cell? ⟨b3, o3 + m * 7, none⟩ = some (.string st.name) ∧ W.cell? ⟨b3, o3 + m * 7 + 2, none⟩ = some (.slice x1 st.opens.length y1) ∧ W.cell? ⟨b3, o3 + m * 7 + 3, none⟩ = some (.slice x2 st.closes.length y2)) := by
          intro W hW
          exact ⟨hW.cp 3 _ rfl, cellBelow2 hW.below (hcell 0 _ rfl), cellBelow2 hW.below (hcell 2 _ rfl), cellBelow2 hW.below (hcell 3 _ rfl)⟩
        have i1 : (0 : Int) ≤ (m : Int) := by omega
        have i2 : (m : Int) < (md.stages.length : Int) := by omega
        have i3 : decide (N < 100000) = true := decide_eq_true hN
        clear hr hcell hso hst hN H3 H4
        go_upto_region 5 with fail
        clear k3 i3
        go_region_held3 (fun W => B1 53 6 w W (modelC md.name (.slice a1 md.attrs.length c1) (.slice a2 md.events.length c2) (.slice (some ⟨b3, o3, none⟩) md.stages.length c3) (.slice a4 md.stones.length c4) (.slice a5 md.apart.length c5)) ∧ W.cell? ⟨w.heap.size, 3, none⟩ = some (.slice (some ⟨b3, o3, none⟩) md.stages.length c3) ∧ W.cell? ⟨b3, o3 + m * 7, none⟩ = some (.string st.name) ∧ W.cell? ⟨b3, o3 + m * 7 + 2, none⟩ = some (.slice x1 st.opens.length y1) ∧ W.cell? ⟨b3, o3 + m * 7 + 3, none⟩ = some (.slice x2 st.closes.length y2))
          (first | exact ⟨HS.out.drew, HP.out _ HS.out.drew⟩ | exact (fun h => ⟨h, HP.out _ h⟩) (by assumption))
          ((first
              | (go_at_call 51; refine (HC1.out _ (B1.below (And.left (by assumption)))).mono ?_; rintro e W' ⟨N1, rfl, hbw⟩; have hsw := B1.call (And.left (by assumption)) hbw; clear HC1)
              | (go_at_call 51; refine (HC2.out _ (B1.below (And.left (by assumption)))).mono ?_; rintro e W' ⟨N2, rfl, hbw⟩; have hsw := B1.call (And.left (by assumption)) hbw; clear HC2)))
        all_goals
          rename_i hS
          have hS1 := Lib.hid hS.1
          have wr1 : IntKind.i64.wrap ((m : Int) + 1) = (m : Int) + 1 := wrap_i64 (by omega) (by have := HO.out.sl; omega)
          clear hS HS HP
          go_wp2_with fail
          go_roundw
          case rel => exact ⟨m + 1, _, by omega, by go_num, rfl, hS1⟩
          case measure => simp [intOf]; omega
      · have i2 : (m : Int) < (md.stages.length : Int) := by omega
        have i3 : decide (N < 100000) = false := decide_eq_false hN
        clear hN hlt H3
        have kk := HS.out.cp 4 _ rfl
        go_wp2_with fail
        clear kk
        go_loopw [5, 3] (fun j x wx => ∃ (m : Nat) (N : Int), m ≤ md.stones.length ∧ j = .int .i64 m ∧ x = .int .i64 N ∧ Hid (B1 53 6 w wx (modelC md.name (.slice a1 md.attrs.length c1) (.slice a2 md.events.length c2) (.slice a3 md.stages.length c3) (.slice a4 md.stones.length c4) (.slice a5 md.apart.length c5)))) (fun j _ _ => md.stones.length - (intOf j).toNat)
        case atStart => exact ⟨0, _, Nat.zero_le _, rfl, rfl, HS.out⟩
        case round =>
          clear HS
          obtain ⟨m, N, hml, rfl, rfl, HS⟩ := hrel
          have k4 := HS.out.cp 4 _ rfl
          by_cases hlt : m < md.stones.length
          · by_cases hN : N < 100000
            · obtain ⟨rfl, -, -⟩ := H4.out.at0 (by omega)
              obtain ⟨us0, hr, hcell⟩ := H4.out.row m hlt
              have hso := HO.out.st _ (List.getElem_mem hlt)
              obtain ⟨st, hst⟩ : ∃ st, md.stones[m] = st := ⟨_, rfl⟩
              rw [hst] at hr hso
              obtain ⟨x1, y1, x2, y2, rfl, hg, hi⟩ := StoneD.cells hr
              have HC1 := Lib.hid (fun W (hb : Below w.heap.size w W) => sizeM x1 y1 st.done W hso.1 (hg.grow hb))
              have HC2 := Lib.hid (fun W (hb : Below w.heap.size w W) => sizeM x2 y2 st.undo W hso.2 (hi.grow hb))
              have HP : Hid (∀ W, B1 53 6 w W (modelC md.name (.slice a1 md.attrs.length c1) (.slice a2 md.events.length c2) (.slice a3 md.stages.length c3) (.slice (some ⟨b4, o4, none⟩) md.stones.length c4) (.slice a5 md.apart.length c5)) → W.cell? ⟨w.heap.size, 4, none⟩ = some (.slice (some ⟨b4, o4, none⟩) md.stones.length c4) ∧ W.cell? ⟨b4, o4 + m * 3 + 1, none⟩ = some (.slice x1 st.done.length y1) ∧ W.cell? ⟨b4, o4 + m * 3 + 2, none⟩ = some (.slice x2 st.undo.length y2)) := by
                intro W hW
                exact ⟨hW.cp 4 _ rfl, cellBelow2 hW.below (hcell 1 _ rfl), cellBelow2 hW.below (hcell 2 _ rfl)⟩
              have i1 : (0 : Int) ≤ (m : Int) := by omega
              have i2 : (m : Int) < (md.stones.length : Int) := by omega
              have i3 : decide (N < 100000) = true := decide_eq_true hN
              clear hr hcell hso hst hN H4
              go_upto_region 9 with fail
              clear k4 i3
              go_region_held3 (fun W => B1 53 6 w W (modelC md.name (.slice a1 md.attrs.length c1) (.slice a2 md.events.length c2) (.slice a3 md.stages.length c3) (.slice (some ⟨b4, o4, none⟩) md.stones.length c4) (.slice a5 md.apart.length c5)) ∧ W.cell? ⟨w.heap.size, 4, none⟩ = some (.slice (some ⟨b4, o4, none⟩) md.stones.length c4) ∧ W.cell? ⟨b4, o4 + m * 3 + 1, none⟩ = some (.slice x1 st.done.length y1) ∧ W.cell? ⟨b4, o4 + m * 3 + 2, none⟩ = some (.slice x2 st.undo.length y2))
                (first | exact ⟨HS.out.drew, HP.out _ HS.out.drew⟩ | exact (fun h => ⟨h, HP.out _ h⟩) (by assumption))
                ((first
                    | (go_at_call 51; refine (HC1.out _ (B1.below (And.left (by assumption)))).mono ?_; rintro e W' ⟨N1, rfl, hbw⟩; have hsw := B1.call (And.left (by assumption)) hbw; clear HC1)
                    | (go_at_call 51; refine (HC2.out _ (B1.below (And.left (by assumption)))).mono ?_; rintro e W' ⟨N2, rfl, hbw⟩; have hsw := B1.call (And.left (by assumption)) hbw; clear HC2)))
              all_goals
                rename_i hS
                have hS1 := Lib.hid hS.1
                have wr1 : IntKind.i64.wrap ((m : Int) + 1) = (m : Int) + 1 := wrap_i64 (by omega) (by have := HO.out.tl; omega)
                clear hS HS HP
                go_wp2_with fail
                go_roundw
                case rel => exact ⟨m + 1, _, by omega, by go_num, rfl, hS1⟩
                case measure => simp [intOf]; omega
            · have i2 : (m : Int) < (md.stones.length : Int) := by omega
              have i3 : decide (N < 100000) = false := decide_eq_false hN
              clear hN hlt H4
              go_wp2_with fail
              go_ret
              exact ⟨_, rfl, HS.out.below⟩
          · have i1 : ¬ (m : Int) < (md.stones.length : Int) := by omega
            clear hlt H4
            go_wp2_with fail
            go_ret
            exact ⟨_, rfl, HS.out.below⟩
    · have i1 : ¬ (m : Int) < (md.stages.length : Int) := by omega
      clear hlt H3
      have kk := HS.out.cp 4 _ rfl
      go_wp2_with fail
      clear kk
      go_loopw [5, 3] (fun j x wx => ∃ (m : Nat) (N : Int), m ≤ md.stones.length ∧ j = .int .i64 m ∧ x = .int .i64 N ∧ Hid (B1 53 6 w wx (modelC md.name (.slice a1 md.attrs.length c1) (.slice a2 md.events.length c2) (.slice a3 md.stages.length c3) (.slice a4 md.stones.length c4) (.slice a5 md.apart.length c5)))) (fun j _ _ => md.stones.length - (intOf j).toNat)
      case atStart => exact ⟨0, _, Nat.zero_le _, rfl, rfl, HS.out⟩
      case round =>
        clear HS
        obtain ⟨m, N, hml, rfl, rfl, HS⟩ := hrel
        have k4 := HS.out.cp 4 _ rfl
        by_cases hlt : m < md.stones.length
        · by_cases hN : N < 100000
          · obtain ⟨rfl, -, -⟩ := H4.out.at0 (by omega)
            obtain ⟨us0, hr, hcell⟩ := H4.out.row m hlt
            have hso := HO.out.st _ (List.getElem_mem hlt)
            obtain ⟨st, hst⟩ : ∃ st, md.stones[m] = st := ⟨_, rfl⟩
            rw [hst] at hr hso
            obtain ⟨x1, y1, x2, y2, rfl, hg, hi⟩ := StoneD.cells hr
            have HC1 := Lib.hid (fun W (hb : Below w.heap.size w W) => sizeM x1 y1 st.done W hso.1 (hg.grow hb))
            have HC2 := Lib.hid (fun W (hb : Below w.heap.size w W) => sizeM x2 y2 st.undo W hso.2 (hi.grow hb))
            have HP : Hid (∀ W, B1 53 6 w W (modelC md.name (.slice a1 md.attrs.length c1) (.slice a2 md.events.length c2) (.slice a3 md.stages.length c3) (.slice (some ⟨b4, o4, none⟩) md.stones.length c4) (.slice a5 md.apart.length c5)) → W.cell? ⟨w.heap.size, 4, none⟩ = some (.slice (some ⟨b4, o4, none⟩) md.stones.length c4) ∧ W.cell? ⟨b4, o4 + m * 3 + 1, none⟩ = some (.slice x1 st.done.length y1) ∧ W.cell? ⟨b4, o4 + m * 3 + 2, none⟩ = some (.slice x2 st.undo.length y2)) := by
              intro W hW
              exact ⟨hW.cp 4 _ rfl, cellBelow2 hW.below (hcell 1 _ rfl), cellBelow2 hW.below (hcell 2 _ rfl)⟩
            have i1 : (0 : Int) ≤ (m : Int) := by omega
            have i2 : (m : Int) < (md.stones.length : Int) := by omega
            have i3 : decide (N < 100000) = true := decide_eq_true hN
            clear hr hcell hso hst hN H4
            go_upto_region 9 with fail
            clear k4 i3
            go_region_held3 (fun W => B1 53 6 w W (modelC md.name (.slice a1 md.attrs.length c1) (.slice a2 md.events.length c2) (.slice a3 md.stages.length c3) (.slice (some ⟨b4, o4, none⟩) md.stones.length c4) (.slice a5 md.apart.length c5)) ∧ W.cell? ⟨w.heap.size, 4, none⟩ = some (.slice (some ⟨b4, o4, none⟩) md.stones.length c4) ∧ W.cell? ⟨b4, o4 + m * 3 + 1, none⟩ = some (.slice x1 st.done.length y1) ∧ W.cell? ⟨b4, o4 + m * 3 + 2, none⟩ = some (.slice x2 st.undo.length y2))
              (first | exact ⟨HS.out.drew, HP.out _ HS.out.drew⟩ | exact (fun h => ⟨h, HP.out _ h⟩) (by assumption))
              ((first
                  | (go_at_call 51; refine (HC1.out _ (B1.below (And.left (by assumption)))).mono ?_; rintro e W' ⟨N1, rfl, hbw⟩; have hsw := B1.call (And.left (by assumption)) hbw; clear HC1)
                  | (go_at_call 51; refine (HC2.out _ (B1.below (And.left (by assumption)))).mono ?_; rintro e W' ⟨N2, rfl, hbw⟩; have hsw := B1.call (And.left (by assumption)) hbw; clear HC2)))
            all_goals
              rename_i hS
              have hS1 := Lib.hid hS.1
              have wr1 : IntKind.i64.wrap ((m : Int) + 1) = (m : Int) + 1 := wrap_i64 (by omega) (by have := HO.out.tl; omega)
              clear hS HS HP
              go_wp2_with fail
              go_roundw
              case rel => exact ⟨m + 1, _, by omega, by go_num, rfl, hS1⟩
              case measure => simp [intOf]; omega
          · have i2 : (m : Int) < (md.stones.length : Int) := by omega
            have i3 : decide (N < 100000) = false := decide_eq_false hN
            clear hN hlt H4
            go_wp2_with fail
            go_ret
            exact ⟨_, rfl, HS.out.below⟩
        · have i1 : ¬ (m : Int) < (md.stones.length : Int) := by omega
          clear hlt H4
          go_wp2_with fail
          go_ret
          exact ⟨_, rfl, HS.out.below⟩
end Go.Proofs.YtinijohmdljieaaGreatDoor
