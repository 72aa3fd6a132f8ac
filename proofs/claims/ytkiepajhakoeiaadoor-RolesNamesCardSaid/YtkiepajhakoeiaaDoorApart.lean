/- docketref20.Apart tells whether one of the pairs has the role and, as the other one, a role in which the user acted. -/
import Derived.Test.YtkiepajhakoeiaaDoorRefNamed
import Derived.Deep.LoopGhost
namespace Go.Proofs.YtkiepajhakoeiaaDoor
open Go.RowKit

def bq (a b : ByteArray) : Bool := a.toList == b.toList
def hit (user role : ByteArray) (p a : ByteArray × ByteArray) : Bool := bq a.1 user && ((bq p.1 role && bq p.2 a.2) || (bq p.2 role && bq p.1 a.2))
def apart (ap ac : List (ByteArray × ByteArray)) (user role : ByteArray) : Bool := ap.any fun p => ac.any (hit user role p)
def apartE (ap ac : List (ByteArray × ByteArray)) (role : ByteArray) : Int := if 32 < ap.length ∨ 1024 < ac.length then 4 else if named role.data.toList then 0 else 5

theorem any_take_succ {α : Type} {p : α → Bool} {l : List α} {k : Nat} (h : k < l.length) : (l.take (k + 1)).any p = ((l.take k).any p || p l[k]) := by
  rw [List.take_succ_eq_append_getElem h, List.any_append]; simp
theorem any_take_all {α : Type} {p : α → Bool} {l : List α} {k : Nat} (h : l.length ≤ k) : (l.take k).any p = l.any p := by
  rw [List.take_of_length_le h]
theorem any_yes {α : Type} {p : α → Bool} {l : List α} {k : Nat} (h : k < l.length) (hp : p l[k] = true) : l.any p = true :=
  List.any_eq_true.2 ⟨l[k], List.getElem_mem h, hp⟩

theorem ret_bi {a b : Bool} {n : Int} (h : a = b) : Ending.returned (.tuple #[.bool b, .int .i64 n]) = Ending.returned (.tuple #[.bool a, .int .i64 n]) := by rw [h]
theorem hno_step {α : Type} {p : α → Bool} {l : List α} {m : Nat} (h : m < l.length) (h0 : Hid ((l.take m).any p = false)) (h1 : p l[m] = false) : Hid ((l.take (m + 1)).any p = false) := by
  show _ = false
  rw [any_take_succ h, h0.out, h1]; rfl
theorem hno_step2 {α : Type} {p : α → Bool} {l : List α} {m : Nat} (h : m < l.length) (h0 : Hid ((l.take m).any p = false)) (h1 : p l[m] = false) : Hid ((l.take (m + 1)).any p = false) := hno_step h h0 h1
theorem hit_yes {user role : ByteArray} {ap ac : List (ByteArray × ByteArray)} {k m : Nat} (h : k < ap.length) (h2 : m < ac.length) (hh : hit user role ap[k] ac[m] = true) : apart ap ac user role = true :=
  any_yes h (any_yes h2 hh)

set_option maxHeartbeats 4000000 in
set_option maxRecDepth 100000 in
theorem refApart_in (a1 a2 : Option Addr) (c1 c2 b1 o1 b2 o2 : Nat) (ap ac : List (ByteArray × ByteArray)) (user role : ByteArray) (w : World) (hr : role.size ≤ maxLen)
    (hl1 : ap.length ≤ 32) (hl2 : ac.length ≤ 1024) (hn : named role.data.toList = true)
    (ha1 : 0 < ap.length → a1 = some ⟨b1, o1, none⟩) (ha2 : 0 < ac.length → a2 = some ⟨b2, o2, none⟩)
    (h1 : ∀ j (hj : j < ap.length), w.cell? ⟨b1, o1 + j * 2, none⟩ = some (.string ap[j].1) ∧ w.cell? ⟨b1, o1 + j * 2 + 1, none⟩ = some (.string ap[j].2))
    (h2 : ∀ j (hj : j < ac.length), w.cell? ⟨b2, o2 + j * 2, none⟩ = some (.string ac[j].1) ∧ w.cell? ⟨b2, o2 + j * 2 + 1, none⟩ = some (.string ac[j].2)) :
    Calls Tryd.prog 10 #[.slice a1 ap.length c1, .slice a2 ac.length c2, .string user, .string role] w
      fun e w' => e = .returned (.tuple #[.bool (apart ap ac user role), .int .i64 0]) ∧ ∃ n, w' = w.drewN n := by
  have H1 := Lib.hid h1; have H2 := Lib.hid h2; have Ha1 := Lib.hid ha1; have Ha2 := Lib.hid ha2
  clear h1 h2 ha1 ha2
  have cN := refNamed role w hr
  rw [hn] at cN
  go_enter Tryd.func10, Tryd.ntmps10
  go_wp2_with (go_at_call 26; refine cN.mono ?_; rintro e w1 ⟨rfl, rfl⟩)
  go_loopw [10] (fun i wr => ∃ k : Nat, k ≤ ap.length ∧ i = .int .i64 k ∧ (∃ n, wr = w.drewN n) ∧ Hid ((ap.take k).any (fun p => ac.any (hit user role p)) = false)) (fun i _ => ap.length - (intOf i).toNat)
  case atStart => exact ⟨0, by omega, rfl, ⟨0, rfl⟩, by simp [Hid]⟩
  case round =>
    obtain ⟨k, hk, rfl, ⟨nq, rfl⟩, hno⟩ := hrel
    by_cases hlt : k < ap.length
    · obtain rfl := Ha1.out (by omega)
      obtain ⟨x1, x2⟩ := H1.out k hlt
      obtain ⟨p1, hp1⟩ : ∃ p1, ap[k].1 = p1 := ⟨_, rfl⟩
      obtain ⟨p2, hp2⟩ : ∃ p2, ap[k].2 = p2 := ⟨_, rfl⟩
      rw [hp1] at x1
      rw [hp2] at x2
      have Hp1 := Lib.hid hp1; have Hp2 := Lib.hid hp2; clear hp1 hp2
      go_wp2
      go_loopw [11] (fun i wr => ∃ m : Nat, m ≤ ac.length ∧ i = .int .i64 m ∧ (∃ n, wr = w.drewN n) ∧ Hid ((ac.take m).any (hit user role ap[k]) = false)) (fun i _ => ac.length - (intOf i).toNat)
      case atStart => exact ⟨0, by omega, rfl, ⟨_, rfl⟩, by simp [Hid]⟩
      case round =>
        obtain ⟨m, hm, rfl, ⟨nq2, rfl⟩, hno2⟩ := hrel
        by_cases hlt2 : m < ac.length
        · obtain rfl := Ha2.out (by omega)
          obtain ⟨y1, y2⟩ := H2.out m hlt2
          obtain ⟨q1, hq1⟩ : ∃ q1, ac[m].1 = q1 := ⟨_, rfl⟩
          obtain ⟨q2, hq2⟩ : ∃ q2, ac[m].2 = q2 := ⟨_, rfl⟩
          rw [hq1] at y1
          rw [hq2] at y2
          have hh : hit user role ap[k] ac[m] = ((q1.toList == user.toList) && (((p1.toList == role.toList) && (p2.toList == q2.toList)) || ((p2.toList == role.toList) && (p1.toList == q2.toList)))) := by
            rw [hit, hq1, hq2, Hp1.out, Hp2.out]; rfl
          have HH := Lib.hid hh
          clear hq1 hq2 hh
          have i1 : (k : Int) < (ap.length : Int) := by omega
          have i2 : (m : Int) < (ac.length : Int) := by omega
          cases hu : (q1.toList == user.toList)
          · go_wp2
            go_roundw
            case rel => exact ⟨m + 1, by omega, by go_num, ⟨_, rfl⟩, hno_step hlt2 hno2 (by rw [HH.out, hu]; rfl)⟩
            case measure => simp [intOf]; omega
          · cases e1 : (p1.toList == role.toList) <;> cases e2 : (p2.toList == q2.toList) <;> cases e3 : (p2.toList == role.toList) <;> cases e4 : (p1.toList == q2.toList)
            all_goals
              go_wp2
              go_quiet (fail)
              go_wp2
              first
                | (go_ret2; exact ⟨ret_bi (hit_yes hlt hlt2 (by rw [HH.out, hu, e1, e2, e3, e4]; rfl)), ⟨_, World.drewN_drewN _ _ _⟩⟩)
                | (go_roundw
                   case rel => exact ⟨m + 1, by omega, by go_num, ⟨_, rfl⟩, hno_step hlt2 hno2 (by rw [HH.out, hu, e1, e2, e3, e4]; rfl)⟩
                   case measure => simp [intOf]; omega)
        · go_wp2
          go_roundw
          case rel => exact ⟨k + 1, by omega, by go_num, ⟨_, rfl⟩, hno_step2 hlt hno (by rw [← any_take_all (show ac.length ≤ m by omega)]; exact hno2)⟩
          case measure => simp [intOf]; omega
    · go_wp2
      go_ret2
      exact ⟨ret_bi (by rw [apart, ← any_take_all (show ap.length ≤ k by omega)]; exact hno.out), ⟨_, rfl⟩⟩

/-- the whole function, at any two slices that read so -/
theorem refApart (B : Nat) (v1 v2 : Value) (ap ac : List (ByteArray × ByteArray)) (user role : ByteArray) (w : World) (hr : role.size ≤ maxLen)
    (hap : ap.length ≤ maxLen) (hac : ac.length ≤ maxLen) (h1 : Str2s B w v1 ap) (h2 : Str2s B w v2 ac) :
    Calls Tryd.prog 10 #[v1, v2, .string user, .string role] w
      fun e w' => e = .returned (.tuple #[.bool (apartE ap ac role == 0 && apart ap ac user role), .int .i64 (apartE ap ac role)]) ∧ Below w.heap.size w w' := by
  obtain ⟨a1, c1, b1, o1, rfl, -, ha1, hc1⟩ := h1.cells
  obtain ⟨a2, c2, b2, o2, rfl, -, ha2, hc2⟩ := h2.cells
  clear h1 h2
  unfold maxLen at hap hac
  by_cases hb : 32 < ap.length ∨ 1024 < ac.length
  · have he : apartE ap ac role = 4 := by simp [apartE, hb]
    rw [he]
    clear ha1 ha2 hc1 hc2 he hr
    by_cases hb1 : 32 < ap.length
    · have g : decide (32 < (ap.length : Int)) = true := decide_eq_true (by omega)
      go_enter Tryd.func10, Tryd.ntmps10
      go_wp2_with fail
      go_ret2
      exact ⟨rfl, Below.refl _ _⟩
    · have g : decide (32 < (ap.length : Int)) = false := decide_eq_false (by omega)
      have g2 : decide (1024 < (ac.length : Int)) = true := decide_eq_true (by omega)
      go_enter Tryd.func10, Tryd.ntmps10
      go_wp2_with fail
      go_ret2
      exact ⟨rfl, Below.refl _ _⟩
  · cases hn : named role.data.toList
    · have he : apartE ap ac role = 5 := by simp [apartE, hb, hn]
      rw [he]
      have cN := refNamed role w hr
      rw [hn] at cN
      have g : decide (32 < (ap.length : Int)) = false := decide_eq_false (by omega)
      have g2 : decide (1024 < (ac.length : Int)) = false := decide_eq_false (by omega)
      clear ha1 ha2 hc1 hc2 he hr hn
      go_enter Tryd.func10, Tryd.ntmps10
      go_wp2_with (go_at_call 26; refine cN.mono ?_; rintro e w1 ⟨rfl, rfl⟩)
      go_ret2
      exact ⟨rfl, Below.refl _ _⟩
    · have he : apartE ap ac role = 0 := by simp [apartE, hb, hn]
      rw [he]
      refine (refApart_in a1 a2 c1 c2 b1 o1 b2 o2 ap ac user role w hr (by omega) (by omega) hn (fun h => (ha1 h).1) (fun h => (ha2 h).1) hc1 hc2).mono ?_
      rintro e w' ⟨rfl, n, rfl⟩
      exact ⟨rfl, below_drewN (Below.refl _ _) _⟩
end Go.Proofs.YtkiepajhakoeiaaDoor
