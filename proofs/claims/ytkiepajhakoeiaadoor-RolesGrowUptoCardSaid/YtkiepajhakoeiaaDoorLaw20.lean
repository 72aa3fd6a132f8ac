/- The helpers of docketlaw20. -/
import Derived.Test.YtkiepajhakoeiaaDoorRolesWorld
import Derived.Test.YtkiepajhakoeiaaDoorRefMay
import Derived.Test.YtkiepajhakoeiaaDoorRefClosed
import Derived.Test.YtkiepajhakoeiaaDoorPlain20
namespace Go.Proofs.YtkiepajhakoeiaaDoor
open Go.ChangeShapes Go.WideShapes Go.ChangeAt Go.RowKit Go.Deep

def StrOkR (_ : World) (cs : Nat → Value) (s : ByteArray) : Prop := cs 0 = .string s ∧ s.size ≤ maxLen
theorem okStrs {B : Nat} {w : World} {v : Value} {xs : List ByteArray} (h : Row 1 StrOkR B w v xs) : Strs B w v xs ∧ ∀ s ∈ xs, s.size ≤ maxLen := by
  obtain ⟨a, c, b, off, hv, hle, ha, hc⟩ := h.ex
  refine ⟨⟨a, c, b, off, hv, hle, ha, fun j x hj => ?_⟩, fun s hs => ?_⟩
  · obtain ⟨cs, h1, h2⟩ := hc j x hj
    exact ⟨cs, h1, h2.1⟩
  · obtain ⟨j, hj, rfl⟩ := List.mem_iff_getElem.1 hs
    obtain ⟨cs, h1, h2⟩ := hc j _ (List.getElem?_eq_getElem hj)
    exact h2.2

section
variable {H : Type} {enc : TypeId × Value → H} {P : Program} {w : World} {base : Nat} {spare : Nat → Bool} {held : Bool}
theorem elStrOk {e : TypeId} (he : P.underlying e = some .string)
    (n : Nat) (cs : List Value) (y : DataW H × List MemPlace) (hl : cs.length = 1) (h : DataW.trod enc P w base spare held n e cs = some y) : ∃ a : ByteArray, StrOkR w (fun i => cs.getD i undef) a := by
  obtain ⟨s, rfl, -, hs⟩ := DataW.trod_string he h
  exact ⟨s, rfl, hs⟩
theorem openStrs {t e : TypeId} (ht : P.underlying t = some (.slice e)) (he : P.underlying e = some .string) (hk : P.cellsOf e = 1)
    {n : Nat} {v : Value} {x : DataW H × List MemPlace} (h : DataW.trod enc P w base spare held n t [v] = some x) : ∃ xs : List ByteArray, Strs w.heap.size w v xs ∧ xs.length ≤ maxLen ∧ ∀ s ∈ xs, s.size ≤ maxLen := by
  obtain ⟨xs, h1, h2⟩ := openRow ht hk (by omega) (elStrOk he) h
  exact ⟨xs, (okStrs h1).1, h2, (okStrs h1).2⟩
/-- a role -/
theorem elRole {e t s : TypeId} {f0 f1 f2 : Field} (he : P.underlying e = some (.struct #[f0, f1, f2])) (h0 : f0.offset = 0) (h1 : f1.offset = 1) (h2 : f2.offset = 2) (e0 : f0.type = s) (e1 : f1.type = t) (e2 : f2.type = t)
    (hs : P.underlying s = some .string) (ht : P.underlying t = some (.slice s)) (ks : P.cellsOf s = 1) (kt : P.cellsOf t = 1)
    (n : Nat) (cs : List Value) (y : DataW H × List MemPlace) (hl : cs.length = 3) (h : DataW.trod enc P w base spare held n e cs = some y) : ∃ r : Rl, RlR w.heap.size w (fun i => cs.getD i undef) r := by
  obtain ⟨y0, y1, y2, m, -, -, g0, g1, g2⟩ := trod_struct3 he h
  obtain ⟨c0, c1, c2, rfl⟩ : ∃ c0 c1 c2, cs = [c0, c1, c2] := by
    match cs, hl with
    | [c0, c1, c2], _ => exact ⟨c0, c1, c2, rfl⟩
  rw [h0, e0, ks] at g0
  rw [h1, e1, kt] at g1
  rw [h2, e2, kt] at g2
  obtain ⟨s0, z0, -, hz0⟩ := DataW.trod_string hs g0
  obtain ⟨xs1, k1, l1, o1⟩ := openStrs ht hs ks g1
  obtain ⟨xs2, k2, l2, o2⟩ := openStrs ht hs ks g2
  obtain ⟨a1, n1, b1, f1, r1, -⟩ := k1.cells
  obtain ⟨a2, n2, b2, f2, r2, -⟩ := k2.cells
  simp at z0
  subst z0 r1 r2
  exact ⟨⟨s0, a1, n1, a2, n2, xs1, xs2⟩, rfl, rfl, rfl, k1, k2, ⟨hz0, o1, o2, l1, l2⟩⟩
end

set_option maxHeartbeats 2000000 in
set_option maxRecDepth 100000 in
theorem law_texts (B : Nat) (v1 v2 : Value) (xs ys : List ByteArray) (w : World) (h1 : Strs B w v1 xs) (h2 : Strs B w v2 ys) (hl1 : xs.length ≤ maxLen) (hl2 : ys.length ≤ maxLen) :
    Calls Tryd.prog 14 #[v1, v2] w fun e w' => e = .returned (.bool (decide (xs = ys))) ∧ ∃ q, w' = w.drewN q := by
  obtain ⟨a1, c1, b1, o1, rfl, -, ha1, hc1⟩ := h1.cells
  obtain ⟨a2, c2, b2, o2, rfl, -, ha2, hc2⟩ := h2.cells
  have HA1 := Lib.hid ha1; have HC1 := Lib.hid hc1; have HA2 := Lib.hid ha2; have HC2 := Lib.hid hc2
  clear h1 h2 ha1 hc1 ha2 hc2
  unfold maxLen at hl1 hl2
  by_cases hle : xs.length = ys.length
  · have hq : ((xs.length : Int) != (ys.length : Int)) = false := by simp; omega
    have Hle := Lib.hid hle
    clear hle
    go_enter Tryd.func14, Tryd.ntmps14
    go_wp2
    clear hq
    go_loopw [5] (fun i wr => ∃ k q : Nat, k ≤ xs.length ∧ i = .int .i64 k ∧ wr = w.drewN q ∧ Hid (∀ j (h : j < xs.length) (h' : j < ys.length), j < k → xs[j] = ys[j])) (fun i _ => xs.length - (intOf i).toNat)
    case atStart => exact ⟨0, 0, by omega, rfl, rfl, fun j _ _ hj => by omega⟩
    case round =>
      obtain ⟨k, q, hk, rfl, rfl, hp⟩ := hrel
      by_cases hlt : k < xs.length
      · have hky : k < ys.length := by have := Hle.out; omega
        obtain rfl := (HA1.out (by omega)).1
        obtain rfl := (HA2.out (by omega)).1
        have x1 := HC1.out k hlt
        have x2 := HC2.out k (by omega)
        obtain ⟨p, hp1⟩ : ∃ p, xs[k] = p := ⟨_, rfl⟩
        obtain ⟨r, hr1⟩ : ∃ r, ys[k] = r := ⟨_, rfl⟩
        rw [hp1] at x1
        rw [hr1] at x2
        have hq2 := ba_eq p r
        have i2 : (k : Int) < (ys.length : Int) := by omega
        have Hp := Lib.hid hp1
        have Hr := Lib.hid hr1
        clear hp1 hr1
        by_cases he : p = r
        · have HP : Hid (∀ j (h : j < xs.length) (h' : j < ys.length), j < k + 1 → xs[j] = ys[j]) := fun j h h' hj => by
            by_cases ej : j = k
            · subst ej; rw [Hp.out, Hr.out]; exact he
            · exact hp.out j h h' (by omega)
          subst he
          clear hq2
          have hq2 : (p.toList == p.toList) = true := beq_self_eq_true _
          go_wp2
          go_quiet (fail)
          go_wp2
          go_roundw
          case rel => exact ⟨k + 1, _, by omega, by go_num, rfl, HP⟩
          case measure => simp [intOf]; omega
        · rw [decide_eq_false he] at hq2
          have HF : Hid (xs ≠ ys) := fun e => he (by rw [← Hp.out, ← Hr.out]; simp [e])
          clear he
          go_wp2
          go_quiet (fail)
          go_wp2
          go_ret
          exact ⟨ret_bool (decide_eq_false HF.out).symm, _, World.drewN_drewN _ _ _⟩
      · have HF : Hid (xs = ys) := List.ext_getElem Hle.out fun j h h' => hp.out j h h' (by omega)
        go_wp2
        go_ret
        exact ⟨ret_bool (decide_eq_true HF.out).symm, _, rfl⟩
  · have hq : ((xs.length : Int) == (ys.length : Int)) = false := by rw [beq_eq_false_iff_ne]; omega
    have HF : Hid (xs ≠ ys) := fun e => hle (by rw [e])
    go_enter Tryd.func14, Tryd.ntmps14
    go_wp2
    go_ret
    exact ⟨ret_bool (decide_eq_false HF.out).symm, 0, rfl⟩

set_option maxHeartbeats 2000000 in
set_option maxRecDepth 100000 in
theorem law_among (B : Nat) (v : Value) (xs : List ByteArray) (s : ByteArray) (w : World) (h : Strs B w v xs) (hl : xs.length ≤ maxLen) :
    Calls Tryd.prog 15 #[v, .string s] w fun e w' => e = .returned (.bool (hasB xs s)) ∧ w' = w := by
  obtain ⟨a1, c1, b1, o1, rfl, -, ha1, hc1⟩ := h.cells
  have HA1 := Lib.hid ha1; have HC1 := Lib.hid hc1
  clear h ha1 hc1
  unfold maxLen at hl
  go_enter Tryd.func15, Tryd.ntmps15
  go_wp2
  go_loop [5] (fun i => ∃ k : Nat, k ≤ xs.length ∧ i = .int .i64 k ∧ Hid (∀ j (h : j < xs.length), j < k → xs[j] ≠ s)) (fun i => xs.length - (intOf i).toNat)
  case atStart => exact ⟨0, by omega, rfl, fun j _ hj => by omega⟩
  case round =>
    obtain ⟨k, hk, rfl, hp⟩ := hrel
    by_cases hlt : k < xs.length
    · obtain rfl := (HA1.out (by omega)).1
      have x1 := HC1.out k hlt
      have hq2 := ba_eq xs[k] s
      by_cases he : xs[k] = s
      · rw [decide_eq_true he] at hq2
        have HF : Hid (s ∈ xs) := he ▸ List.getElem_mem hlt
        clear he
        go_wp2
        go_ret
        exact ⟨ret_bool (hasB_yes HF.out).symm, rfl⟩
      · rw [decide_eq_false he] at hq2
        have HP : Hid (∀ j (h : j < xs.length), j < k + 1 → xs[j] ≠ s) := fun j h hj => by
          by_cases ej : j = k
          · subst ej; exact he
          · exact hp.out j h (by omega)
        clear he
        go_wp2
        go_round
        case rel => exact ⟨k + 1, by omega, by go_num, HP⟩
        case measure => simp [intOf]; omega
    · have HF : Hid (s ∉ xs) := fun hm => by
        obtain ⟨j, hj, he⟩ := List.mem_iff_getElem.1 hm
        exact hp.out j hj (by omega) he
      go_wp2
      go_ret
      exact ⟨ret_bool (hasB_no HF.out).symm, rfl⟩

def GreatEnd (l : List Rl) (names : List ByteArray) (w : World) (e : Ending) (w' : World) : Prop := ∃ b, e = .returned (.bool b) ∧ (∃ q, w' = w.drewN q) ∧ (b = false → l.length ≤ 40 ∧ names.length ≤ 1100)
set_option maxHeartbeats 2000000 in
set_option maxRecDepth 100000 in
theorem law_great (v vn : Value) (l : List Rl) (names : List ByteArray) (w : World) (B : Nat) (h : Rls B w v l) (hn : Strs B w vn names) (hl : l.length ≤ maxLen) (hnl : names.length ≤ maxLen) :
    Calls Tryd.prog 12 #[v, vn] w (GreatEnd l names w) := by
  obtain ⟨a, c, b, o, rfl, hle, hC⟩ := h.cells
  obtain ⟨an, cn, bn, on, rfl, hlen, han, hcn⟩ := hn.cells
  have HC := Lib.hid hC; have HAN := Lib.hid han; have HCN := Lib.hid hcn
  clear h hn hC han hcn
  unfold maxLen at hl hnl
  by_cases h40 : 40 < l.length
  · have g : decide (40 < (l.length : Int)) = true := decide_eq_true (by omega)
    go_enter Tryd.func12, Tryd.ntmps12
    go_wp2
    go_ret
    exact ⟨true, rfl, ⟨0, rfl⟩, fun h => by cases h⟩
  have g : decide (40 < (l.length : Int)) = false := decide_eq_false (by omega)
  by_cases h11 : 1100 < names.length
  · have g : decide (1100 < (names.length : Int)) = true := decide_eq_true (by omega)
    go_enter Tryd.func12, Tryd.ntmps12
    go_wp2
    go_ret
    exact ⟨true, rfl, ⟨0, rfl⟩, fun h => by cases h⟩
  have g2 : decide (1100 < (names.length : Int)) = false := decide_eq_false (by omega)
  go_enter Tryd.func12, Tryd.ntmps12
  go_wp2
  go_loopw [5, 6] (fun x i wr => ∃ (k q : Nat) (n : Int), wr = w.drewN q ∧ k ≤ l.length ∧ i = .int .i64 k ∧ x = .int .i64 n) (fun _ i _ => l.length - (intOf i).toNat)
  case atStart => exact ⟨0, 0, 0, rfl, by omega, rfl, rfl⟩
  case round =>
    obtain ⟨k, q, n, rfl, hk, rfl, rfl⟩ := hrel
    by_cases hlt : k < l.length
    · obtain ⟨rfl, hbl⟩ := HC.out.at0 (by omega)
      have x0 := HC.out.c0 k hlt
      have x1 := HC.out.c1 k hlt
      have x2 := HC.out.c2 k hlt
      simp only [Rl.hv, Rl.mv] at x1 x2
      go_wp2
      go_quiet (fail)
      go_wp2
      go_roundw
      case rel => exact ⟨k + 1, _, _, rfl, by omega, by go_num, rfl⟩
      case measure => simp [intOf]; omega
    · go_wp2
      go_loopw [5, 7] (fun x i wr => ∃ (k q : Nat) (n : Int), wr = w.drewN q ∧ k ≤ names.length ∧ i = .int .i64 k ∧ x = .int .i64 n) (fun _ i _ => names.length - (intOf i).toNat)
      case atStart => exact ⟨0, q, n, rfl, by omega, rfl, rfl⟩
      case round =>
        obtain ⟨k, q, n, rfl, hk, rfl, rfl⟩ := hrel
        by_cases hlt : k < names.length
        · obtain rfl := (HAN.out (by omega)).1
          have x0 := HCN.out k hlt
          go_wp2
          go_roundw
          case rel => exact ⟨k + 1, _, _, rfl, by omega, by go_num, rfl⟩
          case measure => simp [intOf]; omega
        · go_wp2
          go_ret
          exact ⟨_, rfl, ⟨_, rfl⟩, fun _ => ⟨by omega, by omega⟩⟩
end Go.Proofs.YtkiepajhakoeiaaDoor
