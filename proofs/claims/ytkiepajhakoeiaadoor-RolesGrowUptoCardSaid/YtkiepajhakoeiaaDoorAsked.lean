/- docketref20.asked: which roles names come to, by their numbers. -/
import Derived.Test.YtkiepajhakoeiaaDoorMarks
namespace Go.Proofs.YtkiepajhakoeiaaDoor
open Go.RowKit

theorem elemBool : Elem Tryd.prog 64 4 1 1 := ⟨Tryd.underlying64, ⟨.bool false, by kernel_rfl, rfl⟩, by omega, Tryd.sizeOf4⟩

abbrev bools (is : List Bool) : List Value := is.map Value.bool
theorem made_bools (n : Nat) : (madeCells (Value.bool false).cells (n * 1)).toList = bools (List.replicate n false) := by
  apply List.ext_getElem
  · simp [madeCells]
  · intro i h1 h2
    simp [madeCells, Value.cells, Nat.mod_one]
theorem bool_at {is : List Bool} {p : Nat} (hp : p < is.length) : (bools is)[p]? = some (.bool (mkd is p)) := by
  simp [mkd, List.getD_eq_getElem?_getD, hp]
theorem mkd_rep (n i : Nat) : mkd (List.replicate n false) i = false := by
  simp [mkd, List.getD_eq_getElem?_getD, List.getElem?_replicate]
  split <;> rfl

/-- a row of marks that the call owns -/
def Marked (w : World) (g n : Nat) (is : List Bool) : Prop := Own w g 4 1 (some ⟨g, 0, none⟩) n n (bools is) ∧ is.length = n
theorem Marked.cell {w : World} {g n : Nat} {is : List Bool} (h : Marked w g n is) {p : Nat} (hp : p < n) : w.cell? ⟨g, p, none⟩ = some (.bool (mkd is p)) ∧ w.frozen? ⟨g, p, none⟩ = false := by
  obtain ⟨g', hg, -, -, h1, h2⟩ := h.1.cell (by omega)
  cases hg
  exact ⟨h1 p _ (bool_at (by rw [h.2]; exact hp)), h2 p⟩
theorem Marked.set {w : World} {g n : Nat} {is : List Bool} (h : Marked w g n is) (p : Nat) : Marked (w.setCell ⟨g, p, none⟩ (.bool true)) g n (is.set p true) :=
  ⟨by have := h.1.set (j := p) (.bool true); rw [bools, List.map_set]; exact this, by simp [h.2]⟩
theorem Marked.lt {w : World} {g n : Nat} {is : List Bool} (h : Marked w g n is) : g < w.heap.size := (h.1.lt rfl).2
theorem Marked.below {w w' : World} {g n : Nat} {is : List Bool} (h : Marked w g n is) (hb : Below w.heap.size w w') : Marked w' g n is := ⟨h.1.below hb (Nat.le_refl _), h.2⟩

def AskedIs (l : List Rl) (names : List ByteArray) (is : List Bool) : Prop := is.length = l.length ∧ ∀ i (h : i < l.length), mkd is i = true ↔ Reach l names l[i]

set_option maxHeartbeats 8000000 in
set_option maxRecDepth 100000 in
theorem ref_asked (B : Nat) (v vn : Value) (l : List Rl) (names : List ByteArray) (w : World) (hB : B ≤ w.heap.size) (h : Rls B w v l) (hl : l.length ≤ maxLen) (hn : Strs B w vn names) (hnl : names.length ≤ maxLen) :
    Calls Tryd.prog 30 #[v, vn] w fun e w' => Below w.heap.size w w' ∧ ((closedE l names ≠ 0 ∧ e = .returned (.tuple #[.slice none 0 0, .int .i64 (closedE l names)])) ∨
      (closedE l names = 0 ∧ ∃ g is, e = .returned (.tuple #[.slice (some ⟨g, 0, none⟩) l.length l.length, .int .i64 0]) ∧ w.heap.size ≤ g ∧ Marked w' g l.length is ∧ AskedIs l names is)) := by
  have cC := ref_Check B v l w h hl
  have cP := fun n W (hb : Below B w W) => ref_place B v l n W (Rls.below h hb) hl
  obtain ⟨a, c, b, o, rfl, hle, hC⟩ := h.cells
  obtain ⟨an, cn, bn, on, rfl, hlen, han, hcn⟩ := hn.cells
  unfold maxLen at hnl
  by_cases hk : chkP l = 0
  · have cC2 := cC.mono (R' := fun e w' => e = .returned (.int .i64 0) ∧ w' = w) (by
      rintro e w' ⟨x, rfl, hx, rfl⟩
      have := chk_same hx
      rw [hk] at this
      exact ⟨by rw [this], rfl⟩)
    clear cC
    obtain ⟨hM, hnd, h32, hok⟩ := nodup_byName hk
    by_cases h1024 : 1024 < names.length
    · have e1 : closedE l names = 4 := by simp [closedE, hk, h1024]
      rw [e1]
      have g : decide (1024 < (names.length : Int)) = true := decide_eq_true (by omega)
      clear hC hcn han h hn e1 cP
      go_enter Tryd.func30, Tryd.ntmps30
      go_wp2_with (go_at_call 20; refine cC2.mono ?_; rintro e w1 ⟨rfl, rfl⟩)
      go_ret2
      exact ⟨Below.refl _ _, .inl ⟨by decide, rfl⟩⟩
    have e1 : closedE l names = 0 := by simp [closedE, hk, h1024]
    rw [e1]
    have g : decide (1024 < (names.length : Int)) = false := decide_eq_false (by omega)
    have HC := Lib.hid hC
    have Han := Lib.hid han
    have Hcn := Lib.hid hcn
    have HD := Lib.hid hnd
    have hok2 : ∀ r ∈ l, r.holds.length ≤ 32 ∧ ∀ n ∈ r.holds, (findR l n).isSome = true := fun r hr => by
      have := hok r hr
      simp only [okRole, Bool.and_eq_true, decide_eq_true_eq] at this
      exact ⟨this.1.1.1.2, fun n hn => List.all_eq_true.1 this.1.2 n hn⟩
    have HO := Lib.hid hok2
    obtain ⟨w2, hmk, hO, hg⟩ := Own.make (n := l.length) elemBool (Nat.le_refl w.heap.size) (.bool false) (by kernel_rfl) (by omega) hl
    rw [made_bools] at hO
    have hM0 : Marked w2 w.heap.size l.length (List.replicate l.length false) := ⟨hO, by simp⟩
    have hb2 : Below w.heap.size w w2 := (Below.refl _ _).grown hg (Nat.le_refl _) (fun j hj => by cases hj)
    have HL := Lib.hid hl
    clear hC hcn han h hn e1 hok hok2 hnd hM hO hg hl
    go_enter Tryd.func30, Tryd.ntmps30
    go_wp2_with (go_at_call 20; refine cC2.mono ?_; rintro e w1 ⟨rfl, rfl⟩)
    have hS0 : Sound l names (List.replicate l.length false) := ⟨by simp, fun i hi hm => by rw [mkd_rep] at hm; cases hm⟩
    have hgw : w1.heap.size < w2.heap.size := hM0.lt
    generalize hg0 : w1.heap.size = g0 at *
    clear hmk
    go_loopw [8] (fun i wr => ∃ (k : Nat) (is : List Bool), k ≤ names.length ∧ i = .int .i64 k ∧ Marked wr g0 l.length is ∧ Below g0 w1 wr ∧ Hid (Sound l names is ∧ Starts l names is k)) (fun i _ => names.length - (intOf i).toNat)
    case atStart => exact ⟨0, _, by omega, rfl, hM0, hb2, hS0, fun j _ hj => by omega⟩
    case round =>
      obtain ⟨k, is, hk1, rfl, hM1, hb1, hS1⟩ := hrel
      by_cases hlt : k < names.length
      · obtain ⟨rfl, hbl⟩ := Han.out (by omega)
        have x0 := (hb1.cell (p := ⟨bn, on + k, none⟩) (by show bn < g0; omega)).trans (Hcn.out k hlt)
        have cP1 := cP names[k] wr (hb1.mono hB)
        rcases placeI_cases l names[k] with ⟨h1, h2⟩ | ⟨p, hp, h1, h2, h3⟩
        · rw [h1] at cP1
          have HS := Lib.hid (show Starts l names is (k + 1) from fun j hj hjk i hi => by
            by_cases e : j = k
            · subst e; rw [h1] at hi; omega
            · exact hS1.out.2 j hj (by omega) i hi)
          clear h1 h2
          go_wp2_with (go_at_call 33; refine cP1.mono ?_; rintro e w3 ⟨rfl, rfl⟩)
          go_roundw
          case rel => exact ⟨k + 1, is, by omega, by go_num, hM1, hb1, hS1.out.1, HS.out⟩
          case measure => simp [intOf]; omega
        · rw [h1] at cP1
          obtain ⟨y1, y2⟩ := hM1.cell hp
          have hM2 := hM1.set p
          have hb3 := hb1.setCell (p := ⟨g0, p, none⟩) (Nat.le_refl _) (.bool true)
          have HS := Lib.hid (show Sound l names (is.set p true) ∧ Starts l names (is.set p true) (k + 1) from ⟨hS1.out.1.start (List.getElem_mem hlt) h1, fun j hj hjk i hi => by
            by_cases e : j = k
            · subst e
              have : i = p := by rw [h1] at hi; omega
              subst this
              rw [mkd_set (by rw [hS1.out.1.1]; exact hp)]; simp
            · exact (below_set p).2 i (hS1.out.2 j hj (by omega) i hi)⟩)
          clear h1 h2 h3
          go_wp2_with (go_at_call 33; refine cP1.mono ?_; rintro e w3 ⟨rfl, rfl⟩)
          go_roundw
          case rel => exact ⟨k + 1, is.set p true, by omega, by go_num, hM2, hb3, HS.out⟩
          case measure => simp [intOf]; omega
      · have hst : Starts l names is names.length := fun j hj _ i hi => hS1.out.2 j hj (by omega) i hi
        have HS := Lib.hid (And.intro hS1.out.1 hst)
        clear hst
        go_wp2
        have HO1 := Lib.hid (fun r hr => (HO.out r hr).1)
        go_loopw [10] (fun i wx => ∃ (r : Nat) (is : List Bool), r ≤ l.length ∧ i = .int .i64 r ∧ Marked wx g0 l.length is ∧ Below g0 w1 wx ∧ Hid (Sound l names is ∧ Starts l names is names.length ∧ (Shut l is ∨ r ≤ is.count true))) (fun i _ => l.length - (intOf i).toNat)
        case atStart => exact ⟨0, is, by omega, rfl, hM1, hb1, HS.out.1, HS.out.2, .inr (Nat.zero_le _)⟩
        case round =>
          obtain ⟨r, is0, hr1, rfl, hM2, hb2, hS2⟩ := hrel
          by_cases hlt2 : r < l.length
          · go_wp2
            go_loopw [11] (fun i wx => ∃ (j : Nat) (is : List Bool), j ≤ l.length ∧ i = .int .i64 j ∧ Marked wx g0 l.length is ∧ Below g0 w1 wx ∧ Hid (Mid l names is0 is j 0)) (fun i _ => l.length - (intOf i).toNat)
            case atStart => exact ⟨0, is0, by omega, rfl, hM2, hb2, Mid.begin hS2.out.1 hS2.out.2.1⟩
            case round =>
              obtain ⟨j, is1, hj1, rfl, hM3, hb3, hS3⟩ := hrel
              by_cases hlt3 : j < l.length
              · obtain ⟨rfl, hbl⟩ := HC.out.at0 (by omega)
                have hb32 : l[j].holds.length ≤ 32 := HO1.out l[j] (List.getElem_mem hlt3)
                go_wp2
                obtain ⟨ah, ch, bh, oh, hve, -, hah, hch⟩ := (HC.out.hs j hlt3).cells
                injection hve with hva hvn hvc
                subst hva
                have Hah := Lib.hid hah; have Hch := Lib.hid hch; clear hah hch hvn hvc
                go_loopw [12] (fun i wx => ∃ (m : Nat) (is : List Bool), m ≤ l[j].holds.length ∧ i = .int .i64 m ∧ Marked wx g0 l.length is ∧ Below g0 w1 wx ∧ Hid (Mid l names is0 is j m)) (fun i _ => l[j].holds.length - (intOf i).toNat)
                case atStart => exact ⟨0, is1, by omega, rfl, hM3, hb3, hS3⟩
                case round =>
                  obtain ⟨m, is, hm1, rfl, hM4, hb4, hS4⟩ := hrel
                  have x1 := (hb4.cell (p := ⟨b, o + j * 3 + 1, none⟩) (by show b < g0; omega)).trans (HC.out.c1 j hlt3)
                  simp only [Rl.hv] at x1
                  obtain ⟨y1, y2⟩ := hM4.cell hlt3
                  cases hmi : mkd is j
                  · rw [hmi] at y1
                    have HN := Lib.hid (hS4.out.next (fun h => by rw [hmi] at h; cases h))
                    clear hmi
                    go_wp2
                    go_roundw
                    case rel => exact ⟨j + 1, is, by omega, by go_num, hM4, hb4, HN.out⟩
                    case measure => simp [intOf]; omega
                  · rw [hmi] at y1
                    by_cases hlt4 : m < l[j].holds.length
                    · obtain ⟨e1, hbl4⟩ := Hah.out (by omega)
                      have z0 := (hb4.cell (p := ⟨bh, oh + m, none⟩) (by show bh < g0; omega)).trans (Hch.out m hlt4)
                      obtain ⟨p, hp, h1, -⟩ : ∃ p, ∃ hp : p < l.length, placeI l l[j].holds[m] = (p : Int) ∧ True := by
                        have := (HO.out l[j] (List.getElem_mem hlt3)).2 _ (List.getElem_mem hlt4)
                        rcases placeI_cases l l[j].holds[m] with ⟨-, h2⟩ | ⟨p, hp, h1, -, -⟩
                        · rw [h2] at this; cases this
                        · exact ⟨p, hp, h1, trivial⟩
                      have cP4 := cP l[j].holds[m] wr (hb4.mono hB)
                      rw [h1] at cP4
                      obtain ⟨q1, q2⟩ := hM4.cell hp
                      have hM5 := hM4.set p
                      have hb5 := hb4.setCell (p := ⟨g0, p, none⟩) (Nat.le_refl _) (.bool true)
                      have HN := Lib.hid (hS4.out.step HO1.out hlt3 hmi hlt4 h1)
                      have g9 : decide ((m : Int) < (l[j].holds.length : Int)) = true := decide_eq_true (by omega)
                      clear h1 hmi
                      go_wp2_with (go_at_call 33; clear e1; refine cP4.mono ?_; rintro e w3 ⟨rfl, rfl⟩)
                      go_roundw
                      case rel => exact ⟨m + 1, is.set p true, by omega, by go_num, hM5, hb5, HN.out⟩
                      case measure => simp [intOf]; omega
                    · have HN := Lib.hid (hS4.out.next (fun _ hi => by omega))
                      have g9 : decide ((m : Int) < (l[j].holds.length : Int)) = false := decide_eq_false (by omega)
                      clear hmi
                      go_wp2
                      go_roundw
                      case rel => exact ⟨j + 1, is, by omega, by go_num, hM4, hb4, HN.out⟩
                      case measure => simp [intOf]; omega
              · have HN := Lib.hid (hS3.out.finish (by omega) hS2.out.2.2)
                go_wp2
                go_roundw
                case rel => exact ⟨r + 1, is1, by omega, by go_num, hM3, hb3, hS3.out.sound, hS3.out.start, HN.out⟩
                case measure => simp [intOf]; omega
          · have hfin : AskedIs l names is0 := by
              have hsh := shut_end hS2.out.1 (by rcases hS2.out.2.2 with h | h; exact .inl h; exact .inr (by omega))
              exact ⟨hS2.out.1.1, fun i hi => reach_marks hS2.out.1 hS2.out.2.1 hsh HO1.out HD.out hi⟩
            have HF := Lib.hid hfin
            clear hfin
            go_wp2
            go_ret2
            exact ⟨by rw [hg0]; exact hb2, .inr ⟨by simp, g0, is0, rfl, Nat.le_of_eq hg0, hM2, HF.out⟩⟩
  · have e1 : closedE l names = chkP l := by simp [closedE, hk]
    have cC2 := cC.mono (R' := fun e w' => e = .returned (.int .i64 (chkP l)) ∧ w' = w) (by
      rintro e w' ⟨x, rfl, hx, rfl⟩
      exact ⟨by rw [chk_same hx], rfl⟩)
    have e2 : closedE l names ≠ 0 := by rw [e1]; exact hk
    rw [e1] at e2 ⊢
    clear cC
    generalize chkP l = x at *
    have hx : (x != 0) = true := by simpa using hk
    clear hC hcn han h hn cP e1
    go_enter Tryd.func30, Tryd.ntmps30
    go_wp2_with (go_at_call 20; refine cC2.mono ?_; rintro e w1 ⟨rfl, rfl⟩)
    go_ret2
    exact ⟨Below.refl _ _, .inl ⟨e2, rfl⟩⟩
end Go.Proofs.YtkiepajhakoeiaaDoor
