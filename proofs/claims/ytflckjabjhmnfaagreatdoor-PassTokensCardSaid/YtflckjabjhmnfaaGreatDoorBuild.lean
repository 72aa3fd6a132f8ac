/- strings.Builder's WriteString; strings.Join of three pieces with a point between them. (WriteString's own contract does not lay at this dump: its walk is the library's, turned to this program.) -/
import Derived.Lib.AppendStr
import Derived.Test.YtflckjabjhmnfaaGreatDoorHex
import Derived.Test.YtflckjabjhmnfaaGreatDoorDec
namespace Go.Proofs.YtflckjabjhmnfaaGreatDoor
open Go.RowKit

theorem byteInfo : (Tryz.prog.info? 5).map (fun i => (i.zero, i.size, i.bytes)) = some (some (.int .u8 0), 1, 1) := by kernel_rfl

set_option maxHeartbeats 2000000 in
set_option maxRecDepth 100000 in
theorem WriteString_walk (B b : Nat) (bs : List UInt8) (s : ByteArray) (w : World) (h : Bld B b bs w) (hlen : bs.length + s.size ≤ 140737488355328) (hBw : B ≤ w.heap.size) :
    Calls Tryz.prog 40 #[.pointer (some ⟨b, 0, none⟩), .string s] w fun e w' => e = .returned (.tuple #[.int .i64 s.size, .nilIface]) ∧ Bld B b (bs ++ s.data.toList) w' ∧ Below B w w' := by
  obtain ⟨i0, hi, hz0, hz1, hz2⟩ := info_parts byteInfo
  have hc := copyCheck_walk B b bs w h
  have HC := Lib.hid hc
  have HI := Lib.hid hi; have HI0 := Lib.hid hz0; have HI1 := Lib.hid hz1; have HI2 := Lib.hid hz2
  clear hc h hi hz0 hz1 hz2
  go_enter Tryz.func40, Tryz.ntmps40
  go_wp2_with fail
  refine HC.out.mono ?_
  rintro e w1 ⟨rfl, ⟨hB, v, hbk, hown, hne⟩, hb1⟩
  have c0 : w1.cell? ⟨b, 0, none⟩ = some (.pointer (some ⟨b, 0, none⟩)) := by rw [Lib.cell_of_heap hbk]; rfl
  have c1 : w1.cell? ⟨b, 1, none⟩ = some v := by rw [Lib.cell_of_heap hbk]; rfl
  have hl := byteCells_len bs
  go_wp2_with (at_builtin; refine Lib.wpList_append_own_string _ (by rfl) (.tmp 12) (.tmp 13) 46 9 (by rfl) B 5 i0 Tryz.underlying46 Tryz.underlying9 HI.out HI0.out HI1.out HI2.out _ _ _ (by rfl) hown s (by rfl) (by unfold maxLen; omega) (by omega) (by have := hb1.size; omega) ?_)
  intro v' w2 hown' hgrow _
  have hlt : b < w1.heap.size := by
    rcases Nat.lt_or_ge b w1.heap.size with h' | h'
    · exact h'
    · simp [Array.getElem?_eq_none h'] at hbk
  have hb2 : w2.heap[b]? = some (.cells #[.pointer (some ⟨b, 0, none⟩), v] 71 (0, 0)) := by
    rw [hgrow.block b hlt (fun e => hne e.symm)]
    exact hbk
  have d0 : w2.cell? ⟨b, 0, none⟩ = some (.pointer (some ⟨b, 0, none⟩)) := by rw [Lib.cell_of_heap hb2]; rfl
  have d1 : w2.cell? ⟨b, 1, none⟩ = some v := by rw [Lib.cell_of_heap hb2]; rfl
  have f1 : w2.frozen? ⟨b, 1, none⟩ = false := Lib.frozen_of_heap hb2 1
  obtain ⟨ao, n', cap, rfl⟩ : ∃ ao n' cap, v' = .slice ao n' cap := by
    rcases hown'.2 with ⟨hv, _⟩ | ⟨g, cap, cur, hv, _⟩
    · exact ⟨_, _, _, hv⟩
    · exact ⟨_, _, _, hv⟩
  have HP : Hid (Lib.BuilderAt 71 5 B b (.pointer (some ⟨b, 0, none⟩)) (Lib.byteCells (bs ++ s.data.toList)) (w2.setCell ⟨b, 1, none⟩ (.slice ao n' cap))) := by
    refine Lib.BuilderAt.put hB hb2 ?_ (by decide)
    rw [Lib.byteCells_append, ← Lib.strCells_eq]
    simpa [Lib.strCells_length, byteCells_len] using hown'
  have HB2 : Hid (Below B w (w2.setCell ⟨b, 1, none⟩ (.slice ao n' cap))) := (hb1.grown hgrow (by have := hb1.size; omega) (fun k hk => (hown.lt k hk).1)).setCell (p := ⟨b, 1, none⟩) hB _
  clear hown hown' hgrow hbk hb1 hne
  go_wp2
  go_ret2
  exact ⟨rfl, .inr HP.out, HB2.out⟩

/-- what a loop has written behind so many pieces -/
def joinT (E : Nat → ByteArray) : Nat → List UInt8
  | 0 => (E 0).data.toList
  | k + 1 => joinT E k ++ [46] ++ (E (k + 1)).data.toList
theorem joinT_len (E : Nat → ByteArray) (hE : ∀ k, k < 3 → (E k).size ≤ 1000000) : ∀ k, k < 3 → (joinT E k).length ≤ 1000001 * (k + 1)
  | 0, _ => by have := hE 0 (by omega); show (E 0).data.toList.length ≤ _; rw [ba_len]; omega
  | k + 1, h => by
    have h1 := joinT_len E hE k (by omega)
    have h2 := hE (k + 1) h
    simp only [joinT, List.length_append, List.length_singleton, ba_len]
    omega

set_option maxHeartbeats 4000000 in
set_option maxRecDepth 100000 in
theorem Join3_walk (g : Nat) (E : Nat → ByteArray) (w : World) (hE : ∀ k, k < 3 → (E k).size ≤ 1000000) (hc : ∀ k, k < 3 → w.cell? ⟨g, k, none⟩ = some (.string (E k))) (hg : g < w.heap.size) :
    Calls Tryz.prog 23 #[.slice (some ⟨g, 0, none⟩) 3 3, .string ⟨#[46]⟩] w fun e w' => e = .returned (.string ⟨(joinT E 2).toArray⟩) ∧ Below w.heap.size w w' := by
  have HE := Lib.hid hE; have HC := Lib.hid hc
  have HL := Lib.hid (joinT_len E hE)
  have HB0 : Hid (Below w.heap.size w (w.alloc (.cells #[.pointer none, .slice none 0 0] 71))) := (Below.refl _ _).alloc (Nat.le_refl _) _
  have HZ0 : Hid ((w.alloc (.cells #[.pointer none, .slice none 0 0] 71)).heap.size = w.heap.size + 1) := by show _ = _; simp
  have HK0 : Hid ((w.alloc (.cells #[.pointer none, .slice none 0 0] 71)).heap[w.heap.size]? = some (.cells #[.pointer none, .slice none 0 0] 71 (0, 0))) := heap_alloc_new w _
  have HGR := Lib.hid (fun n hn => Tryz.Builder_Grow_fresh w.heap.size w.heap.size n (w.alloc (.cells #[.pointer none, .slice none 0 0] 71)) (Nat.le_refl _) HK0.out (by rw [HZ0.out]; omega) hn)
  clear hE hc HK0
  go_enter Tryz.func23, Tryz.ntmps23
  go_wp2
  go_loop [5, 41] (fun n i => ∃ k m : Nat, k ≤ 3 ∧ m ≤ 2 + k * 1000000 ∧ i = .int .i64 k ∧ n = .int .i64 m) (fun _ i => 3 - (intOf i).toNat)
  case atStart => exact ⟨0, 2, by omega, by omega, rfl, rfl⟩
  case round =>
    obtain ⟨k, m, hk, hm, rfl, rfl⟩ := hrel
    by_cases hlt : k < 3
    · have x0 := HC.out k hlt
      have hs := HE.out k hlt
      obtain ⟨s, hs'⟩ : ∃ s, E k = s := ⟨_, rfl⟩
      rw [hs'] at x0 hs
      have i1 : (k : Int) < 3 := by omega
      have i2 : (0 : Int) ≤ (k : Int) := by omega
      have w1 : IntKind.i64.wrap (9223372036854775807 - (m : Int)) = 9223372036854775807 - (m : Int) := by rw [IntKind.wrap_i64]; omega
      have d1 : decide ((s.size : Int) > 9223372036854775807 - (m : Int)) = false := decide_eq_false (by omega)
      have d2 : ¬ 9223372036854775807 - (m : Int) < (s.size : Int) := by omega
      have w2 : IntKind.i64.wrap ((m : Int) + (s.size : Int)) = (m : Int) + (s.size : Int) := by rw [IntKind.wrap_i64]; omega
      clear hs'
      go_wp2
      go_round
      case rel => exact ⟨k + 1, m + s.size, by omega, by omega, by go_num, by go_num⟩
      case measure => simp [intOf]; omega
    · obtain rfl : k = 3 := by omega
      go_wp2_with fail
      refine (HGR.out m (by omega)).mono ?_
      rintro e w1 ⟨rfl, h1, hb1⟩
      have H1 : Hid (Bld w.heap.size w.heap.size [] w1) := .inr h1
      have HB1 := Lib.hid (HB0.out.trans hb1)
      have x0 : w1.cell? ⟨g, 0, none⟩ = some (.string (E 0)) := (HB1.out.cell (p := ⟨g, 0, none⟩) hg).trans (HC.out 0 (by omega))
      have hs0 := HE.out 0 (by omega)
      have HT0 : Hid ([] ++ (E 0).data.toList = joinT E 0) := by show _ = _; rw [List.nil_append]; rfl
      obtain ⟨s0, hs0'⟩ : ∃ s, E 0 = s := ⟨_, rfl⟩
      rw [hs0'] at x0 hs0 HT0
      clear h1 hb1 hs0' HB0 HZ0 HGR
      go_wp2_with fail
      refine (WriteString_walk w.heap.size w.heap.size [] s0 w1 H1.out (by simp; omega) HB1.out.size).mono ?_
      rintro e w2 ⟨rfl, h2, hb2⟩
      have H2 : Hid (Bld w.heap.size w.heap.size (joinT E 0) w2) := by show Bld _ _ _ _; rw [← HT0.out]; exact h2
      have HB2 := Lib.hid (HB1.out.trans hb2)
      clear h2 hb2 H1 HB1 x0 hs0 HT0
      go_wp2_with fail
      go_loopw [65] (fun i wr => ∃ k : Nat, k ≤ 2 ∧ i = .int .i64 k ∧ Hid (Bld w.heap.size w.heap.size (joinT E k) wr) ∧ Hid (Below w.heap.size w wr)) (fun i _ => 2 - (intOf i).toNat)
      case atStart => exact ⟨0, by omega, rfl, H2, HB2⟩
      case round =>
        clear H2 HB2
        obtain ⟨k, hk2, rfl, hX, hB⟩ := hrel
        by_cases hlt2 : k < 2
        · have x0 : wr.cell? ⟨g, 1 + k, none⟩ = some (.string (E (1 + k))) := (hB.out.cell (p := ⟨g, 1 + k, none⟩) hg).trans (HC.out (1 + k) (by omega))
          have hs := HE.out (1 + k) (by omega)
          have hl := HL.out k (by omega)
          have HT : Hid (joinT E k ++ (⟨#[46]⟩ : ByteArray).data.toList ++ (E (1 + k)).data.toList = joinT E (k + 1)) := by show _ = _; rw [show 1 + k = k + 1 by omega]; rfl
          obtain ⟨s, hs'⟩ : ∃ s, E (1 + k) = s := ⟨_, rfl⟩
          rw [hs'] at x0 hs HT
          have i1 : (k : Int) < 2 := by omega
          have i2 : (0 : Int) ≤ (k : Int) := by omega
          have hz := hB.out.size
          clear hs'
          go_wp2_with fail
          refine (WriteString_walk w.heap.size w.heap.size _ ⟨#[46]⟩ wr hX.out (by have : (⟨#[46]⟩ : ByteArray).size = 1 := rfl; omega) hz).mono ?_
          rintro e w3 ⟨rfl, h3, hb3⟩
          have H3 := Lib.hid h3
          have HB3 := Lib.hid (hB.out.trans hb3)
          have hz3 : w.heap.size ≤ w3.heap.size := HB3.out.size
          clear h3 hb3 hX hB x0 hz
          go_wp2_with fail
          refine (WriteString_walk w.heap.size w.heap.size _ s w3 H3.out (by rw [List.length_append]; have : ([46] : List UInt8).length = 1 := rfl; omega) hz3).mono ?_
          rintro e w4 ⟨rfl, h4, hb4⟩
          have H4 : Hid (Bld w.heap.size w.heap.size (joinT E (k + 1)) w4) := by show Bld _ _ _ _; rw [← HT.out]; exact h4
          have HB4 := Lib.hid (HB3.out.trans hb4)
          clear h4 hb4 H3 HB3 HT
          go_wp2
          go_roundw
          case rel => exact ⟨k + 1, by omega, by go_num, H4, HB4⟩
          case measure => simp [intOf]; omega
        · have hk2' : k = 2 := by omega
          have i1 : ¬ (k : Int) < 2 := by omega
          have HX : Hid (Bld w.heap.size w.heap.size (joinT E 2) wr) := by rw [← hk2']; exact hX
          have hz := hB.out.size
          clear hX
          go_wp2_with fail
          refine (Tryz.Builder_String_any w.heap.size w.heap.size _ _ HX.out hz).mono ?_
          rintro e w5 ⟨rfl, hb5⟩
          have HB5 := Lib.hid (hB.out.trans hb5)
          clear hb5
          go_wp2
          go_ret
          exact ⟨rfl, HB5.out⟩
end Go.Proofs.YtflckjabjhmnfaaGreatDoor
