/- strings.Builder's WriteString; strings.Join of three pieces with a point between them. (WriteString's own contract does not lay at this dump: its walk is the library's, turned to this program.) strings.ContainsRune of the text of the three signs that a name may bear beside letters and digits, at every rune up to U+10FFFF. package pass: named, word, the closures that ask for names; slices.ContainsFunc of strings. pass.session. -/
import Derived.Lib.AppendStr
import Derived.Test.YtinijohmdljieaaGreatDoorH04
import Derived.Test.YtinijohmdljieaaGreatDoorH01
import Derived.Test.YtinijohmdljieaaGreatDoorChecked
import Derived.Test.YtinijohmdljieaaGreatDoorShelf
import Derived.Laws.Runes
import Derived.Lib.OthersKept
import Derived.Deep.LoopGhost
import Derived.Test.YtinijohmdljieaaGreatDoorH05
namespace Go.Proofs.YtinijohmdljieaaGreatDoor
open Go.RowKit

theorem byteInfo : (Tryz.prog.info? 5).map (fun i => (i.zero, i.size, i.bytes)) = some (some (.int .u8 0), 1, 1) := by kernel_rfl

set_option maxHeartbeats 2000000 in
set_option maxRecDepth 100000 in
theorem WriteString_walk (B b : Nat) (bs : List UInt8) (s : ByteArray) (w : World) (h : Bld B b bs w) (hlen : bs.length + s.size ≤ 140737488355328) (hBw : B ≤ w.heap.size) :
    Calls Tryz.prog 161 #[.pointer (some ⟨b, 0, none⟩), .string s] w fun e w' => e = .returned (.tuple #[.int .i64 s.size, .nilIface]) ∧ Bld B b (bs ++ s.data.toList) w' ∧ Below B w w' := by
  obtain ⟨i0, hi, hz0, hz1, hz2⟩ := info_parts byteInfo
  have hc := copyCheck_walk B b bs w h
  have HC := Lib.hid hc
  have HI := Lib.hid hi; have HI0 := Lib.hid hz0; have HI1 := Lib.hid hz1; have HI2 := Lib.hid hz2
  clear hc h hi hz0 hz1 hz2
  go_enter Tryz.func161, Tryz.ntmps161
  go_wp2_with fail
  refine HC.out.mono ?_
  rintro e w1 ⟨rfl, ⟨hB, v, hbk, hown, hne⟩, hb1⟩
  have c0 : w1.cell? ⟨b, 0, none⟩ = some (.pointer (some ⟨b, 0, none⟩)) := by rw [Lib.cell_of_heap hbk]; rfl
  have c1 : w1.cell? ⟨b, 1, none⟩ = some v := by rw [Lib.cell_of_heap hbk]; rfl
  have hl := byteCells_len bs
  go_wp2_with (at_builtin; refine Lib.wpList_append_own_string _ (by rfl) (.tmp 12) (.tmp 13) 152 9 (by rfl) B 5 i0 Tryz.underlying152 Tryz.underlying9 HI.out HI0.out HI1.out HI2.out _ _ _ (by rfl) hown s (by rfl) (by unfold maxLen; omega) (by omega) (by have := hb1.size; omega) ?_)
  intro v' w2 hown' hgrow _
  have hlt : b < w1.heap.size := by
    rcases Nat.lt_or_ge b w1.heap.size with h' | h'
    · exact h'
    · simp [Array.getElem?_eq_none h'] at hbk
  have hb2 : w2.heap[b]? = some (.cells #[.pointer (some ⟨b, 0, none⟩), v] 244 (0, 0)) := by
    rw [hgrow.block b hlt (fun e => hne e.symm)]
    exact hbk
  have d0 : w2.cell? ⟨b, 0, none⟩ = some (.pointer (some ⟨b, 0, none⟩)) := by rw [Lib.cell_of_heap hb2]; rfl
  have d1 : w2.cell? ⟨b, 1, none⟩ = some v := by rw [Lib.cell_of_heap hb2]; rfl
  have f1 : w2.frozen? ⟨b, 1, none⟩ = false := Lib.frozen_of_heap hb2 1
  obtain ⟨ao, n', cap, rfl⟩ : ∃ ao n' cap, v' = .slice ao n' cap := by
    rcases hown'.2 with ⟨hv, _⟩ | ⟨g, cap, cur, hv, _⟩
    · exact ⟨_, _, _, hv⟩
    · exact ⟨_, _, _, hv⟩
  have HP : Hid (Lib.BuilderAt 244 5 B b (.pointer (some ⟨b, 0, none⟩)) (Lib.byteCells (bs ++ s.data.toList)) (w2.setCell ⟨b, 1, none⟩ (.slice ao n' cap))) := by
    refine Lib.BuilderAt.put hB hb2 ?_ (by decide)
    rw [Lib.byteCells_append, ← Lib.strCells_eq]
    simpa [Lib.strCells_length, byteCells_len] using hown'
  have HB2 : Hid (Below B w (w2.setCell ⟨b, 1, none⟩ (.slice ao n' cap))) := (hb1.grown hgrow (by have := hb1.size; omega) (fun k hk => (hown.lt k hk).1)).setCell (p := ⟨b, 1, none⟩) hB _
  clear hown hown' hgrow hbk hb1 hne
  go_wp2
  go_ret2
  exact ⟨rfl, .inr HP.out, HB2.out⟩

/-- what a loop has written behind so many pieces -/
def joinT (E : Nat → ByteArray) : Nat → List UInt8
  | 0 => (E 0).data.toList
  | k + 1 => joinT E k ++ [46] ++ (E (k + 1)).data.toList
theorem joinT_len (E : Nat → ByteArray) (hE : ∀ k, k < 3 → (E k).size ≤ 1000000) : ∀ k, k < 3 → (joinT E k).length ≤ 1000001 * (k + 1)
  | 0, _ => by have := hE 0 (by omega); show (E 0).data.toList.length ≤ _; rw [ba_len]; omega
  | k + 1, h => by
    have h1 := joinT_len E hE k (by omega)
    have h2 := hE (k + 1) h
    simp only [joinT, List.length_append, List.length_singleton, ba_len]
    omega

set_option maxHeartbeats 4000000 in
set_option maxRecDepth 100000 in
theorem Join3_walk (g : Nat) (E : Nat → ByteArray) (w : World) (hE : ∀ k, k < 3 → (E k).size ≤ 1000000) (hc : ∀ k, k < 3 → w.cell? ⟨g, k, none⟩ = some (.string (E k))) (hg : g < w.heap.size) :
    Calls Tryz.prog 124 #[.slice (some ⟨g, 0, none⟩) 3 3, .string ⟨#[46]⟩] w fun e w' => e = .returned (.string ⟨(joinT E 2).toArray⟩) ∧ Below w.heap.size w w' := by
  have HE := Lib.hid hE; have HC := Lib.hid hc
  have HL := Lib.hid (joinT_len E hE)
  have HB0 : Hid (Below w.heap.size w (w.alloc (.cells #[.pointer none, .slice none 0 0] 244))) := (Below.refl _ _).alloc (Nat.le_refl _) _
  have HZ0 : Hid ((w.alloc (.cells #[.pointer none, .slice none 0 0] 244)).heap.size = w.heap.size + 1) := by show _ = _; simp
  have HK0 : Hid ((w.alloc (.cells #[.pointer none, .slice none 0 0] 244)).heap[w.heap.size]? = some (.cells #[.pointer none, .slice none 0 0] 244 (0, 0))) := heap_alloc_new w _
  have HGR := Lib.hid (fun n hn => Tryz.Builder_Grow_fresh w.heap.size w.heap.size n (w.alloc (.cells #[.pointer none, .slice none 0 0] 244)) (Nat.le_refl _) HK0.out (by rw [HZ0.out]; omega) hn)
  clear hE hc HK0
  go_enter Tryz.func124, Tryz.ntmps124
  go_wp2
  go_loop [5, 41] (fun n i => ∃ k m : Nat, k ≤ 3 ∧ m ≤ 2 + k * 1000000 ∧ i = .int .i64 k ∧ n = .int .i64 m) (fun _ i => 3 - (intOf i).toNat)
  case atStart => exact ⟨0, 2, by omega, by omega, rfl, rfl⟩
  case round =>
    obtain ⟨k, m, hk, hm, rfl, rfl⟩ := hrel
    by_cases hlt : k < 3
    · have x0 := HC.out k hlt
      have hs := HE.out k hlt
      obtain ⟨s, hs'⟩ : ∃ s, E k = s := ⟨_, rfl⟩
      rw [hs'] at x0 hs
      have i1 : (k : Int) < 3 := by omega
      have i2 : (0 : Int) ≤ (k : Int) := by omega
      have w1 : IntKind.i64.wrap (9223372036854775807 - (m : Int)) = 9223372036854775807 - (m : Int) := by rw [IntKind.wrap_i64]; omega
      have d1 : decide ((s.size : Int) > 9223372036854775807 - (m : Int)) = false := decide_eq_false (by omega)
      have d2 : ¬ 9223372036854775807 - (m : Int) < (s.size : Int) := by omega
      have w2 : IntKind.i64.wrap ((m : Int) + (s.size : Int)) = (m : Int) + (s.size : Int) := by rw [IntKind.wrap_i64]; omega
      clear hs'
      go_wp2
      go_round
      case rel => exact ⟨k + 1, m + s.size, by omega, by omega, by go_num, by go_num⟩
      case measure => simp [intOf]; omega
    · obtain rfl : k = 3 := by omega
      go_wp2_with fail
      refine (HGR.out m (by omega)).mono ?_
      rintro e w1 ⟨rfl, h1, hb1⟩
      have H1 : Hid (Bld w.heap.size w.heap.size [] w1) := .inr h1
      have HB1 := Lib.hid (HB0.out.trans hb1)
      have x0 : w1.cell? ⟨g, 0, none⟩ = some (.string (E 0)) := (HB1.out.cell (p := ⟨g, 0, none⟩) hg).trans (HC.out 0 (by omega))
      have hs0 := HE.out 0 (by omega)
      have HT0 : Hid ([] ++ (E 0).data.toList = joinT E 0) := by show _ = _; rw [List.nil_append]; rfl
      obtain ⟨s0, hs0'⟩ : ∃ s, E 0 = s := ⟨_, rfl⟩
      rw [hs0'] at x0 hs0 HT0
      clear h1 hb1 hs0' HB0 HZ0 HGR
      go_wp2_with fail
      refine (WriteString_walk w.heap.size w.heap.size [] s0 w1 H1.out (by simp; omega) HB1.out.size).mono ?_
      rintro e w2 ⟨rfl, h2, hb2⟩
      have H2 : Hid (Bld w.heap.size w.heap.size (joinT E 0) w2) := by show Bld _ _ _ _; rw [← HT0.out]; exact h2
      have HB2 := Lib.hid (HB1.out.trans hb2)
      clear h2 hb2 H1 HB1 x0 hs0 HT0
      go_wp2_with fail
      go_loopw [65] (fun i wr => ∃ k : Nat, k ≤ 2 ∧ i = .int .i64 k ∧ Hid (Bld w.heap.size w.heap.size (joinT E k) wr) ∧ Hid (Below w.heap.size w wr)) (fun i _ => 2 - (intOf i).toNat)
      case atStart => exact ⟨0, by omega, rfl, H2, HB2⟩
      case round =>
        clear H2 HB2
        obtain ⟨k, hk2, rfl, hX, hB⟩ := hrel
        by_cases hlt2 : k < 2
        · have x0 : wr.cell? ⟨g, 1 + k, none⟩ = some (.string (E (1 + k))) := (hB.out.cell (p := ⟨g, 1 + k, none⟩) hg).trans (HC.out (1 + k) (by omega))
          have hs := HE.out (1 + k) (by omega)
          have hl := HL.out k (by omega)
          have HT : Hid (joinT E k ++ (⟨#[46]⟩ : ByteArray).data.toList ++ (E (1 + k)).data.toList = joinT E (k + 1)) := by show _ = _; rw [show 1 + k = k + 1 by omega]; rfl
          obtain ⟨s, hs'⟩ : ∃ s, E (1 + k) = s := ⟨_, rfl⟩
          rw [hs'] at x0 hs HT
          have i1 : (k : Int) < 2 := by omega
          have i2 : (0 : Int) ≤ (k : Int) := by omega
          have hz := hB.out.size
          clear hs'
          go_wp2_with fail
          refine (WriteString_walk w.heap.size w.heap.size _ ⟨#[46]⟩ wr hX.out (by have : (⟨#[46]⟩ : ByteArray).size = 1 := rfl; omega) hz).mono ?_
          rintro e w3 ⟨rfl, h3, hb3⟩
          have H3 := Lib.hid h3
          have HB3 := Lib.hid (hB.out.trans hb3)
          have hz3 : w.heap.size ≤ w3.heap.size := HB3.out.size
          clear h3 hb3 hX hB x0 hz
          go_wp2_with fail
          refine (WriteString_walk w.heap.size w.heap.size _ s w3 H3.out (by rw [List.length_append]; have : ([46] : List UInt8).length = 1 := rfl; omega) hz3).mono ?_
          rintro e w4 ⟨rfl, h4, hb4⟩
          have H4 : Hid (Bld w.heap.size w.heap.size (joinT E (k + 1)) w4) := by show Bld _ _ _ _; rw [← HT.out]; exact h4
          have HB4 := Lib.hid (HB3.out.trans hb4)
          clear h4 hb4 H3 HB3 HT
          go_wp2
          go_roundw
          case rel => exact ⟨k + 1, by omega, by go_num, H4, HB4⟩
          case measure => simp [intOf]; omega
        · have hk2' : k = 2 := by omega
          have i1 : ¬ (k : Int) < 2 := by omega
          have HX : Hid (Bld w.heap.size w.heap.size (joinT E 2) wr) := by rw [← hk2']; exact hX
          have hz := hB.out.size
          clear hX
          go_wp2_with fail
          refine (Tryz.Builder_String_any w.heap.size w.heap.size _ _ HX.out hz).mono ?_
          rintro e w5 ⟨rfl, hb5⟩
          have HB5 := Lib.hid (hB.out.trans hb5)
          clear hb5
          go_wp2
          go_ret
          exact ⟨rfl, HB5.out⟩
end Go.Proofs.YtinijohmdljieaaGreatDoor

namespace Go.Proofs.YtinijohmdljieaaGreatDoor
open Go.RowKit

theorem signs_decode (pos : Nat) (h : pos < 3) : ∃ R : Nat, Utf8.decode ⟨#[45, 95, 46]⟩ pos = (R, 1) ∧ R < 128 := by
  match pos, h with
  | 0, _ => exact ⟨45, by decide, by omega⟩
  | 1, _ => exact ⟨95, by decide, by omega⟩
  | 2, _ => exact ⟨46, by decide, by omega⟩

set_option maxHeartbeats 2000000 in
set_option maxRecDepth 100000 in
theorem IndexRune_error (w : World) :
    Calls Tryz.prog 142 #[.string ⟨#[45, 95, 46]⟩, .int .i32 65533] w fun e w' => e = .returned (.int .i64 (-1)) ∧ Below w.heap.size w w' := by
  go_enter Tryz.func142, Tryz.ntmps142
  go_wp2
  go_loopg [] 3 (fun gf wx => ∃ pos : Nat, wx.heap[w.heap.size]? = some (.stringIter ⟨#[45, 95, 46]⟩ pos) ∧ Below w.heap.size w wx ∧ pos ≤ 3 ∧ 3 ≤ pos + gf)
  case atStart => exact ⟨0, World.iter_heap w _ 0, (Below.refl _ w).alloc (Nat.le_refl _) _, by omega, by omega⟩
  case round =>
    obtain ⟨pos, hit, hbw, h3, hfu⟩ := hrel
    by_cases hps : pos < 3
    · obtain ⟨g', rfl⟩ : ∃ g', gk = g' + 1 := ⟨gk - 1, by omega⟩
      have hnx : ∀ ty, (Instr.next (.pointer (some ⟨w.heap.size, 0, none⟩)) true ty).run Tryz.prog wr = _ := fun ty => Lib.run_next_any_at wr w.heap.size ⟨#[45, 95, 46]⟩ pos ty hit hps
      obtain ⟨R, hd, hR⟩ := signs_decode pos hps
      rw [hd] at hnx
      have hne : ((R : Int) == 65533) = false := by simp; omega
      have hit2 := Lib.iterAt_heap wr w.heap.size ⟨#[45, 95, 46]⟩ pos (pos + 1) hit
      have hbw2 := Lib.below_iterAt hbw (k := w.heap.size) (Nat.le_refl _) ⟨#[45, 95, 46]⟩ (pos + 1)
      obtain ⟨W, hWd⟩ : ∃ W, wr.iterAt w.heap.size ⟨#[45, 95, 46]⟩ (pos + 1) = W := ⟨_, rfl⟩
      simp only [hWd] at hnx hit2 hbw2
      clear hd
      go_wp2
      go_roundg g'
      case measure => omega
      case rel => exact ⟨pos + 1, hit2, hbw2, by omega, by omega⟩
    · have hnx : ∀ ty, (Instr.next (.pointer (some ⟨w.heap.size, 0, none⟩)) true ty).run Tryz.prog wr = _ := fun ty => Lib.run_next_end_at wr w.heap.size ⟨#[45, 95, 46]⟩ pos ty hit hps
      go_wp2
      go_ret
      exact ⟨rfl, hbw⟩

theorem valid_yes {r : Int} (h : validRune r = true) : Lib.validRune r = true := by
  simp [validRune, Lib.validRune] at *; omega
theorem valid_no {r : Int} (h : validRune r = false) : Lib.validRune r = false := by
  simp [validRune, Lib.validRune] at *; omega

set_option maxHeartbeats 2000000 in
set_option maxRecDepth 100000 in
theorem IndexRune_bad (r : Int) (w : World) (h0 : 128 ≤ r) (h1 : validRune r = false) (h2 : r ≠ 65533) :
    Calls Tryz.prog 142 #[.string ⟨#[45, 95, 46]⟩, .int .i32 r] w fun e w' => e = .returned (.int .i64 (-1)) ∧ Below w.heap.size w w' := by
  have h3 : (r == 65533) = false := by simpa using h2
  have h4 := valid_no h1
  have h5 : decide (r < 128) = false := by simp; omega
  clear h1 h2
  go_enter Tryz.func142, Tryz.ntmps142
  go_wp2_with (go_at_call 175; refine (Tryz.utf8_ValidRune _ _).mono ?_; rintro e w' ⟨rfl, rfl⟩)
  go_ret
  exact ⟨rfl, Below.refl _ _⟩

theorem signs_none (a : Nat) (c : UInt8) (h : 128 ≤ c.toNat) : Lib.indexByte ((⟨#[45, 95, 46]⟩ : ByteArray).extract a 3).data.toList c = -1 := by
  have h1 : ∀ l : List UInt8, (∀ b ∈ l, b.toNat < 128) → Lib.indexByte l c = -1 := by
    intro l
    induction l with
    | nil => intro _; rfl
    | cons b l ih =>
      intro hl
      have hb := hl b (by simp)
      have hne : (b == c) = false := by
        simp only [beq_eq_false_iff_ne]; rintro rfl; omega
      simp [Lib.indexByte, hne, ih fun x hx => hl x (by simp [hx])]
  refine h1 _ fun b hb => ?_
  have h3 := mem_extract hb
  clear hb
  revert b; decide

set_option maxHeartbeats 2000000 in
set_option maxRecDepth 100000 in
theorem IndexRune_high (r : Int) (w : World) (h0 : 128 ≤ r) (h1 : validRune r = true) (h2 : r ≠ 65533) :
    Calls Tryz.prog 142 #[.string ⟨#[45, 95, 46]⟩, .int .i32 r] w fun e w' => e = .returned (.int .i64 (-1)) ∧ Below w.heap.size w w' := by
  have h3 : (r == 65533) = false := by simpa using h2
  have h4 := valid_yes h1
  have h5 : decide (r < 128) = false := by simp; omega
  obtain ⟨g1, g2, g3⟩ := encode_facts r (by rw [validRune_eq]; exact h1) h0
  generalize hrs : Utf8.encode r = rs at g1 g2 g3
  clear h1 h2
  have hc : rs.size = 2 ∨ rs.size = 3 ∨ rs.size = 4 := by omega
  rcases hc with hz | hz | hz
  · have hg : 128 ≤ (rs[1]'(by omega)).toNat := by
      have := g3 (by omega)
      simpa [hz] using this
    clear g1 g2 g3
    obtain ⟨c, hcc⟩ : ∃ c, rs[1]'(by omega) = c := ⟨_, rfl⟩
    rw [hcc] at hg
    have hne : ((((⟨#[45, 95, 46]⟩ : ByteArray)[1]'(by decide)).toNat : Int) != (c.toNat : Int)) = true := by
      have : ((⟨#[45, 95, 46]⟩ : ByteArray)[1]'(by decide)).toNat = 95 := by decide
      rw [this]; simp; omega
    have hc2 : (c.toNat : Int).toNat.toUInt8 = c := by simp
    have hix : Lib.indexByte [46] c = -1 := signs_none 2 c hg
    clear hg
    go_enter Tryz.func142, Tryz.ntmps142
    go_wp2_with (go_at_call 175; refine (Tryz.utf8_ValidRune _ _).mono ?_; rintro e w' ⟨rfl, rfl⟩)
    go_step3
    go_wp2
    refine wp_loop_rounds 1 ?_
    rw [rounds_succ]
    go_wp2
    go_step3
    go_wp2
    go_quiet (fail)
    go_wp2
    go_quiet ((go_at_call 121; exact q_same (Tryz.strings_IndexByte _ _ _)))
    go_wp2
    rw [Exit.noGoto_ret]
    go_wp2
    rw [Exit.noGoto_ret]
    go_ret
    exact ⟨rfl, below_drewN (Below.refl _ _) _⟩
  · have hg : 128 ≤ (rs[2]'(by omega)).toNat := by
      have := g3 (by omega)
      simpa [hz] using this
    clear g1 g2 g3
    obtain ⟨c, hcc⟩ : ∃ c, rs[2]'(by omega) = c := ⟨_, rfl⟩
    rw [hcc] at hg
    have hne : ((((⟨#[45, 95, 46]⟩ : ByteArray)[2]'(by decide)).toNat : Int) != (c.toNat : Int)) = true := by
      have : ((⟨#[45, 95, 46]⟩ : ByteArray)[2]'(by decide)).toNat = 46 := by decide
      rw [this]; simp; omega
    have hc2 : (c.toNat : Int).toNat.toUInt8 = c := by simp
    have hix : Lib.indexByte [] c = -1 := rfl
    clear hg
    go_enter Tryz.func142, Tryz.ntmps142
    go_wp2_with (go_at_call 175; refine (Tryz.utf8_ValidRune _ _).mono ?_; rintro e w' ⟨rfl, rfl⟩)
    go_step3
    go_wp2
    refine wp_loop_rounds 1 ?_
    rw [rounds_succ]
    go_wp2
    go_step3
    go_wp2
    go_quiet (fail)
    go_wp2
    go_quiet ((go_at_call 121; exact q_same (Tryz.strings_IndexByte _ _ _)))
    go_wp2
    rw [Exit.noGoto_ret]
    go_wp2
    rw [Exit.noGoto_ret]
    go_ret
    exact ⟨rfl, below_drewN (Below.refl _ _) _⟩
  · clear g1 g2 g3
    go_enter Tryz.func142, Tryz.ntmps142
    go_wp2_with (go_at_call 175; refine (Tryz.utf8_ValidRune _ _).mono ?_; rintro e w' ⟨rfl, rfl⟩)
    go_step3
    go_wp2
    refine wp_loop_rounds 1 ?_
    rw [rounds_succ]
    go_wp2
    rw [Exit.noGoto_ret]
    go_ret
    exact ⟨rfl, Below.refl _ _⟩

/-- one of the three signs -/
def sign (r : Nat) : Bool := r == 45 || r == 95 || r == 46

theorem IndexRune_none (r : Nat) (w : World) (h0 : 128 ≤ r) :
    Calls Tryz.prog 142 #[.string ⟨#[45, 95, 46]⟩, .int .i32 r] w fun e w' => e = .returned (.int .i64 (-1)) ∧ Below w.heap.size w w' := by
  by_cases h2 : (r : Int) = 65533
  · rw [h2]; exact IndexRune_error w
  cases h1 : validRune r
  · exact IndexRune_bad r w (by omega) h1 h2
  · exact IndexRune_high r w (by omega) h1 h2

theorem sign_low (r : Nat) (h : r < 128) : decide (0 ≤ Lib.indexByte [45, 95, 46] r.toUInt8) = sign r := by
  have : ∀ r, r < 128 → decide (0 ≤ Lib.indexByte [45, 95, 46] (Nat.toUInt8 r)) = sign r := by decide +kernel
  exact this r h

set_option maxHeartbeats 1000000 in
theorem ContainsRune_signs (r : Nat) (w : World) :
    Calls Tryz.prog 100 #[.string ⟨#[45, 95, 46]⟩, .int .i32 r] w fun e w' => e = .returned (.bool (sign r)) ∧ Below w.heap.size w w' := by
  by_cases h0 : r < 128
  · refine (Tryz.strings_ContainsRune_ascii _ _ _ (by omega) (by omega)).mono ?_
    rintro e w' ⟨rfl, rfl⟩
    exact ⟨ret_bool (sign_low r h0), Below.refl _ _⟩
  · have hs : sign r = false := by simp [sign]; omega
    rw [hs]
    go_enter Tryz.func100, Tryz.ntmps100
    go_wp2_with (go_at_call 142; refine (IndexRune_none _ _ (by omega)).mono ?_; rintro e w1 ⟨rfl, hb⟩)
    go_ret
    exact ⟨rfl, hb⟩
end Go.Proofs.YtinijohmdljieaaGreatDoor

namespace Go.Proofs.YtinijohmdljieaaGreatDoor
open Go.RowKit

set_option maxHeartbeats 1000000 in
theorem pass_named1 (w : World) : PredGrows Tryz.prog 159 #[] (fun r => !nmR r) w := fun W r hr _ => by
  have hs := ContainsRune_signs r W
  show Calls Tryz.prog 159 #[.int .i32 r] W fun e w' => e = .returned (.bool (!nmR r)) ∧ Below W.heap.size W w'
  by_cases h1 : (97 ≤ r ∧ r ≤ 122) ∨ (48 ≤ r ∧ r ≤ 57)
  · have hn : nmR r = true := by simp [nmR]; omega
    rw [hn]
    clear hs hn hr
    go_enter Tryz.func159, Tryz.ntmps159
    go_wp2_with fail
    all_goals first
      | (exfalso; omega)
      | (go_ret; exact ⟨ret_bool (by simp <;> omega), Below.refl _ _⟩)
  · have hn : nmR r = sign r := by rw [Bool.eq_iff_iff]; simp [nmR, sign]; omega
    rw [hn]
    clear hn hr
    generalize sign r = b at hs
    go_enter Tryz.func159, Tryz.ntmps159
    go_wp2_with (go_at_call 100; refine hs.mono ?_; rintro e w1 ⟨rfl, hb⟩)
    all_goals first
      | (exfalso; omega)
      | (go_ret; exact ⟨ret_bool (by simp <;> omega), by assumption⟩)

set_option maxHeartbeats 1000000 in
theorem pass_named (s : ByteArray) (w : World) (hs : s.size ≤ maxLen) :
    Calls Tryz.prog 122 #[.string s] w fun e w' => e = .returned (.bool (named s.data.toList)) ∧ Below w.heap.size w w' := by
  unfold maxLen at hs
  have cF := fun W => Tryz.strings_ContainsFunc_grows 159 #[] (enters_of Tryz.func159 (by kernel_rfl) rfl) _ s W (pass_named1 W)
  simp only [idx_named_all] at cF
  by_cases h0 : 0 < s.size
  · by_cases h1 : s.size ≤ 32
    · rw [named_mid h0 h1]
      generalize s.data.toList.all nmB = b at *
      have g0 : decide (0 < (s.size : Int)) = true := decide_eq_true (by omega)
      have g1 : decide ((s.size : Int) ≤ 32) = true := decide_eq_true (by omega)
      go_enter Tryz.func122, Tryz.ntmps122
      go_wp2_with (go_at_call 98; refine (cF _).mono ?_; rintro e w2 ⟨rfl, hb2⟩)
      go_ret
      exact ⟨ret_bool (by simp), hb2⟩
    · rw [named_long h1]
      have g0 : decide (0 < (s.size : Int)) = true := decide_eq_true (by omega)
      have g1 : decide ((s.size : Int) ≤ 32) = false := decide_eq_false (by omega)
      clear cF
      go_enter Tryz.func122, Tryz.ntmps122
      go_wp2_with fail
      go_ret
      exact ⟨rfl, Below.refl _ _⟩
  · rw [named_zero h0]
    have g0 : decide (0 < (s.size : Int)) = false := decide_eq_false (by omega)
    clear cF
    go_enter Tryz.func122, Tryz.ntmps122
    go_wp2_with fail
    go_ret
    exact ⟨rfl, Below.refl _ _⟩
def wordN (n : Nat) : Bool := decide (0 < n) && decide (n ≤ 64)
theorem pass_word (s : ByteArray) (w : World) (hs : s.size ≤ maxLen) :
    Calls Tryz.prog 75 #[.string s] w fun e w' => e = .returned (.bool (wordN s.size)) ∧ w = w' := by
  unfold maxLen at hs
  by_cases h0 : 0 < s.size
  · by_cases h1 : s.size ≤ 64
    · have g0 : decide (0 < (s.size : Int)) = true := decide_eq_true (by omega)
      have g1 : decide ((s.size : Int) ≤ 64) = true := decide_eq_true (by omega)
      go_enter Tryz.func75, Tryz.ntmps75
      go_wp2_with fail
      go_ret
      exact ⟨ret_bool (by simp [wordN, h0, h1]), rfl⟩
    · have g0 : decide (0 < (s.size : Int)) = true := decide_eq_true (by omega)
      have g1 : decide ((s.size : Int) ≤ 64) = false := decide_eq_false (by omega)
      go_enter Tryz.func75, Tryz.ntmps75
      go_wp2_with fail
      go_ret
      exact ⟨ret_bool (by simp [wordN, h0]; omega), rfl⟩
  · have g0 : decide (0 < (s.size : Int)) = false := decide_eq_false (by omega)
    go_enter Tryz.func75, Tryz.ntmps75
    go_wp2_with fail
    go_ret
    exact ⟨ret_bool (by simp [wordN, h0]), rfl⟩
end Go.Proofs.YtinijohmdljieaaGreatDoor

namespace Go.Proofs.YtinijohmdljieaaGreatDoor
open Go.RowKit

abbrev sessV (i : Int) (n : ByteArray) (u : Int) : Value := .agg #[.int .i64 i, .string n, .int .i64 u]
abbrev sessO (i : Int) (n : ByteArray) (u : Int) : Obj := .cells #[.int .i64 i, .string n, .int .i64 u] 90
theorem box3 (w : World) (i : Int) (n : ByteArray) (u : Int) (W : World) (hb : Below (w.heap.size + 1) (w.alloc (sessO i n u)) W) :
    W.cell? ⟨w.heap.size, 0, none⟩ = some (.int .i64 i) ∧ W.cell? ⟨w.heap.size, 1, none⟩ = some (.string n) ∧ W.cell? ⟨w.heap.size, 2, none⟩ = some (.int .i64 u) := by
  refine ⟨?_, ?_, ?_⟩ <;> (rw [hb.cell (by simp)]; go_simp)
theorem sess_bools (i : Int) (n : ByteArray) (u : Int) : decide (sessB ⟨i, n.data.toList, u⟩) = (decide (0 ≤ i) && decide (i ≤ 2147483647) && named n.data.toList && decide (0 ≤ u) && decide (u ≤ 1099511627776)) := by
  rw [Bool.eq_iff_iff, decide_eq_true_iff]
  simp [sessB, and_assoc]

set_option maxHeartbeats 2000000 in
set_option maxRecDepth 100000 in
theorem session_walk (i : Int) (n : ByteArray) (u : Int) (w : World) (hn : n.size ≤ maxLen) :
    Calls Tryz.prog 79 #[sessV i n u] w fun e w' => e = .returned (.bool (decide (sessB ⟨i, n.data.toList, u⟩))) ∧ Below w.heap.size w w' := by
  have HN := Lib.hid (fun W => pass_named n W hn)
  have HB0 : Hid (Below w.heap.size w (w.alloc (sessO i n u))) := (Below.refl _ _).alloc (Nat.le_refl _) _
  have HZ0 : Hid ((w.alloc (sessO i n u)).heap.size = w.heap.size + 1) := by show _ = _; simp
  have HX := Lib.hid (box3 w i n u)
  rw [sess_bools]
  generalize named n.data.toList = b3 at *
  generalize hb1 : decide (0 ≤ i) = b1
  generalize hb2 : decide (i ≤ 2147483647) = b2
  generalize hb4 : decide (0 ≤ u) = b4
  generalize hb5 : decide (u ≤ 1099511627776) = b5
  clear hn
  cases b1
  · go_enter Tryz.func79, Tryz.ntmps79
    go_wp2_with fail
    go_ret
    exact ⟨rfl, HB0.out⟩
  cases b2
  · go_enter Tryz.func79, Tryz.ntmps79
    go_wp2_with fail
    go_ret
    exact ⟨rfl, HB0.out⟩
  go_enter Tryz.func79, Tryz.ntmps79
  go_wp2_with fail
  refine (HN.out _).mono ?_
  rintro e w1 ⟨rfl, hb1⟩
  rw [HZ0.out] at hb1
  obtain ⟨x0, x1, x2⟩ := HX.out w1 hb1
  have HB1 : Hid (Below w.heap.size w w1) := HB0.out.trans (hb1.mono (by omega))
  clear hb1 HB0 HX HZ0
  cases b3
  · go_wp2_with fail
    go_ret
    exact ⟨rfl, HB1.out⟩
  cases b4
  · go_wp2_with fail
    go_ret
    exact ⟨rfl, HB1.out⟩
  cases b5 <;>
  · go_wp2_with fail
    go_ret
    exact ⟨rfl, HB1.out⟩
end Go.Proofs.YtinijohmdljieaaGreatDoor
