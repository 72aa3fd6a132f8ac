/- docketref17: Deep; guard.deep, at any guard. -/
import Derived.Test.YtkmgbkcpjlilpaaDoorGData
namespace Go.Proofs.YtkmgbkcpjlilpaaDoor
open Go.RowKit

set_option maxHeartbeats 4000000 in
set_option maxRecDepth 100000 in
theorem rfDeep_walk : ∀ (d : Nat) (g : GD) (cs : List Value) (w : World), g.deep ≤ d → d ≤ 1000000 → GIn w g cs →
    Calls Tryd.prog 19 #[.agg cs.toArray] w fun e w' => e = .returned (.int .i64 (g.deep : Int)) ∧ Below w.heap.size w w'
  | 0, g, _, _, h, _, _ => by rw [g.deep_eq] at h; omega
  | d + 1, g, cs, w, hd, hmax, h => by
    have HIH := Lib.hid (fun (g : GD) (cs : List Value) (w : World) (h1 : g.deep ≤ d) (h2 : GIn w g cs) => rfDeep_walk d g cs w h1 (by omega) h2)
    obtain ⟨k, n, sx, a, c, b, off, -, rfl, hl, -, hb, hk⟩ := h.kid
    have HK := Lib.hid hk
    have hde := g.deep_eq
    have HALL := Lib.hid (fun m (h : g.kids.length ≤ m) => (show GD.deeps (g.kids.take m) + 1 = g.deep by rw [List.take_of_length_le h, hde]))
    have HSUC := Lib.hid (fun m (h : m < g.kids.length) => deeps_take_succ (l := g.kids) h)
    have HLT := Lib.hid (fun m => (show GD.deeps (g.kids.take m) < g.deep by have := deeps_take_le g.kids m; omega))
    have HKD := Lib.hid (fun m (h : m < g.kids.length) => (show g.kids[m].deep < g.deep by have := deeps_mem (List.getElem_mem h); omega))
    have h00 : GD.deeps (g.kids.take 0) = 0 := rfl
    obtain ⟨l, hl'⟩ : ∃ l, g.kids.length = l := ⟨_, rfl⟩
    rw [hl'] at hb hl ⊢
    have HL := Lib.hid hl'
    unfold maxLen at hl
    obtain ⟨w1, hw1⟩ : ∃ w1, w.alloc (.cells #[.int .u8 k, .int .i64 n, .string sx, .slice a l c] 24) = w1 := ⟨_, rfl⟩
    have hb1 : Below w.heap.size w w1 := hw1 ▸ (Below.refl _ _).alloc (Nat.le_refl _) _
    have hx1 : w1.cell? ⟨w.heap.size, 3, none⟩ = some (.slice a l c) := hw1 ▸ (Arr.new w [.int .u8 k, .int .i64 n, .string sx, .slice a l c] _).cell (j := 3) (by simp)
    have HB1 := Lib.hid hb1
    have HX1 := Lib.hid hx1
    have HW1 := Lib.hid hw1
    clear hk hl' h hde hb1 hx1 hw1
    go_enter Tryd.func19, Tryd.ntmps19
    go_wp2_with fail
    rw [HW1.out]
    go_loopw [3, 4] (fun n i wr => ∃ m : Nat, m ≤ l ∧ n = .int .i64 (GD.deeps (g.kids.take m) : Int) ∧ i = .int .i64 (m : Int) ∧ Hid (Below w1.heap.size w1 wr)) (fun _ i _ => l - (intOf i).toNat)
    case atStart => exact ⟨0, Nat.zero_le _, by rw [h00]; rfl, rfl, Below.refl _ _⟩
    case round =>
      obtain ⟨m, hm, rfl, rfl, HB⟩ := hrel
      have z3 := (HB.out.cell (p := ⟨w.heap.size, 3, none⟩) (World.block_lt_of_cell? w1 _ HX1.out)).trans HX1.out
      have HBB := Lib.hid (HB1.out.trans (HB.out.mono HB1.out.size))
      by_cases hml : m < l
      · obtain ⟨rfl, hbl⟩ := hb (by omega)
        have i1 : (m : Int) < (l : Int) := by omega
        have i2 : (0 : Int) ≤ (m : Int) := by omega
        have hmk : m < g.kids.length := by rw [HL.out]; exact hml
        obtain ⟨c0, c1, c2, c3, y0, y1, y2, y3, hgi⟩ := HK.out m hmk
        replace y0 := (HBB.out.cell (p := ⟨b, off + m * 4, none⟩) hbl).trans y0
        replace y1 := (HBB.out.cell (p := ⟨b, off + m * 4 + 1, none⟩) hbl).trans y1
        replace y2 := (HBB.out.cell (p := ⟨b, off + m * 4 + 2, none⟩) hbl).trans y2
        replace y3 := (HBB.out.cell (p := ⟨b, off + m * 4 + 3, none⟩) hbl).trans y3
        obtain ⟨k2, n2, s2, a2, l2, cc2, he⟩ := hgi.four
        simp only [List.cons.injEq, and_true] at he
        obtain ⟨rfl, rfl, rfl, rfl⟩ := he
        have hkd := HKD.out m hmk
        have hIH := fun W (hb : Below w.heap.size w W) => HIH.out g.kids[m] _ W (by omega) (hgi.keepB hb)
        have hsu := HSUC.out m hmk
        obtain ⟨q, hq⟩ : ∃ q, g.kids[m].deep = q := ⟨_, rfl⟩
        rw [hq] at hIH hsu hkd
        have HIH2 := Lib.hid hIH
        have HSU := Lib.hid hsu
        have hlt1 := HLT.out m
        have wr1 : IntKind.i64.wrap ((m : Int) + 1) = (m : Int) + 1 := wrap_i64 (by omega) (by omega)
        clear hIH hsu hgi
        go_wp2_with fail
        refine (HIH2.out _ HBB.out).mono ?_
        rintro e w2 ⟨rfl, hb2⟩
        have HB2 := Lib.hid (HB.out.trans (hb2.mono HB.out.size))
        clear hb2 HIH2
        go_wp2_with fail
        refine ⟨⟨m + 1, by omega, ?_, rfl, HB2.out⟩, by simp only [intOf]; omega⟩
        rw [HSU.out]
        simp only [Value.int.injEq, true_and]
        omega
      · have hfin := HALL.out m (by rw [HL.out]; omega)
        have i1 : ¬ (m : Int) < (l : Int) := by omega
        have wr1 : IntKind.i64.wrap ((GD.deeps (g.kids.take m) : Int) + 1) = (g.deep : Int) := by rw [wrap_i64 (by omega) (by omega), ← hfin]; rfl
        clear hb hfin
        go_wp2_with fail
        go_ret
        exact ⟨rfl, HBB.out⟩
end Go.Proofs.YtkmgbkcpjlilpaaDoor
