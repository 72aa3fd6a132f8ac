/- docketlaw17.GuardReads returns true. -/
import Derived.Test.YtkmgbkcpjlilpaaDoorRfRead
import Derived.Test.YtkmgbkcpjlilpaaDoorRfSame
namespace Go.Proofs.YtkmgbkcpjlilpaaDoor
open Go.RowKit

abbrev zeroD : GD := .node 0 0 ⟨#[]⟩ []
theorem zero_gin (w : World) : GIn w zeroD zeroG := .mk 0 0 ⟨#[]⟩ [] none 0 0 0 (fun _ => []) (by simp) (Nat.le_refl _) (fun h => absurd h (by simp)) (fun m h => absurd h (by simp)) (fun m h => absurd h (by simp))
/-- what reading a text answers -/
def ReadA (s : ByteArray) (g : GD) (a c : Int) : Prop :=
  if 16384 < s.size then g = zeroD ∧ a = 0 ∧ c = 3
  else ∃ fu r, readG s fu = some r ∧ match r with
    | .ok t => g = t.toGD ∧ a = 0 ∧ c = 0
    | .error (p, q) => g = zeroD ∧ a = (p : Int) ∧ c = q
theorem ReadA.unique {s : ByteArray} {g g' : GD} {a a' c c' : Int} (h : ReadA s g a c) (h' : ReadA s g' a' c') : g = g' ∧ a = a' ∧ c = c' := by
  unfold ReadA at h h'
  split at h
  · rename_i hb
    rw [if_pos hb] at h'
    obtain ⟨rfl, rfl, rfl⟩ := h
    obtain ⟨rfl, rfl, rfl⟩ := h'
    exact ⟨rfl, rfl, rfl⟩
  · rename_i hb
    rw [if_neg hb] at h'
    obtain ⟨fu, r, h1, h2⟩ := h
    obtain ⟨fu', r', h1', h2'⟩ := h'
    obtain rfl := readG_fun h1 h1'
    cases r with
    | ok t =>
      obtain ⟨rfl, rfl, rfl⟩ := h2
      obtain ⟨rfl, rfl, rfl⟩ := h2'
      exact ⟨rfl, rfl, rfl⟩
    | error p =>
      obtain ⟨rfl, rfl, rfl⟩ := h2
      obtain ⟨rfl, rfl, rfl⟩ := h2'
      exact ⟨rfl, rfl, rfl⟩
theorem readG_deepLe {s : ByteArray} {f : Nat} {t : GT} (h : readG s f = some (.ok t)) : t.deep ≤ 32 := by
  unfold readG at h
  split at h
  · cases h
  · split at h
    · cases h
    · cases h
    · split at h
      · cases h
      · split at h
        · cases h
        · rename_i h32
          injection h with h; injection h with h; subst h
          omega
theorem ReadA.deep {s : ByteArray} {g : GD} {a c : Int} (h : ReadA s g a c) : g.deep ≤ 32 := by
  unfold ReadA at h
  split at h
  · obtain ⟨rfl, -⟩ := h; decide
  · obtain ⟨fu, r, h1, h2⟩ := h
    cases r with
    | ok t => obtain ⟨rfl, -⟩ := h2; rw [toGD_deep]; exact readG_deepLe h1
    | error p => obtain ⟨rfl, -⟩ := h2; decide
theorem ReadEnd.answer {s : ByteArray} {w w' : World} {e : Ending} (h : ReadEnd s w e w') : Below w.heap.size w w' ∧ ∃ g a c cs, e = .returned (.tuple #[.agg (List.toArray cs), .int .i64 a, .int .i64 c]) ∧ GIn w' g cs ∧ ReadA s g a c := by
  obtain ⟨hb, h⟩ := h
  refine ⟨hb, ?_⟩
  unfold ReadA
  split at h
  · rename_i hbig
    exact ⟨zeroD, 0, 3, zeroG, h, zero_gin _, by rw [if_pos hbig]; exact ⟨rfl, rfl, rfl⟩⟩
  · rename_i hbig
    obtain ⟨fu, r, h1, h2⟩ := h
    cases r with
    | ok t =>
      obtain ⟨cs, rfl, h3⟩ := h2
      exact ⟨t.toGD, 0, 0, cs, rfl, h3.gin, by rw [if_neg hbig]; exact ⟨fu, _, h1, rfl, rfl, rfl⟩⟩
    | error p =>
      obtain ⟨p, q⟩ := p
      exact ⟨zeroD, p, q, zeroG, h2, zero_gin _, by rw [if_neg hbig]; exact ⟨fu, _, h1, rfl, rfl, rfl⟩⟩
set_option maxHeartbeats 4000000 in
set_option maxRecDepth 100000 in
theorem guardReads_walk (s : ByteArray) (w : World) (hv : ∃ t p, w.cell? ⟨2, 0, none⟩ = some (.iface t p)) :
    Calls Tryd.prog 3 #[.string s] w fun e w' => e = .returned (.bool true) ∧ Below w.heap.size w w' := by
  by_cases hbig : 17000 < s.size
  · have i1 : (17000 : Int) < (s.size : Int) := by omega
    clear hbig hv
    go_enter Tryd.func3, Tryd.ntmps3
    go_wp2_with fail
    go_ret
    exact ⟨rfl, Below.refl _ _⟩
  · have i1 : ¬ (17000 : Int) < (s.size : Int) := by omega
    have HR := Lib.hid (Read_walk s w (by omega) hv)
    have HF := Lib.hid (fun W => rfRead_walk s W (by omega))
    clear hbig hv
    go_enter Tryd.func3, Tryd.ntmps3
    go_wp2_with fail
    refine HR.out.mono ?_
    intro e w2 hr
    obtain ⟨hb2, g, a, c, cs, rfl, hg, hA⟩ := hr.answer
    have HG2 := Lib.hid hg
    have HA := Lib.hid hA
    have HB2 := Lib.hid hb2
    obtain ⟨k1, n1, s1, a1, l1, c1, rfl⟩ := hg.four
    have hb3 := (Below.refl w2.heap.size w2).alloc (Nat.le_refl _) (.cells #[.int .u8 k1, .int .i64 n1, .string s1, .slice a1 l1 c1] 24)
    have HB3 := Lib.hid (hb2.trans (hb3.mono hb2.size))
    have HG3 := Lib.hid (hg.keepB hb3)
    have HC3 := Lib.hid (Arr.new w2 [.int .u8 k1, .int .i64 n1, .string s1, .slice a1 l1 c1] 24)
    clear HR hr hg hA hb2 hb3
    go_wp2_with fail
    refine (HF.out _).mono ?_
    intro e w4 hr
    obtain ⟨hb4, g', a', c', cs', rfl, hg', hA'⟩ := hr.answer
    obtain ⟨rfl, rfl, rfl⟩ := HA.out.unique hA'
    obtain ⟨k2, n2, s2, a2, l2, c2, rfl⟩ := hg'.four
    have hb5 := (Below.refl w4.heap.size w4).alloc (Nat.le_refl _) (.cells #[.int .u8 k2, .int .i64 n2, .string s2, .slice a2 l2 c2] 24)
    have hb45 := hb4.trans (hb5.mono hb4.size)
    have HB5 := Lib.hid (HB3.out.trans (hb45.mono HB3.out.size))
    have HG5 := Lib.hid (HG3.out.keepB hb45)
    have HC5 := Lib.hid (Arr.below HC3.out hb45 HC3.out.lt)
    have HG5' := Lib.hid (hg'.keepB hb5)
    have HC5' := Lib.hid (Arr.new w4 [.int .u8 k2, .int .i64 n2, .string s2, .slice a2 l2 c2] 24)
    have hzz : w2.heap.size < w4.heap.size := by have := hb4.size; rw [size_alloc] at this; omega
    clear HF hr hg' hA' hb4 hb5 hb45 HG3 HC3 HB3 HG2
    have x0 := HC5.out.cell (j := 0) (by simp)
    have x1 := HC5.out.cell (j := 1) (by simp)
    have x2 := HC5.out.cell (j := 2) (by simp)
    have x3 := HC5.out.cell (j := 3) (by simp)
    have y0 := HC5'.out.cell (j := 0) (by simp)
    have y1 := HC5'.out.cell (j := 1) (by simp)
    have y2 := HC5'.out.cell (j := 2) (by simp)
    have y3 := HC5'.out.cell (j := 3) (by simp)
    simp only [List.getElem_cons_zero, List.getElem_cons_succ] at x0 x1 x2 x3 y0 y1 y2 y3
    have HS := Lib.hid (rfSame_walk 100 g g _ _ _ (by have := HA.out.deep; omega) HG5.out HG5'.out)
    have e1 : (c == c) = true := by simp
    have e2 : (a == a) = true := by simp
    go_wp2_with fail
    refine HS.out.mono ?_
    rintro e w6 ⟨r, rfl, hr, hb6⟩
    obtain rfl : r = true := hr.2 rfl
    have HB6 := Lib.hid (HB5.out.trans (hb6.mono HB5.out.size))
    clear hb6 hr x0 x1 x2 x3 y0 y1 y2 y3
    go_wp2_with fail
    go_ret
    exact ⟨rfl, HB6.out⟩
end Go.Proofs.YtkmgbkcpjlilpaaDoor
