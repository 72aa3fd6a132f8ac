/- docketref17: Great; docketlaw17: great. -/
import Derived.Deep.RegionHeld3
import Derived.Deep.RegionWith
import Derived.Test.YtkmgbkcpjlilpaaDoorRfDeep
namespace Go.Proofs.YtkmgbkcpjlilpaaDoor
open Go.RowKit

/-- what was read is no larger than memory -/
def reachN : Nat := 140737488351232
mutual
def GD.fit : GD → Prop
  | .node _ _ s l => s.size ≤ reachN ∧ GD.fits l
def GD.fits : List GD → Prop
  | [] => True
  | x :: r => x.fit ∧ GD.fits r
end
theorem fits_mem {x : GD} : ∀ {l : List GD}, x ∈ l → GD.fits l → x.fit
  | y :: r, h, hr => by
    rw [GD.fits] at hr
    rcases List.mem_cons.1 h with rfl | h
    · exact hr.1
    · exact fits_mem h hr.2
theorem sizes_take_succ {l : List GD} {m : Nat} (h : m < l.length) : GD.sizes (l.take (m + 1)) = GD.sizes (l.take m) + l[m].size := by
  have key : ∀ (l : List GD) (x : GD), GD.sizes (l ++ [x]) = GD.sizes l + x.size := by
    intro l x
    induction l with
    | nil => simp [GD.sizes]
    | cons y r ih => rw [List.cons_append, GD.sizes, GD.sizes, ih]; omega
  rw [List.take_succ_eq_append_getElem h, key]
/-- how Great ends -/
def GreatV (g : GD) (dp V : Nat) : Prop := (V < 100000 → g.size = V ∧ g.deep + dp ≤ 51) ∧ V ≤ reachN + 1 + 100000 * (52 - dp)
theorem greatV_le {g : GD} {dp V : Nat} (h : GreatV g dp V) : V ≤ 140737500000000 := by
  have := h.2
  unfold reachN at this
  omega
set_option maxHeartbeats 4000000 in
set_option maxRecDepth 100000 in
theorem rfGreat_walk : ∀ (e dp : Nat) (g : GD) (cs : List Value) (w : World), 51 ≤ e + dp → dp ≤ 51 → g.fit → GIn w g cs →
    Calls Tryd.prog 20 #[.agg cs.toArray, .int .i64 (dp : Int)] w fun en w' => (∃ V : Nat, en = .returned (.int .i64 (V : Int)) ∧ GreatV g dp V) ∧ Below w.heap.size w w' := by
  intro e
  induction e with
  | zero =>
    intro dp g cs w he hdp hf h
    obtain rfl : dp = 51 := by omega
    obtain ⟨k, n, sx, a, c, b, off, -, rfl, -⟩ := h.kid
    clear h hf he hdp
    go_enter Tryd.func20, Tryd.ntmps20
    go_wp2_with fail
    go_ret
    exact ⟨⟨100000, rfl, fun h => absurd h (by omega), by unfold reachN; omega⟩, (Below.refl _ _).alloc (Nat.le_refl _) _⟩
  | succ e ih =>
    intro dp g cs w he hdp hf h
    by_cases h51 : dp = 51
    · subst h51
      obtain ⟨k, n, sx, a, c, b, off, -, rfl, -⟩ := h.kid
      clear h hf he hdp ih
      go_enter Tryd.func20, Tryd.ntmps20
      go_wp2_with fail
      go_ret
      exact ⟨⟨100000, rfl, fun h => absurd h (by omega), by unfold reachN; omega⟩, (Below.refl _ _).alloc (Nat.le_refl _) _⟩
    have HIH := Lib.hid (fun (g : GD) (cs : List Value) (w : World) (h1 : g.fit) (h2 : GIn w g cs) => (by have := ih (dp + 1) g cs w (by omega) (by omega) h1 h2; rw [show ((dp + 1 : Nat) : Int) = (dp : Int) + 1 by omega] at this; exact this : Calls Tryd.prog 20 #[.agg cs.toArray, .int .i64 ((dp : Int) + 1)] w fun en w' => (∃ V : Nat, en = .returned (.int .i64 (V : Int)) ∧ GreatV g (dp + 1) V) ∧ Below w.heap.size w w'))
    obtain ⟨k, n, sx, a, c, b, off, heg, rfl, hl, -, hb, hk⟩ := h.kid
    have HK := Lib.hid hk
    have hfit : sx.size ≤ reachN ∧ GD.fits g.kids := by rw [heg] at hf; exact hf
    have HF := Lib.hid (fun m (h : m < g.kids.length) => fits_mem (List.getElem_mem h) hfit.2)
    have hsz : g.size = 1 + sx.size + GD.sizes g.kids := by
      have : (GD.node k n sx g.kids).size = 1 + sx.size + GD.sizes g.kids := by rw [GD.size]
      rw [← heg] at this
      exact this
    have HSZ := Lib.hid hsz
    have HDE := Lib.hid g.deep_eq
    have HS1 := Lib.hid (fun m (h : m < g.kids.length) => sizes_take_succ (l := g.kids) h)
    have HD1 := Lib.hid (fun m (h : m < g.kids.length) => deeps_take_succ (l := g.kids) h)
    have hs47 := hfit.1
    unfold reachN at hs47
    obtain ⟨l, hl2⟩ : ∃ l, g.kids.length = l := ⟨_, rfl⟩
    rw [hl2] at hb hl ⊢
    have HL := Lib.hid hl2
    unfold maxLen at hl
    obtain ⟨w1, hw1⟩ : ∃ w1, w.alloc (.cells #[.int .u8 k, .int .i64 n, .string sx, .slice a l c] 24) = w1 := ⟨_, rfl⟩
    have hb1 : Below w.heap.size w w1 := hw1 ▸ (Below.refl _ _).alloc (Nat.le_refl _) _
    have hx1 : Arr w1 w.heap.size 24 [.int .u8 k, .int .i64 n, .string sx, .slice a l c] := hw1 ▸ Arr.new w [.int .u8 k, .int .i64 n, .string sx, .slice a l c] _
    have HB1 := Lib.hid hb1
    have HX1 := Lib.hid hx1
    have HW1 := Lib.hid hw1
    have hdp1 : ¬ (50 : Int) < (dp : Int) := by omega
    have wrd : IntKind.i64.wrap ((dp : Int) + 1) = (dp : Int) + 1 := wrap_i64 (by omega) (by omega)
    have wrs : IntKind.i64.wrap (1 + (sx.size : Int)) = ((1 + sx.size : Nat) : Int) := by rw [wrap_i64 (by omega) (by omega)]; omega
    clear hk hl2 h heg hf hfit hsz hb1 hx1 hw1 ih
    go_enter Tryd.func20, Tryd.ntmps20
    go_wp2_with fail
    rw [HW1.out]
    go_loopw [5, 6] (fun nv i wr => ∃ m V : Nat, m ≤ l ∧ nv = .int .i64 (V : Int) ∧ i = .int .i64 (m : Int) ∧ Hid ((V < 100000 → V = 1 + sx.size + GD.sizes (g.kids.take m) ∧ (GD.deeps (g.kids.take m) + 1 + dp ≤ 51)) ∧ V ≤ reachN + 1 + 100000 * (52 - dp)) ∧ Hid (Below w1.heap.size w1 wr)) (fun _ i _ => l - (intOf i).toNat)
    case atStart => exact ⟨0, 1 + sx.size, Nat.zero_le _, rfl, rfl, ⟨fun h => ⟨rfl, by show 0 + 1 + dp ≤ 51; omega⟩, by unfold reachN; omega⟩, Below.refl _ _⟩
    case round =>
      obtain ⟨m, V, hm, rfl, rfl, HV, HB⟩ := hrel
      have z3 := cellBelow2 HB.out (HX1.out.cell (j := 3) (by simp))
      simp only [List.getElem_cons_zero, List.getElem_cons_succ] at z3
      have HBB := Lib.hid (HB1.out.trans (HB.out.mono HB1.out.size))
      by_cases hml : m < l
      · have i1 : (m : Int) < (l : Int) := by omega
        by_cases hV : V < 100000
        · obtain ⟨rfl, hbl⟩ := hb (by omega)
          have i2 : (0 : Int) ≤ (m : Int) := by omega
          have i3 : (V : Int) < 100000 := by omega
          have hmk : m < g.kids.length := by rw [HL.out]; exact hml
          obtain ⟨c0, c1, c2, c3, y0, y1, y2, y3, hgi⟩ := HK.out m hmk
          replace y0 := (HBB.out.cell (p := ⟨b, off + m * 4, none⟩) hbl).trans y0
          replace y1 := (HBB.out.cell (p := ⟨b, off + m * 4 + 1, none⟩) hbl).trans y1
          replace y2 := (HBB.out.cell (p := ⟨b, off + m * 4 + 2, none⟩) hbl).trans y2
          replace y3 := (HBB.out.cell (p := ⟨b, off + m * 4 + 3, none⟩) hbl).trans y3
          obtain ⟨k2, n2, s2, a2, l2, cc2, he⟩ := hgi.four
          simp only [List.cons.injEq, and_true] at he
          obtain ⟨rfl, rfl, rfl, rfl⟩ := he
          have HIH2 := Lib.hid (fun W (hb : Below w.heap.size w W) => HIH.out g.kids[m] _ W (HF.out m hmk) (hgi.keepB hb))
          have hV1 := hV
          have HVL := Lib.hid hV
          have wr1 : IntKind.i64.wrap ((m : Int) + 1) = (m : Int) + 1 := wrap_i64 (by omega) (by omega)
          clear hgi hV
          go_wp2_with fail
          refine (HIH2.out _ HBB.out).mono ?_
          rintro en w2 ⟨⟨V2, rfl, hv2⟩, hb2⟩
          have HV2 := Lib.hid hv2
          have HB2 := Lib.hid (HB.out.trans (hb2.mono HB.out.size))
          have hle2 := greatV_le hv2
          have wr2 : IntKind.i64.wrap ((V : Int) + (V2 : Int)) = ((V + V2 : Nat) : Int) := by rw [wrap_i64 (by omega) (by omega)]; omega
          clear hv2 hb2 HIH2
          go_wp2_with fail
          have hs := HS1.out m hmk
          have hd2 := HD1.out m hmk
          refine ⟨⟨m + 1, V + V2, by omega, rfl, rfl, ⟨fun h => ?_, ?_⟩, HB2.out⟩, by simp only [intOf]; omega⟩
          · obtain ⟨q1, q2⟩ := HV.out.1 (by omega)
            obtain ⟨q3, q4⟩ := HV2.out.1 (by omega)
            rw [hs, hd2]
            exact ⟨by omega, by omega⟩
          · have q := HV2.out.2
            have := HVL.out
            omega
        · have i3 : ¬ (V : Int) < 100000 := by omega
          have HVL := Lib.hid hV
          clear hV hb
          go_wp2_with fail
          go_ret
          exact ⟨⟨V, rfl, fun h => absurd h HVL.out, HV.out.2⟩, HBB.out⟩
      · have i1 : ¬ (m : Int) < (l : Int) := by omega
        have HML : Hid (g.kids.take m = g.kids) := by show _ = _; rw [List.take_of_length_le (by rw [HL.out]; omega)]
        clear hb
        go_wp2_with fail
        go_ret
        refine ⟨⟨V, rfl, fun h => ?_, HV.out.2⟩, HBB.out⟩
        obtain ⟨q1, q2⟩ := HV.out.1 h
        rw [HML.out] at q1 q2
        exact ⟨by rw [HSZ.out]; omega, by rw [HDE.out]; omega⟩
set_option maxHeartbeats 4000000 in
set_option maxRecDepth 100000 in
theorem great_walk (g : GD) (cs : List Value) (w : World) (hf : g.fit) (h : GIn w g cs) :
    Calls Tryd.prog 9 #[.agg cs.toArray] w fun e w' => (∃ b : Bool, e = .returned (.bool b) ∧ (b = false → g.size ≤ 18000 ∧ g.deep ≤ 51)) ∧ Below w.heap.size w w' := by
  obtain ⟨k, n, sx, a, l, c, rfl⟩ := h.four
  have hb1 : Below w.heap.size w (w.alloc (.cells #[.int .u8 k, .int .i64 n, .string sx, .slice a l c] 24)) := (Below.refl _ _).alloc (Nat.le_refl _) _
  have HG := Lib.hid (rfGreat_walk 51 0 g _ _ (by omega) (by omega) hf (h.keepB hb1))
  have HB1 := Lib.hid hb1
  clear h hb1 hf
  go_enter Tryd.func9, Tryd.ntmps9
  go_wp2_with fail
  refine HG.out.mono ?_
  rintro e w2 ⟨⟨V, rfl, hv⟩, hb2⟩
  have HV := Lib.hid hv
  have HB2 := Lib.hid (HB1.out.trans (hb2.mono HB1.out.size))
  clear hv hb2 HG
  go_wp2_with fail
  go_ret
  refine ⟨⟨_, rfl, fun h => ?_⟩, HB2.out⟩
  have h : ¬ 18000 < (V : Int) := by simpa using h
  obtain ⟨q1, q2⟩ := HV.out.1 (by omega)
  exact ⟨by omega, by omega⟩
end Go.Proofs.YtkmgbkcpjlilpaaDoor
