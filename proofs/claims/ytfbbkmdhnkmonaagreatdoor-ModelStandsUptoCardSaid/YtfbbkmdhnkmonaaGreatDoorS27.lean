/- package guard: judged: what a node's kind is. -/
import Derived.Test.YtfbbkmdhnkmonaaGreatDoorS08
import Derived.Test.YtfbbkmdhnkmonaaGreatDoorS09
import Derived.Test.YtfbbkmdhnkmonaaGreatDoorS26
namespace Go.Proofs.YtfbbkmdhnkmonaaGreatDoor
open Go.RowKit

theorem elemU8 : Elem Tryz.prog 237 5 1 1 := ⟨Tryz.underlying237, ⟨.int .u8 0, by kernel_rfl, rfl⟩, by omega, Tryz.sizeOf5⟩
/-- how a node's kids are handed back -/
def KidsE (vs : List Value) (w : World) (e : Ending) (w' : World) : Prop := Below w.heap.size w w' ∧ ∃ a c b off, e = .returned (.slice a vs.length c) ∧ (0 < vs.length → a = some ⟨b, off, none⟩ ∧ b < w'.heap.size ∧ w.heap.size ≤ b) ∧ ∀ j u, vs[j]? = some u → w'.cell? ⟨b, off + j, none⟩ = some u
abbrev tup2 (r : Int × Int) : Ending := .returned (.tuple #[.int .u8 r.1, .int .i64 r.2])
set_option maxHeartbeats 4000000 in
set_option maxRecDepth 100000 in
theorem judged_gen (md : ModelD) (v : ModelV) (T : TypeId) (p : Value) (kF dF : FuncId) (ts : List GT) (vs : List Value) (R : Int × Int) (w : World)
    (hmk : ∀ W, (method 395 T p "docket/guard.kids").run Tryz.prog W = .ok (kF, p) W) (hmd : ∀ W, (method 395 T p "docket/guard.kind").run Tryz.prog W = .ok (dF, p) W) (hek : ∀ args W, (callFunc kF args).run Tryz.prog W = .ok (.enter kF args) W) (hed : ∀ args W, (callFunc dF args).run Tryz.prog W = .ok (.enter dF args) W) (hlen : vs.length = ts.length) (hl : ts.length ≤ 2)
    (hk : ∀ W, Calls Tryz.prog kF #[p] W (KidsE vs W))
    (hj : ∀ j (h : j < ts.length) (h' : j < vs.length) W, ModelM false (From 0) W md v → Calls Tryz.prog 156 #[vs[j], .agg (v.cs md).toArray] W (fun e w' => e = tup2 (judg md ts[j]) ∧ Below W.heap.size W w'))
    (hd : (∀ j (h : j < ts.length), (judg md ts[j]).2 = 0) → ∀ W base va vc, ModelM false (From 0) W md v → Own W base 5 1 va vc ts.length (ts.map fun t => .int .u8 (judg md t).1) → Calls Tryz.prog dF #[p, .agg (v.cs md).toArray, .slice va ts.length vc] W (fun e w' => e = tup2 R ∧ Below W.heap.size W w'))
    (hR : ∀ m (h : m < ts.length), (judg md ts[m]).2 ≠ 0 → (∀ j (hj : j < m), (judg md ts[j]).2 = 0) → R = (0, (judg md ts[m]).2))
    (hm : ModelM false (From 0) w md v) : Calls Tryz.prog 156 #[.iface T p, .agg (v.cs md).toArray] w (fun e w' => e = tup2 R ∧ Below w.heap.size w w') := by
  obtain ⟨w1, hw1⟩ : ∃ w1, w.alloc (.cells (v.cs md).toArray 31) = w1 := ⟨_, rfl⟩
  have hb1 : Below w.heap.size w w1 := hw1 ▸ (Below.refl _ _).alloc (Nat.le_refl _) _
  have hx1 : Arr w1 w.heap.size 31 (v.cs md) := hw1 ▸ Arr.new w (v.cs md) _
  have HK := Lib.hid (hk w1)
  have HJ := Lib.hid hj
  have HD := Lib.hid hd
  have HR := Lib.hid hR
  have HM := Lib.hid hm
  have HB1 := Lib.hid hb1
  have HX1 := Lib.hid hx1
  have HW1 := Lib.hid hw1
  obtain ⟨n, hn⟩ : ∃ n, ts.length = n := ⟨_, rfl⟩
  rw [hn] at hlen hl
  have HN := Lib.hid hn
  have HVL := Lib.hid hlen
  clear hk hj hd hR hm hb1 hx1 hw1 hn
  go_enter Tryz.func156, Tryz.ntmps156
  go_upto_region 1 with fail
  rw [HW1.out]
  go_wp2_with fail
  refine HK.out.mono ?_
  rintro e w2 ⟨hb2, a, c, b, off, rfl, ha, hcell⟩
  rw [hlen] at ha ⊢
  have HB2 := Lib.hid (HB1.out.trans (hb2.mono HB1.out.size))
  have HB12 := Lib.hid hb2
  have HA := Lib.hid ha
  have HC := Lib.hid hcell
  clear hb2 hcell HK
  go_wp2_with fail
  go_loopw [6, 14] (fun l i wr => ∃ m : Nat, m ≤ n ∧ i = .int .i64 (m : Int) ∧ ∃ va vc, l = .slice va m vc ∧ Hid (Own wr w2.heap.size 5 1 va vc m ((ts.take m).map fun t => .int .u8 (judg md t).1)) ∧ Hid (Below w2.heap.size w2 wr) ∧ Hid (∀ j (h : j < ts.length), j < m → (judg md ts[j]).2 = 0)) (fun _ i _ => n - (intOf i).toNat)
  case atStart => exact ⟨0, Nat.zero_le _, rfl, none, 0, rfl, Own.nil _ _ _ _, Below.refl _ _, fun j _ h => absurd h (Nat.not_lt_zero _)⟩
  case round =>
    obtain ⟨m, hmn, rfl, va, vc, rfl, HO, HB, HZ⟩ := hrel
    have hb13 : Below w1.heap.size w1 wr := HB12.out.trans (HB.out.mono HB12.out.size)
    have HB3 := Lib.hid (HB2.out.trans (HB.out.mono HB2.out.size))
    obtain ⟨y0, y1, y2, y3, y4, y5⟩ := box6 HX1.out hb13
    clear hb13
    by_cases hml : m < n
    · have i1 : (m : Int) < (n : Int) := by omega
      have i2 : (0 : Int) ≤ (m : Int) := by omega
      obtain ⟨rfl, hbl, -⟩ := HA.out (by omega)
      have hmv : m < vs.length := by rw [HVL.out]; exact hml
      have hmt : m < ts.length := by rw [HN.out]; exact hml
      have c0 : wr.cell? ⟨b, off + m, none⟩ = some vs[m] := cellBelow2 HB.out (HC.out m _ (List.getElem?_eq_getElem hmv))
      have hJ := HJ.out m hmt hmv wr (HM.out.grow HB3.out)
      obtain ⟨r, hr⟩ : ∃ r, judg md ts[m] = r := ⟨_, rfl⟩
      obtain ⟨u, hu⟩ : ∃ u, vs[m] = u := ⟨_, rfl⟩
      rw [hr, hu] at hJ
      rw [hu] at c0
      have HJ2 := Lib.hid hJ
      have HRR := Lib.hid hr
      have HML := Lib.hid hml
      clear hJ hr hu hml
      go_wp2_with fail
      refine HJ2.out.mono ?_
      rintro e w4 ⟨rfl, hb4⟩
      have HB4 := Lib.hid (HB3.out.trans (hb4.mono HB3.out.size))
      have HB24 := Lib.hid (HB.out.trans (hb4.mono HB.out.size))
      have HO4 := Lib.hid (HO.out.below hb4 (Nat.le_refl _))
      clear hb4 HJ2 HB HO y0 y1 y2 y3 y4 y5 c0
      by_cases hz : r.2 = 0
      · have e1 : (r.2 != 0) = false := by simp [hz]
        have HZ2 := Lib.hid hz
        obtain ⟨w5, hw5⟩ : ∃ w5, w4.alloc (.cells #[.int .u8 r.1] 5) = w5 := ⟨_, rfl⟩
        have hc5 : w5.cell? ⟨w4.heap.size, 0, none⟩ = some (.int .u8 r.1) := hw5 ▸ (Arr.new w4 [.int .u8 r.1] _).cell (j := 0) (by simp)
        have hb5 : Below w2.heap.size w2 w5 := hw5 ▸ HB24.out.alloc HB24.out.size _
        have ho5 := (show Own w5 w2.heap.size 5 1 va vc m _ from hw5 ▸ HO4.out.alloc _)
        obtain ⟨va', vc', w6, hap, ho6, hg6⟩ := Own.app elemU8 237 ho5 hb5.size (some ⟨w4.heap.size, 0, none⟩) 1 1 w4.heap.size 0 [.int .u8 r.1] rfl (fun _ => rfl) (fun j u hj => by
          cases j with
          | zero => simp at hj; subst hj; exact hc5
          | succ j => simp at hj) (fun u hu => by rw [List.mem_singleton.1 hu]; rfl) (by unfold maxLen; omega) (by omega)
        rw [← hw5] at hap
        have HAP := Lib.hid hap
        have HO6 : Hid (Own w6 w2.heap.size 5 1 va' vc' (m + 1) ((ts.take (m + 1)).map fun t => .int .u8 (judg md t).1)) := by
          have e : (ts.take (m + 1)).map (fun t => Value.int .u8 (judg md t).1) = (ts.take m).map (fun t => Value.int .u8 (judg md t).1) ++ [.int .u8 r.1] := by
            rw [List.take_succ_eq_append_getElem hmt, List.map_append, ← HRR.out]; rfl
          rw [e]; exact ho6
        have HB6 := Lib.hid (hb5.grown hg6 hb5.size (fun j hj => by
          rcases ho5.block with ⟨h1, _⟩ | ⟨g, h1, h2, _⟩
          · rw [h1] at hj; cases hj
          · rw [h1] at hj; cases hj; exact h2))
        have wr1 : IntKind.i64.wrap ((m : Int) + 1) = (m : Int) + 1 := wrap_i64 (by omega) (by omega)
        have HZ6 : Hid (∀ j (h : j < ts.length), j < m + 1 → (judg md ts[j]).2 = 0) := fun j h hj => by
          rcases Nat.lt_or_ge j m with h1 | h1
          · exact HZ.out j h h1
          · obtain rfl : j = m := by omega
            rw [HRR.out]; exact HZ2.out
        clear hc5 hb5 ho5 hap ho6 hg6 hw5 hz HO4 HRR HJ HD HR HZ
        go_wp2_with (at_builtin; refine wpList_append_run (by rfl) (.tmp 27) (.tmp 29) 237 (by rfl) (by rfl) (by rfl) HAP.out ?_)
        refine ⟨⟨m + 1, by have := HML.out; omega, by go_num, va', vc', rfl, HO6, HB6, HZ6⟩, by simp only [intOf]; have := HML.out; omega⟩
      · have e1 : (r.2 != 0) = true := by simpa using hz
        have HRE : Hid (R = (0, r.2)) := by
          show _ = _
          rw [← HRR.out]
          exact HR.out m hmt (by rw [HRR.out]; exact hz) (fun j hj => HZ.out j (by omega) hj)
        clear hz HJ HD HR HZ HRR HO4 HB24
        go_wp2_with fail
        go_ret2
        rw [HRE.out]
        exact ⟨rfl, HB4.out⟩
    · obtain rfl : m = n := by omega
      have i1 : ¬ (m : Int) < (m : Int) := by omega
      have hown := HO.out
      rw [List.take_of_length_le (by rw [HN.out]; omega)] at hown
      have hD := HD.out (fun j h => HZ.out j h (by rw [← HN.out]; exact h)) wr w2.heap.size va vc (HM.out.grow HB3.out)
      rw [HN.out] at hD
      have HDD := Lib.hid (hD hown)
      clear hD hown HJ HD HR HZ HO HB
      go_wp2_with fail
      refine HDD.out.mono ?_
      rintro e w4 ⟨rfl, hb4⟩
      have HB4 := Lib.hid (HB3.out.trans (hb4.mono HB3.out.size))
      clear hb4 HDD
      go_wp2_with fail
      go_ret2
      exact ⟨rfl, HB4.out⟩
theorem stageIx_le (md : ModelD) (s : ByteArray) : -1 ≤ stageIx md s ∧ stageIx md s < md.stages.length := ixOf_le _ _
theorem stoneIx_le (md : ModelD) (s : ByteArray) : -1 ≤ stoneIx md s ∧ stoneIx md s < md.stones.length := ixOf_le _ _
theorem attrIx_le (md : ModelD) (s : ByteArray) : -1 ≤ attrIx md s ∧ attrIx md s < md.attrs.length := ixOf_le _ _
set_option maxHeartbeats 4000000 in
set_option maxRecDepth 100000 in
theorem leafKids (k : Nat) (n : Int) (s : ByteArray) (a : Option Addr) (c : Nat) (w : World) : Calls Tryz.prog 230 #[.agg #[.int .u8 k, .int .i64 n, .string s, .slice a 0 c]] w (KidsE [] w) := by
  go_enter Tryz.func230, Tryz.ntmps230
  go_wp2_with fail
  go_ret
  exact ⟨(Below.refl _ _).alloc (Nat.le_refl _) _, none, 0, 0, 0, rfl, fun h => absurd h (by simp), fun j u h => absurd h (by simp)⟩
set_option maxHeartbeats 4000000 in
set_option maxRecDepth 100000 in
theorem oneKids (T : TypeId) (p : Value) (w : World) : Calls Tryz.prog 239 #[.agg #[.iface T p]] w (KidsE [.iface T p] w) := by
  go_enter Tryz.func239, Tryz.ntmps239
  go_wp2_with fail
  go_ret
  refine ⟨((Below.refl _ _).alloc (Nat.le_refl _) _).alloc (by rw [size_alloc]; omega) _, _, _, w.heap.size + 1, 0, rfl, fun _ => ⟨rfl, by rw [size_alloc, size_alloc]; omega, by omega⟩, fun j u h => ?_⟩
  have h0 := (Arr.new (w.alloc (.cells #[.iface T p] 209)) [.iface T p] 133).cell (j := 0) (by simp)
  rw [size_alloc] at h0
  cases j with
  | zero => simp at h; subst h; exact h0
  | succ j => simp at h
set_option maxHeartbeats 4000000 in
set_option maxRecDepth 100000 in
theorem pairKids (k : Nat) (n : Int) (s : ByteArray) (a : Option Addr) (l c : Nat) (T T2 : TypeId) (p p2 : Value) (w : World) : Calls Tryz.prog 243 #[.agg #[.int .u8 k, .int .i64 n, .string s, .slice a l c, .iface T p, .iface T2 p2]] w (KidsE [.iface T p, .iface T2 p2] w) := by
  go_enter Tryz.func243, Tryz.ntmps243
  go_wp2_with fail
  go_ret
  refine ⟨((Below.refl _ _).alloc (Nat.le_refl _) _).alloc (by rw [size_alloc]; omega) _, _, _, w.heap.size + 1, 0, rfl, fun _ => ⟨rfl, by rw [size_alloc, size_alloc]; omega, by omega⟩, fun j u h => ?_⟩
  have hA := Arr.new (w.alloc (.cells #[.int .u8 k, .int .i64 n, .string s, .slice a l c, .iface T p, .iface T2 p2] 211)) [.iface T p, .iface T2 p2] 133
  have h0 := hA.cell (j := 0) (by simp)
  have h1 := hA.cell (j := 1) (by simp)
  rw [size_alloc] at h0 h1
  match j, h with
  | 0, h => simp at h; subst h; exact h0
  | 1, h => simp at h; subst h; exact h1
  | j + 2, h => simp at h
set_option maxHeartbeats 8000000 in
set_option maxRecDepth 100000 in
theorem leafKindK (K : Int) (md : ModelD) (v : ModelV) (k : Nat) (hK : (k : Int) = K) (n : Int) (s : ByteArray) (a va : Option Addr) (c vn vc : Nat) (w : World) (hk : 1 ≤ k ∧ k ≤ 7) (hz : md.Sml) (hm : ModelM false (From 0) w md v) :
    Calls Tryz.prog 231 #[.agg #[.int .u8 K, .int .i64 n, .string s, .slice a 0 c], .agg (v.cs md).toArray, .slice va vn vc] w (fun e w' => e = tup2 (judg md (.leaf k n s)) ∧ Below w.heap.size w w') := by
  obtain ⟨w0, hw0⟩ : ∃ w0, w.alloc (.cells #[.int .u8 K, .int .i64 n, .string s, .slice a 0 c] 138) = w0 := ⟨_, rfl⟩
  obtain ⟨w1, hw1⟩ : ∃ w1, w0.alloc (.cells (v.cs md).toArray 31) = w1 := ⟨_, rfl⟩
  have hz0 : w0.heap.size = w.heap.size + 1 := by rw [← hw0, size_alloc]
  have hb0 : Below w.heap.size w w0 := hw0 ▸ (Below.refl _ _).alloc (Nat.le_refl _) _
  have hb01 : Below w0.heap.size w0 w1 := hw1 ▸ (Below.refl _ _).alloc (Nat.le_refl _) _
  have hb1 : Below w.heap.size w w1 := hb0.trans (hb01.mono hb0.size)
  have hL : Arr w1 w.heap.size 138 [.int .u8 K, .int .i64 n, .string s, .slice a 0 c] := hw1 ▸ (show Arr w0 _ _ _ from hw0 ▸ Arr.new w _ _).alloc _
  have hX : Arr w1 (w.heap.size + 1) 31 (v.cs md) := by
    have := Arr.new w0 (v.cs md) 31
    rw [hz0] at this
    exact hw1 ▸ this
  have HB1 := Lib.hid hb1
  have HL := Lib.hid hL
  have HX := Lib.hid hX
  have HM1 := Lib.hid (hm.grow hb1)
  have HW : Hid ((w.alloc (.cells #[.int .u8 K, .int .i64 n, .string s, .slice a 0 c] 138)).alloc (.cells (v.cs md).toArray 31) = w1) := by
    show _ = _
    rw [hw0]; exact hw1
  have egA : ∀ args w, (callFunc 234 args).run Tryz.prog w = .ok (.enter 234 args) w := enters_of Tryz.func234 (by kernel_rfl) rfl
  obtain ⟨z0, z1, z2, z3⟩ := box4 hL (Below.refl _ _)
  obtain ⟨y0, y1, y2, y3, y4, y5⟩ := box6 hX (Below.refl _ _)
  have HIA := Lib.hid (ixAttrM 234 #[.pointer (some ⟨w.heap.size, 0, none⟩)] egA md.attrs s _ _ w1 hz.attrs (HM1.out).attrs (attrCl s w.heap.size w1 hL.lt z2))
  have HIS := Lib.hid (guardStage md v s w1 hz.stages HM1.out)
  have HIT := Lib.hid (guardStone md v s w1 hz.stones HM1.out)
  clear hz hm hb0 hb01 hb1 hL hX hw0 hw1 egA
  have : k = 1 ∨ k = 2 ∨ k = 3 ∨ k = 4 ∨ k = 5 ∨ k = 6 ∨ k = 7 := by omega
  clear hk
  rcases this with rfl | rfl | rfl | rfl | rfl | rfl | rfl
  · obtain rfl : K = 1 := by omega
    go_enter Tryz.func231, Tryz.ntmps231
    go_upto_region 1 with fail
    rw [HW.out]
    go_wp2_with fail
    go_ret2
    exact ⟨rfl, HB1.out⟩
  · obtain rfl : K = 2 := by omega
    go_enter Tryz.func231, Tryz.ntmps231
    go_upto_region 1 with fail
    rw [HW.out]
    go_wp2_with fail
    go_ret2
    exact ⟨rfl, HB1.out⟩
  · obtain rfl : K = 3 := by omega
    go_enter Tryz.func231, Tryz.ntmps231
    go_upto_region 1 with fail
    rw [HW.out]
    go_wp2_with fail
    go_ret2
    exact ⟨rfl, HB1.out⟩
  · obtain rfl : K = 4 := by omega
    go_enter Tryz.func231, Tryz.ntmps231
    go_upto_region 1 with fail
    rw [HW.out]
    go_wp2_with fail
    go_ret2
    exact ⟨rfl, HB1.out⟩
  · obtain rfl : K = 5 := by omega
    obtain ⟨i, hi⟩ : ∃ i, attrIx md s = i := ⟨_, rfl⟩
    have hile := attrIx_le md s
    have hIA := HIA.out
    rw [show ixOf (fun x : AttrD => x.name.toList == s.toList) md.attrs = i from hi] at hIA
    rw [hi] at hile
    have HIA2 := Lib.hid hIA
    have HI := Lib.hid hi
    clear hIA hi HIA HIS HIT
    go_enter Tryz.func231, Tryz.ntmps231
    go_upto_region 1 with fail
    rw [HW.out]
    go_wp2_with fail
    refine HIA2.out.mono ?_
    rintro e w2 ⟨rfl, hb2⟩
    have HB2 := Lib.hid (HB1.out.trans (hb2.mono HB1.out.size))
    have HM2 := Lib.hid (HM1.out.grow hb2)
    clear z0 z1 z2 z3 y0 y1 y2 y3 y4 y5
    obtain ⟨z0, z1, z2, z3⟩ := box4 HL.out hb2
    obtain ⟨y0, y1, y2, y3, y4, y5⟩ := box6 HX.out hb2
    clear hb2 HIA2
    by_cases hneg : i < 0
    · have HR : Hid (judg md (.leaf 5 n s) = (0, 6)) := by
        show _ = _
        simp only [judg, HI.out, if_pos hneg]; rfl
      clear HI
      go_wp2_with fail
      go_ret2
      rw [HR.out]
      exact ⟨rfl, HB2.out⟩
    · obtain ⟨m, rfl⟩ : ∃ m : Nat, i = m := ⟨i.toNat, by omega⟩
      have hml : m < md.attrs.length := by omega
      have i2 : (m : Int) < (md.attrs.length : Int) := by omega
      have i3 : (0 : Int) ≤ (m : Int) := by omega
      obtain ⟨_, _, b, off, hv, -, hC⟩ := flat_open HM2.out.attrs
      injection hv with e1 e2 e3
      obtain ⟨ha, -, hbl⟩ := hC.at0 (by omega)
      rw [← e1] at ha
      rw [ha] at y1
      have c1 : w2.cell? ⟨b, off + m * 2 + 1, none⟩ = some (.int .u8 md.attrs[m].kind) := hC.cell m hml 1 _ rfl
      obtain ⟨q, hq⟩ : ∃ q, md.attrs[m].kind = q := ⟨_, rfl⟩
      rw [hq] at c1
      have HR : Hid (judg md (.leaf 5 n s) = if q < 1 ∨ 3 < q then (0, 171) else (q, 0)) := by
        show _ = _
        have hg : md.attrs[m]? = some md.attrs[m] := List.getElem?_eq_getElem hml
        simp only [judg, HI.out, if_neg hneg, Int.toNat_natCast, hg, hq]; rfl
      clear hC e1 e2 e3 ha hq HI
      by_cases h1 : q < 1
      · have HR2 : Hid (judg md (.leaf 5 n s) = (0, 171)) := by
          show _ = _
          rw [HR.out, if_pos (.inl h1)]
        go_wp2_with fail
        go_ret2
        rw [HR2.out]
        exact ⟨rfl, HB2.out⟩
      · by_cases h3 : 3 < q
        · have HR2 : Hid (judg md (.leaf 5 n s) = (0, 171)) := by
            show _ = _
            rw [HR.out, if_pos (.inr h3)]
          go_wp2_with fail
          go_ret2
          rw [HR2.out]
          exact ⟨rfl, HB2.out⟩
        · have HR2 : Hid (judg md (.leaf 5 n s) = (q, 0)) := by
            show _ = _
            rw [HR.out, if_neg (by omega)]
          go_wp2_with fail
          go_ret2
          rw [HR2.out]
          exact ⟨rfl, HB2.out⟩
  · obtain rfl : K = 6 := by omega
    obtain ⟨i, hi⟩ : ∃ i, stageIx md s = i := ⟨_, rfl⟩
    have hIS := HIS.out
    rw [hi] at hIS
    have HIS2 := Lib.hid hIS
    have HR : Hid (judg md (.leaf 6 n s) = if i < 0 then (0, 6) else (1, 0)) := by
      show _ = _
      simp only [judg, hi]; rfl
    clear hIS hi HIA HIS HIT
    go_enter Tryz.func231, Tryz.ntmps231
    go_upto_region 1 with fail
    rw [HW.out]
    go_wp2_with fail
    refine HIS2.out.mono ?_
    rintro e w2 ⟨rfl, hb2⟩
    have HB2 := Lib.hid (HB1.out.trans (hb2.mono HB1.out.size))
    clear hb2 HIS2
    by_cases hneg : i < 0
    · have HR2 : Hid (judg md (.leaf 6 n s) = (0, 6)) := by
        show _ = _
        rw [HR.out, if_pos hneg]
      go_wp2_with fail
      go_ret2
      rw [HR2.out]
      exact ⟨rfl, HB2.out⟩
    · have HR2 : Hid (judg md (.leaf 6 n s) = (1, 0)) := by
        show _ = _
        rw [HR.out, if_neg hneg]
      go_wp2_with fail
      go_ret2
      rw [HR2.out]
      exact ⟨rfl, HB2.out⟩
  · obtain rfl : K = 7 := by omega
    obtain ⟨i, hi⟩ : ∃ i, stoneIx md s = i := ⟨_, rfl⟩
    have hIS := HIT.out
    rw [hi] at hIS
    have HIS2 := Lib.hid hIS
    have HR : Hid (judg md (.leaf 7 n s) = if i < 0 then (0, 6) else (1, 0)) := by
      show _ = _
      simp only [judg, hi]; rfl
    clear hIS hi HIA HIS HIT
    go_enter Tryz.func231, Tryz.ntmps231
    go_upto_region 1 with fail
    rw [HW.out]
    go_wp2_with fail
    refine HIS2.out.mono ?_
    rintro e w2 ⟨rfl, hb2⟩
    have HB2 := Lib.hid (HB1.out.trans (hb2.mono HB1.out.size))
    clear hb2 HIS2
    by_cases hneg : i < 0
    · have HR2 : Hid (judg md (.leaf 7 n s) = (0, 6)) := by
        show _ = _
        rw [HR.out, if_pos hneg]
      go_wp2_with fail
      go_ret2
      rw [HR2.out]
      exact ⟨rfl, HB2.out⟩
    · have HR2 : Hid (judg md (.leaf 7 n s) = (1, 0)) := by
        show _ = _
        rw [HR.out, if_neg hneg]
      go_wp2_with fail
      go_ret2
      rw [HR2.out]
      exact ⟨rfl, HB2.out⟩
theorem leafKind (md : ModelD) (v : ModelV) (k : Nat) (n : Int) (s : ByteArray) (a va : Option Addr) (c vn vc : Nat) (w : World) (hk : 1 ≤ k ∧ k ≤ 7) (hz : md.Sml) (hm : ModelM false (From 0) w md v) :
    Calls Tryz.prog 231 #[.agg #[.int .u8 k, .int .i64 n, .string s, .slice a 0 c], .agg (v.cs md).toArray, .slice va vn vc] w (fun e w' => e = tup2 (judg md (.leaf k n s)) ∧ Below w.heap.size w w') := leafKindK _ md v k rfl n s a va c vn vc w hk hz hm
set_option maxHeartbeats 8000000 in
set_option maxRecDepth 100000 in
theorem oneKind (md : ModelD) (v : ModelV) (T : TypeId) (p : Value) (x : Int) (base : Nat) (va : Option Addr) (vc : Nat) (w : World) (ho : Own w base 5 1 va vc 1 [.int .u8 x]) :
    Calls Tryz.prog 240 #[.agg #[.iface T p], .agg (v.cs md).toArray, .slice va 1 vc] w (fun e w' => e = tup2 (if x = 1 then (1, 0) else (0, 171)) ∧ Below w.heap.size w w') := by
  obtain ⟨g, rfl, -, hg, hc, -⟩ := ho.cell (by omega)
  have c0 := hc 0 _ rfl
  clear ho hc
  by_cases h1 : x = 1
  · subst h1
    go_enter Tryz.func240, Tryz.ntmps240
    go_wp2_with fail
    go_ret2
    exact ⟨rfl, ((Below.refl _ _).alloc (Nat.le_refl _) _).alloc (by rw [size_alloc]; omega) _⟩
  · have e1 : (x != 1) = true := by simpa using h1
    rw [if_neg h1]
    clear h1
    go_enter Tryz.func240, Tryz.ntmps240
    go_wp2_with fail
    go_ret2
    exact ⟨rfl, ((Below.refl _ _).alloc (Nat.le_refl _) _).alloc (by rw [size_alloc]; omega) _⟩
/-- a pair's kind by its kids' kinds -/
def pairK (k : Nat) (x y : Int) : Int × Int := if k = 9 ∨ k = 10 then (if x = 1 ∧ y = 1 then (1, 0) else (0, 171)) else if k = 11 then (if y = x then (1, 0) else (0, 171)) else if x = 2 ∧ y = 2 then (if k = 12 then 1 else 2, 0) else (0, 171)
set_option maxHeartbeats 8000000 in
set_option maxRecDepth 100000 in
theorem pairKind (md : ModelD) (v : ModelV) (k : Nat) (n : Int) (s : ByteArray) (a : Option Addr) (l c : Nat) (T T2 : TypeId) (p p2 : Value) (x y : Int) (base : Nat) (va : Option Addr) (vc : Nat) (w : World) (hk : 9 ≤ k ∧ k ≤ 15) (ho : Own w base 5 1 va vc 2 [.int .u8 x, .int .u8 y]) :
    Calls Tryz.prog 244 #[.agg #[.int .u8 k, .int .i64 n, .string s, .slice a l c, .iface T p, .iface T2 p2], .agg (v.cs md).toArray, .slice va 2 vc] w (fun e w' => e = tup2 (pairK k x y) ∧ Below w.heap.size w w') := by
  obtain ⟨g, rfl, -, hg, hc, -⟩ := ho.cell (by omega)
  have c0 : w.cell? ⟨g, 0, none⟩ = some (.int .u8 x) := hc 0 _ rfl
  have c1 : w.cell? ⟨g, 1, none⟩ = some (.int .u8 y) := hc 1 _ rfl
  clear ho hc
  have fin : ∀ r, Ending.returned (.tuple #[.int .u8 r.1, .int .i64 r.2]) = tup2 r := fun r => rfl
  have key : ∀ q : Int, (∀ z : Int, (z != q) = true ↔ z ≠ q) := fun q z => by simp
  have : k = 9 ∨ k = 10 ∨ k = 11 ∨ k = 12 ∨ k = 13 ∨ k = 14 ∨ k = 15 := by omega
  rcases this with rfl | rfl | rfl | rfl | rfl | rfl | rfl
  · by_cases h1 : x = 1
    · subst h1
      by_cases h2 : y = 1
      · subst h2
        have HR : Hid (pairK 9 1 1 = (1, 0)) := by show _ = _; simp [pairK]
        clear hk fin key
        go_enter Tryz.func244, Tryz.ntmps244
        go_wp2_with fail
        go_ret2
        rw [HR.out]
        exact ⟨rfl, ((Below.refl _ _).alloc (Nat.le_refl _) _).alloc (by rw [size_alloc]; omega) _⟩
      · have e2 : (y != 1) = true := by simpa using h2
        have HR : Hid (pairK 9 1 y = (0, 171)) := by show _ = _; simp [pairK, h2]
        clear hk fin key h2
        go_enter Tryz.func244, Tryz.ntmps244
        go_wp2_with fail
        go_ret2
        rw [HR.out]
        exact ⟨rfl, ((Below.refl _ _).alloc (Nat.le_refl _) _).alloc (by rw [size_alloc]; omega) _⟩
    · have e1 : (x != 1) = true := by simpa using h1
      have HR : Hid (pairK 9 x y = (0, 171)) := by show _ = _; simp [pairK, h1]
      clear hk fin key h1
      go_enter Tryz.func244, Tryz.ntmps244
      go_wp2_with fail
      go_ret2
      rw [HR.out]
      exact ⟨rfl, ((Below.refl _ _).alloc (Nat.le_refl _) _).alloc (by rw [size_alloc]; omega) _⟩
  · by_cases h1 : x = 1
    · subst h1
      by_cases h2 : y = 1
      · subst h2
        have HR : Hid (pairK 10 1 1 = (1, 0)) := by show _ = _; simp [pairK]
        clear hk fin key
        go_enter Tryz.func244, Tryz.ntmps244
        go_wp2_with fail
        go_ret2
        rw [HR.out]
        exact ⟨rfl, ((Below.refl _ _).alloc (Nat.le_refl _) _).alloc (by rw [size_alloc]; omega) _⟩
      · have e2 : (y != 1) = true := by simpa using h2
        have HR : Hid (pairK 10 1 y = (0, 171)) := by show _ = _; simp [pairK, h2]
        clear hk fin key h2
        go_enter Tryz.func244, Tryz.ntmps244
        go_wp2_with fail
        go_ret2
        rw [HR.out]
        exact ⟨rfl, ((Below.refl _ _).alloc (Nat.le_refl _) _).alloc (by rw [size_alloc]; omega) _⟩
    · have e1 : (x != 1) = true := by simpa using h1
      have HR : Hid (pairK 10 x y = (0, 171)) := by show _ = _; simp [pairK, h1]
      clear hk fin key h1
      go_enter Tryz.func244, Tryz.ntmps244
      go_wp2_with fail
      go_ret2
      rw [HR.out]
      exact ⟨rfl, ((Below.refl _ _).alloc (Nat.le_refl _) _).alloc (by rw [size_alloc]; omega) _⟩
  · by_cases h2 : y = x
    · subst h2
      have e1 : (y != y) = false := by simp
      have HR : Hid (pairK 11 y y = (1, 0)) := by show _ = _; simp [pairK]
      clear hk fin key
      go_enter Tryz.func244, Tryz.ntmps244
      go_wp2_with fail
      go_ret2
      rw [HR.out]
      exact ⟨rfl, ((Below.refl _ _).alloc (Nat.le_refl _) _).alloc (by rw [size_alloc]; omega) _⟩
    · have e1 : (x != x) = false := by simp
      have e2 : (y != x) = true := by simpa using h2
      have HR : Hid (pairK 11 x y = (0, 171)) := by show _ = _; simp [pairK, h2]
      clear hk fin key h2
      go_enter Tryz.func244, Tryz.ntmps244
      go_wp2_with fail
      go_ret2
      rw [HR.out]
      exact ⟨rfl, ((Below.refl _ _).alloc (Nat.le_refl _) _).alloc (by rw [size_alloc]; omega) _⟩
  · by_cases h1 : x = 2
    · subst h1
      by_cases h2 : y = 2
      · subst h2
        have HR : Hid (pairK 12 2 2 = (1, 0)) := by show _ = _; simp [pairK]
        clear hk fin key
        go_enter Tryz.func244, Tryz.ntmps244
        go_wp2_with fail
        go_ret2
        rw [HR.out]
        exact ⟨rfl, ((Below.refl _ _).alloc (Nat.le_refl _) _).alloc (by rw [size_alloc]; omega) _⟩
      · have e2 : (y != 2) = true := by simpa using h2
        have HR : Hid (pairK 12 2 y = (0, 171)) := by show _ = _; simp [pairK, h2]
        clear hk fin key h2
        go_enter Tryz.func244, Tryz.ntmps244
        go_wp2_with fail
        go_ret2
        rw [HR.out]
        exact ⟨rfl, ((Below.refl _ _).alloc (Nat.le_refl _) _).alloc (by rw [size_alloc]; omega) _⟩
    · have e1 : (x != 2) = true := by simpa using h1
      have HR : Hid (pairK 12 x y = (0, 171)) := by show _ = _; simp [pairK, h1]
      clear hk fin key h1
      go_enter Tryz.func244, Tryz.ntmps244
      go_wp2_with fail
      go_ret2
      rw [HR.out]
      exact ⟨rfl, ((Below.refl _ _).alloc (Nat.le_refl _) _).alloc (by rw [size_alloc]; omega) _⟩
  · by_cases h1 : x = 2
    · subst h1
      by_cases h2 : y = 2
      · subst h2
        have HR : Hid (pairK 13 2 2 = (2, 0)) := by show _ = _; simp [pairK]
        clear hk fin key
        go_enter Tryz.func244, Tryz.ntmps244
        go_wp2_with fail
        go_ret2
        rw [HR.out]
        exact ⟨rfl, ((Below.refl _ _).alloc (Nat.le_refl _) _).alloc (by rw [size_alloc]; omega) _⟩
      · have e2 : (y != 2) = true := by simpa using h2
        have HR : Hid (pairK 13 2 y = (0, 171)) := by show _ = _; simp [pairK, h2]
        clear hk fin key h2
        go_enter Tryz.func244, Tryz.ntmps244
        go_wp2_with fail
        go_ret2
        rw [HR.out]
        exact ⟨rfl, ((Below.refl _ _).alloc (Nat.le_refl _) _).alloc (by rw [size_alloc]; omega) _⟩
    · have e1 : (x != 2) = true := by simpa using h1
      have HR : Hid (pairK 13 x y = (0, 171)) := by show _ = _; simp [pairK, h1]
      clear hk fin key h1
      go_enter Tryz.func244, Tryz.ntmps244
      go_wp2_with fail
      go_ret2
      rw [HR.out]
      exact ⟨rfl, ((Below.refl _ _).alloc (Nat.le_refl _) _).alloc (by rw [size_alloc]; omega) _⟩
  · by_cases h1 : x = 2
    · subst h1
      by_cases h2 : y = 2
      · subst h2
        have HR : Hid (pairK 14 2 2 = (2, 0)) := by show _ = _; simp [pairK]
        clear hk fin key
        go_enter Tryz.func244, Tryz.ntmps244
        go_wp2_with fail
        go_ret2
        rw [HR.out]
        exact ⟨rfl, ((Below.refl _ _).alloc (Nat.le_refl _) _).alloc (by rw [size_alloc]; omega) _⟩
      · have e2 : (y != 2) = true := by simpa using h2
        have HR : Hid (pairK 14 2 y = (0, 171)) := by show _ = _; simp [pairK, h2]
        clear hk fin key h2
        go_enter Tryz.func244, Tryz.ntmps244
        go_wp2_with fail
        go_ret2
        rw [HR.out]
        exact ⟨rfl, ((Below.refl _ _).alloc (Nat.le_refl _) _).alloc (by rw [size_alloc]; omega) _⟩
    · have e1 : (x != 2) = true := by simpa using h1
      have HR : Hid (pairK 14 x y = (0, 171)) := by show _ = _; simp [pairK, h1]
      clear hk fin key h1
      go_enter Tryz.func244, Tryz.ntmps244
      go_wp2_with fail
      go_ret2
      rw [HR.out]
      exact ⟨rfl, ((Below.refl _ _).alloc (Nat.le_refl _) _).alloc (by rw [size_alloc]; omega) _⟩
  · by_cases h1 : x = 2
    · subst h1
      by_cases h2 : y = 2
      · subst h2
        have HR : Hid (pairK 15 2 2 = (2, 0)) := by show _ = _; simp [pairK]
        clear hk fin key
        go_enter Tryz.func244, Tryz.ntmps244
        go_wp2_with fail
        go_ret2
        rw [HR.out]
        exact ⟨rfl, ((Below.refl _ _).alloc (Nat.le_refl _) _).alloc (by rw [size_alloc]; omega) _⟩
      · have e2 : (y != 2) = true := by simpa using h2
        have HR : Hid (pairK 15 2 y = (0, 171)) := by show _ = _; simp [pairK, h2]
        clear hk fin key h2
        go_enter Tryz.func244, Tryz.ntmps244
        go_wp2_with fail
        go_ret2
        rw [HR.out]
        exact ⟨rfl, ((Below.refl _ _).alloc (Nat.le_refl _) _).alloc (by rw [size_alloc]; omega) _⟩
    · have e1 : (x != 2) = true := by simpa using h1
      have HR : Hid (pairK 15 x y = (0, 171)) := by show _ = _; simp [pairK, h1]
      clear hk fin key h1
      go_enter Tryz.func244, Tryz.ntmps244
      go_wp2_with fail
      go_ret2
      rw [HR.out]
      exact ⟨rfl, ((Below.refl _ _).alloc (Nat.le_refl _) _).alloc (by rw [size_alloc]; omega) _⟩
set_option maxHeartbeats 4000000 in
theorem judged_walk (md : ModelD) (v : ModelV) (hz : md.Sml) : ∀ (t : GT) (u : Value) (w : World), t.may → NodeV t u → ModelM false (From 0) w md v →
    Calls Tryz.prog 156 #[u, .agg (v.cs md).toArray] w (fun e w' => e = tup2 (judg md t) ∧ Below w.heap.size w w')
  | .leaf k n s, u, w, hm, hv, hM => by
    obtain ⟨a, c, rfl⟩ := hv
    have hk : 1 ≤ k ∧ k ≤ 7 := by rcases hm with ⟨h, _⟩ | ⟨h, _⟩ | ⟨h, _⟩ | ⟨h, _⟩ <;> omega
    exact judged_gen md v _ _ 230 231 [] [] _ w (fun W => by kernel_rfl) (fun W => by kernel_rfl) (enters_of Tryz.func230 (by kernel_rfl) rfl) (enters_of Tryz.func231 (by kernel_rfl) rfl) rfl (by simp) (fun W => leafKids k n s a c W) (fun j h => absurd h (by simp))
      (fun _ W base va vc hW hO => leafKind md v k n s a va c 0 vc W hk hz hW) (fun m h => absurd h (by simp)) hM
  | .one k a, u, w, hm, hv, hM => by
    obtain ⟨u1, rfl, hu⟩ := hv
    obtain ⟨T, p, rfl⟩ := hu.iface
    refine judged_gen md v _ _ 239 240 [a] [.iface T p] _ w (fun W => by kernel_rfl) (fun W => by kernel_rfl) (enters_of Tryz.func239 (by kernel_rfl) rfl) (enters_of Tryz.func240 (by kernel_rfl) rfl) rfl (by simp) (fun W => oneKids T p W) (fun j h h' W hW => ?_) (fun h0 W base va vc hW hO => ?_) (fun m h hne _ => ?_) hM
    · obtain rfl : j = 0 := by simpa using h
      exact judged_walk md v hz a _ W hm.2 hu hW
    · have h1 := h0 0 (by simp)
      have hR : judg md (.one k a) = if (judg md a).1 = 1 then (1, 0) else (0, 171) := by
        have h1 : (judg md a).2 = 0 := h1
        simp only [judg, h1]; rfl
      rw [hR]
      exact oneKind md v T p _ base va vc W hO
    · obtain rfl : m = 0 := by simpa using h
      have hne : (judg md a).2 ≠ 0 := hne
      show judg md (.one k a) = (0, (judg md a).2)
      simp only [judg, if_pos hne]
  | .two k a b, u, w, hm, hv, hM => by
    obtain ⟨n0, s0, p0, l0, c0, u1, u2, rfl, hu1, hu2⟩ := hv
    obtain ⟨T, p, rfl⟩ := hu1.iface
    obtain ⟨T2, p2, rfl⟩ := hu2.iface
    refine judged_gen md v _ _ 243 244 [a, b] [.iface T p, .iface T2 p2] _ w (fun W => by kernel_rfl) (fun W => by kernel_rfl) (enters_of Tryz.func243 (by kernel_rfl) rfl) (enters_of Tryz.func244 (by kernel_rfl) rfl) rfl (by simp) (fun W => pairKids k n0 s0 p0 l0 c0 T T2 p p2 W) (fun j h h' W hW => ?_) (fun h0 W base va vc hW hO => ?_) (fun m h hne hlt => ?_) hM
    · match j, h with
      | 0, _ => exact judged_walk md v hz a _ W hm.2.1 hu1 hW
      | 1, _ => exact judged_walk md v hz b _ W hm.2.2 hu2 hW
    · have h1 : (judg md a).2 = 0 := h0 0 (by simp)
      have h2 : (judg md b).2 = 0 := h0 1 (by simp)
      have hR : judg md (.two k a b) = pairK k (judg md a).1 (judg md b).1 := by
        simp only [judg, h1, h2, pairK]; rfl
      rw [hR]
      exact pairKind md v k n0 s0 p0 l0 c0 T T2 p p2 _ _ base va vc W hm.1 hO
    · match m, h with
      | 0, _ =>
        have hne : (judg md a).2 ≠ 0 := hne
        show judg md (.two k a b) = (0, (judg md a).2)
        simp only [judg, if_pos hne]
      | 1, _ =>
        have h1 : (judg md a).2 = 0 := hlt 0 (by omega)
        have hne : (judg md b).2 ≠ 0 := hne
        show judg md (.two k a b) = (0, (judg md b).2)
        simp only [judg, h1, if_pos hne]; rfl
end Go.Proofs.YtfbbkmdhnkmonaaGreatDoor
