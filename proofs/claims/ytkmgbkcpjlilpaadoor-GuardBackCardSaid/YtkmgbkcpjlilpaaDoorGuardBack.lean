/- docketlaw17: alive; GuardBack returns true. -/
import Derived.Deep.DeepCutAuto
import Derived.Deep.CutBlock
import Derived.Test.YtkmgbkcpjlilpaaDoorGuardReads
import Derived.Test.YtkmgbkcpjlilpaaDoorGMade
import Derived.Test.YtkmgbkcpjlilpaaDoorLwSame
import Derived.Test.YtkmgbkcpjlilpaaDoorGGreat
import Derived.Test.YtkmgbkcpjlilpaaDoorGSize
import Derived.Test.YtkmgbkcpjlilpaaDoorGBack2
namespace Go.Proofs.YtkmgbkcpjlilpaaDoor
open Go.RowKit

/-- what the walks lean on -/
def GRng (w : World) : Prop := ∃ t p, w.cell? ⟨2, 0, none⟩ = some (.iface t p)
theorem GRng.below {w w' : World} (h : GRng w) (hb : Below w.heap.size w w') : GRng w' := by
  obtain ⟨t, p, h⟩ := h
  exact ⟨t, p, cellBelow2 hb h⟩
abbrev aliveS : ByteArray := ⟨#[97, 32, 61, 32, 49, 32, 97, 110, 100, 32, 110, 111, 116, 32, 111, 112, 101, 110, 40, 115, 41]⟩
abbrev aliveT : GT := .two 9 (.two 11 (.leaf 5 0 ⟨#[97]⟩) (.leaf 3 1 ⟨#[]⟩)) (.one 8 (.leaf 6 0 ⟨#[115]⟩))
theorem alive_read : readG aliveS 20 = some (.ok aliveT) := by kernel_rfl
theorem alive_may : aliveT.may := ⟨by omega, ⟨by omega, .inr (.inr (.inr ⟨.inl rfl, rfl, by decide⟩)), .inr (.inl ⟨rfl, by omega, by omega, rfl⟩)⟩, rfl, .inr (.inr (.inr ⟨.inr (.inl rfl), rfl, by decide⟩))⟩
theorem alive_txt : aliveT.txt = [40, 97, 32, 61, 32, 49, 41, 32, 97, 110, 100, 32, 40, 110, 111, 116, 32, 111, 112, 101, 110, 40, 115, 41, 41] := by
  have : Lib.decDigits 1 = [49] := by rw [Lib.decDigits_one (by decide)]; rfl
  simp [GT.txt, wrapT, GT.isLeaf, opT, leafT, this]
theorem readA_ok {s : ByteArray} {f : Nat} {t : GT} (hs : s.size ≤ 16384) (h : readG s f = some (.ok t)) : ReadA s t.toGD 0 0 := by
  unfold ReadA
  rw [if_neg (by omega)]
  exact ⟨f, _, h, rfl, rfl, rfl⟩
/-- a guard that may be is in range -/
theorem may_inR : ∀ t : GT, t.may → t.toGD.inR
  | .leaf k n s, hm => by
    simp only [GT.toGD, GD.inR, GD.inRs, and_true]
    rcases hm with ⟨_, h, _⟩ | ⟨_, h, h2, _⟩ | ⟨_, h, _⟩ | ⟨_, h, _⟩ <;> omega
  | .one k a, hm => by
    simp only [GT.toGD, GD.inR, GD.inRs, and_true]
    exact ⟨by omega, may_inR a hm.2⟩
  | .two k a b, hm => by
    simp only [GT.toGD, GD.inR, GD.inRs, and_true]
    exact ⟨by omega, may_inR a hm.2.1, may_inR b hm.2.2⟩
/-- Text of a guard that may be -/
theorem TextEnd.of {t : GT} {w w' : World} {e : Ending} (hm : t.may) (hd : t.deep ≤ 32) (h : TextEnd t.toGD w e w') : Below w.heap.size w w' ∧ ((16384 < t.txt.length ∧ e = .returned (.tuple #[.string ⟨#[]⟩, .int .i64 3])) ∨ (t.txt.length ≤ 16384 ∧ e = .returned (.tuple #[.string ⟨t.txt.toArray⟩, .int .i64 0]))) := by
  obtain ⟨hb, h⟩ := h
  refine ⟨hb, ?_⟩
  rcases h with ⟨hno, -⟩ | ⟨u, hu, hm2, h⟩
  · exact absurd ⟨t, rfl, hm⟩ hno
  · obtain rfl := toGD_inj hu
    rcases h with ⟨h32, -⟩ | ⟨-, h⟩
    · omega
    · exact h
set_option maxHeartbeats 4000000 in
set_option maxRecDepth 100000 in
theorem alive_walk (w : World) (hv : GRng w) (ht : TabW w) : Calls Tryd.prog 8 #[] w fun e w' => e = .returned (.bool true) ∧ Below w.heap.size w w' := by
  have HR := Lib.hid (Read_walk aliveS w (by decide) hv)
  have HTB := Lib.hid ht
  clear hv ht
  go_enter Tryd.func8, Tryd.ntmps8
  go_wp2_with fail
  refine HR.out.mono ?_
  intro e w2 hr
  obtain ⟨hb2, g, a, c, cs, rfl, hg, hA⟩ := hr.answer
  obtain ⟨rfl, rfl, rfl⟩ := hA.unique (readA_ok (by decide) alive_read)
  obtain ⟨k1, n1, s1, a1, l1, c1, rfl⟩ := hg.four
  have hb3 := (Below.refl w2.heap.size w2).alloc (Nat.le_refl _) (.cells #[.int .u8 k1, .int .i64 n1, .string s1, .slice a1 l1 c1] 24)
  have hb23 := hb2.trans (hb3.mono hb2.size)
  have HB3 := Lib.hid hb23
  have HTX := Lib.hid (Text_walk aliveT.toGD _ _ (by decide) (may_inR _ alive_may) (by decide) (hg.keepB hb3) (HTB.out.below hb23))
  have hx := Arr.new w2 [.int .u8 k1, .int .i64 n1, .string s1, .slice a1 l1 c1] 24
  obtain ⟨z0, z1, z2, z3⟩ := box4 hx (Below.refl _ _)
  clear HR hr hA hg hb2 hb3 hb23 hx
  go_wp2_with fail
  refine HTX.out.mono ?_
  intro e w4 ht
  obtain ⟨hb4, h⟩ := ht.of alive_may (by decide)
  rw [alive_txt] at h
  rcases h with ⟨h, -⟩ | ⟨-, rfl⟩
  · exact absurd h (by decide)
  have HB4 := Lib.hid (HB3.out.trans (hb4.mono HB3.out.size))
  clear HTX ht hb4 z0 z1 z2 z3
  go_wp2_with fail
  go_ret
  exact ⟨rfl, HB4.out⟩
/-- a guard written and read: the same -/
theorem back_unique {t : GT} (hm : t.may) (hd : t.deep ≤ 32) (hl : t.txt.length ≤ 16384) {g : GD} {a c : Int} (h : ReadA ⟨t.txt.toArray⟩ g a c) : g = t.toGD ∧ a = 0 ∧ c = 0 := by
  obtain ⟨f, hf⟩ := read_back hm hd
  have h2 := readA_ok (s := ⟨t.txt.toArray⟩) (by show t.txt.toArray.size ≤ _; simpa using hl) hf
  exact h.unique h2
/-- what reading comes to -/
theorem ReadA.cases {s : ByteArray} {g : GD} {a c : Int} (h : ReadA s g a c) : (c ≠ 0 ∧ g = zeroD ∧ 0 ≤ a ∧ a ≤ s.size) ∨ (c = 0 ∧ ∃ t : GT, g = t.toGD ∧ t.may ∧ t.deep ≤ 32 ∧ t.txt.length ≤ 5 * s.size ∧ t.toGD.size ≤ 3 * s.size) := by
  unfold ReadA at h
  split at h
  · obtain ⟨rfl, rfl, rfl⟩ := h
    exact .inl ⟨by omega, rfl, by omega, by omega⟩
  · obtain ⟨fu, r, h1, h2⟩ := h
    have h3 := readG_mr h1
    cases r with
    | ok t =>
      obtain ⟨rfl, rfl, rfl⟩ := h2
      exact .inr ⟨rfl, t, rfl, h3⟩
    | error p =>
      obtain ⟨p, q⟩ := p
      obtain ⟨rfl, rfl, rfl⟩ := h2
      refine .inl ⟨?_, rfl, by omega, by have : p ≤ s.size := h3; omega⟩
      intro hq
      unfold readG at h1
      split at h1
      · injection h1 with h1; injection h1 with h1; injection h1 with _ h1; omega
      · split at h1
        · cases h1
        · injection h1 with h1; injection h1 with h1; injection h1 with _ h1; omega
        · split at h1
          · injection h1 with h1; injection h1 with h1; injection h1 with _ h1; omega
          · split at h1
            · injection h1 with h1; injection h1 with h1; injection h1 with _ h1; omega
            · cases h1
/-- a guard's cells that were read as nothing -/
theorem zero_cells {w : World} {cs : List Value} (h : GIn w zeroD cs) : ∃ (a : Option Addr) (c : Nat), cs = [.int .u8 0, .int .i64 0, .string ⟨#[]⟩, .slice a 0 c] := by
  cases h; exact ⟨_, _, rfl⟩
set_option maxHeartbeats 16000000 in
set_option maxRecDepth 100000 in
theorem guardBack_walk (g : GD) (cs : List Value) (s : ByteArray) (w : World) (hv : GRng w) (ht : TabW w) (hr : g.inR) (hf : g.fit) (h : GIn w g cs) :
    Calls Tryd.prog 4 #[.agg cs.toArray, .string s] w fun e w' => e = .returned (.bool true) ∧ Below w.heap.size w w' := by
  obtain ⟨k, n, sx, a, l, c, rfl⟩ := h.four
  obtain ⟨w1, hw1⟩ : ∃ w1, w.alloc (.cells #[.int .u8 k, .int .i64 n, .string sx, .slice a l c] 24) = w1 := ⟨_, rfl⟩
  have hb1 : Below w.heap.size w w1 := hw1 ▸ (Below.refl _ _).alloc (Nat.le_refl _) _
  have hx1 : Arr w1 w.heap.size 24 [.int .u8 k, .int .i64 n, .string sx, .slice a l c] := hw1 ▸ Arr.new w [.int .u8 k, .int .i64 n, .string sx, .slice a l c] _
  have HAL := Lib.hid (alive_walk w1 (hv.below hb1) (ht.below hb1))
  have HV := Lib.hid (fun W (hb : Below w.heap.size w W) => hv.below hb)
  have HT := Lib.hid (fun W (hb : Below w.heap.size w W) => ht.below hb)
  have HG := Lib.hid (fun W (hb : Below w.heap.size w W) => h.keepB hb)
  have HGR := Lib.hid (fun W (hb : Below w.heap.size w W) => great_walk g _ W hf (h.keepB hb))
  have HR := Lib.hid hr
  have HB1 := Lib.hid hb1
  have HX1 := Lib.hid hx1
  have HW1 := Lib.hid hw1
  clear h hb1 hx1 hw1 hv ht hr hf
  go_enter Tryd.func4, Tryd.ntmps4
  go_upto_region 1 with fail
  rw [HW1.out]
  go_wp2_with fail
  refine HAL.out.mono ?_
  rintro e w2 ⟨rfl, hb2⟩
  have HC2 := Lib.hid hb2
  have HB2 := Lib.hid (HB1.out.trans (hb2.mono HB1.out.size))
  obtain ⟨z0, z1, z2, z3⟩ := box4 HX1.out hb2
  clear hb2 HAL
  go_wp2_with fail
  refine (HGR.out _ HB2.out).mono ?_
  rintro e w3 ⟨⟨gb, rfl, hgb⟩, hb3⟩
  have HC3 := Lib.hid (HC2.out.trans (hb3.mono HC2.out.size))
  have HB3 := Lib.hid (HB2.out.trans (hb3.mono HB2.out.size))
  clear z0 z1 z2 z3 hb3 HGR HC2 HB2
  obtain ⟨z0, z1, z2, z3⟩ := box4 HX1.out HC3.out
  cases gb with
  | true =>
    clear hgb
    go_wp2_with fail
    go_ret
    exact ⟨rfl, HB3.out⟩
  | false =>
    obtain ⟨hsz, hdp⟩ := hgb rfl
    have HSZ := Lib.hid hsz
    have HDP := Lib.hid hdp
    clear hsz hdp hgb
    by_cases hbig : 17000 < s.size
    · have i1 : (17000 : Int) < (s.size : Int) := by omega
      clear hbig
      go_wp2_with fail
      go_ret
      exact ⟨rfl, HB3.out⟩
    have i1 : ¬ (17000 : Int) < (s.size : Int) := by omega
    have HBIG : Hid (s.size ≤ 17000) := Nat.not_lt.1 hbig
    clear hbig
    have HTX := Lib.hid (Text_walk g _ w3 (by have := HDP.out; omega) HR.out (by have := HSZ.out; omega) (HG.out _ HB3.out) (HT.out _ HB3.out))
    go_wp2_with fail
    refine HTX.out.mono ?_
    rintro e w4 ⟨hb4, hend⟩
    have HC4 := Lib.hid (HC3.out.trans (hb4.mono HC3.out.size))
    have HB4 := Lib.hid (HB3.out.trans (hb4.mono HB3.out.size))
    clear z0 z1 z2 z3 hb4 HTX HC3 HB3
    obtain ⟨ts, ec, rfl, hcase⟩ : ∃ (ts : ByteArray) (ec : Int), e = .returned (.tuple #[.string ts, .int .i64 ec]) ∧ (ec ≠ 0 ∨ (ec = 0 ∧ ∃ t : GT, g = t.toGD ∧ t.may ∧ t.deep ≤ 32 ∧ t.txt.length ≤ 16384 ∧ ts = ⟨t.txt.toArray⟩)) := by
      rcases hend with ⟨_, rfl⟩ | ⟨t, h1, h2, ⟨_, rfl⟩ | ⟨h3, ⟨_, rfl⟩ | ⟨h4, rfl⟩⟩⟩
      · exact ⟨_, 8, rfl, .inl (by omega)⟩
      · exact ⟨_, 161, rfl, .inl (by omega)⟩
      · exact ⟨_, 3, rfl, .inl (by omega)⟩
      · exact ⟨_, 0, rfl, .inr ⟨rfl, t, h1, h2, h3, h4, rfl⟩⟩
    have HCASE := Lib.hid hcase
    clear hcase hend
    go_upto_if 38 with fail
    go_cut [] (fun wx => Hid (Below w.heap.size w wx))
    case first =>
      rcases HCASE.out with hne | ⟨rfl, t, ht, hmay, hd32, hlen, rfl⟩
      · have e0 : (ec == 0) = false := by rw [beq_eq_false_iff_ne]; exact hne
        clear hne HCASE
        go_wp2_with fail
        go_meet
        exact HB4.out
      · have hsz4 := HSZ.out
        rw [ht] at hsz4
        have HRD := Lib.hid (Read_walk ⟨t.txt.toArray⟩ w4 (by show t.txt.toArray.size ≤ _; rw [List.size_toArray]; omega) (HV.out _ HB4.out))
        have HT1 := Lib.hid ht
        have HMAY := Lib.hid hmay
        have HD32 := Lib.hid hd32
        have HLEN := Lib.hid hlen
        have HSZ4 := Lib.hid hsz4
        obtain ⟨TT, hTT⟩ : ∃ TT : ByteArray, (⟨t.txt.toArray⟩ : ByteArray) = TT := ⟨_, rfl⟩
        rw [hTT] at HRD ⊢
        have HTT := Lib.hid hTT
        have eT : (TT.toList == TT.toList) = true := by simp
        clear ht hmay hd32 hlen hsz4 hTT HCASE
        go_wp2_with fail
        refine HRD.out.mono ?_
        intro e w5 hr5
        obtain ⟨hb5, g5, a5, c5, cs5, rfl, hg5, hA5⟩ := hr5.answer
        rw [← HTT.out] at hA5
        obtain ⟨rfl, rfl, rfl⟩ := back_unique HMAY.out HD32.out HLEN.out hA5
        obtain ⟨k5, n5, s5, p5, l5, q5, rfl⟩ := hg5.four
        have hb6 := (Below.refl w5.heap.size w5).alloc (Nat.le_refl _) (.cells #[.int .u8 k5, .int .i64 n5, .string s5, .slice p5 l5 q5] 24)
        have hb56 := hb5.trans (hb6.mono hb5.size)
        have HC6 := Lib.hid (HC4.out.trans (hb56.mono HC4.out.size))
        have HB6 := Lib.hid (HB4.out.trans (hb56.mono HB4.out.size))
        have HX6 := Lib.hid (Arr.new w5 [.int .u8 k5, .int .i64 n5, .string s5, .slice p5 l5 q5] 24)
        have HG6 := Lib.hid (hg5.keepB hb6)
        have HTX := Lib.hid (Text_walk t.toGD _ _ (by rw [toGD_deep]; have := HD32.out; omega) (may_inR t HMAY.out) (by have := HSZ4.out; omega) HG6.out (HT.out _ HB6.out))
        obtain ⟨y0, y1, y2, y3⟩ := box4 HX6.out (Below.refl _ _)
        clear HRD hr5 hA5 hg5 hb5 hb6 hb56
        go_wp2_with fail
        refine HTX.out.mono ?_
        intro e w7 h7
        obtain ⟨hb7, h⟩ := h7.of HMAY.out HD32.out
        rcases h with ⟨h, -⟩ | ⟨-, rfl⟩
        · exact absurd h (by have := HLEN.out; omega)
        rw [HTT.out]
        have HB7 := Lib.hid (HB6.out.trans (hb7.mono HB6.out.size))
        clear y0 y1 y2 y3
        obtain ⟨z0, z1, z2, z3⟩ := box4 HX1.out (HC6.out.trans (hb7.mono HC6.out.size))
        obtain ⟨y0, y1, y2, y3⟩ := box4 HX6.out hb7
        have hgw := HG.out _ HB7.out
        rw [HT1.out] at hgw
        have HSM := Lib.hid (lwSame_walk 100 t.toGD t.toGD _ _ _ (by rw [toGD_deep]; have := HD32.out; omega) hgw (HG6.out.keepB hb7))
        clear HTX h7 hb7 hgw
        go_wp2_with fail
        refine HSM.out.mono ?_
        rintro e w8 ⟨r, rfl, hr8, hb8⟩
        obtain rfl : r = true := hr8.2 rfl
        have HB8 := Lib.hid (HB7.out.trans (hb8.mono HB7.out.size))
        clear HSM hr8 hb8 z0 z1 z2 z3 y0 y1 y2 y3
        go_wp2_with fail
        have hTT := HTT.out
        subst hTT
        go_meet
        exact HB8.out
    case rest =>
      have HBC := hcut
      have HRD := Lib.hid (Read_walk s wc HBIG.out (HV.out _ HBC.out))
      clear HCASE hcut
      go_wp2_with fail
      refine HRD.out.mono ?_
      intro e w5 hr5
      obtain ⟨hb5, g5, a5, c5, cs5, rfl, hg5, hA5⟩ := hr5.answer
      have HRC := Lib.hid hA5.cases
      obtain ⟨k5, n5, s5, p5, l5, q5, hcs⟩ := hg5.four
      subst hcs
      have hb6 := (Below.refl w5.heap.size w5).alloc (Nat.le_refl _) (.cells #[.int .u8 k5, .int .i64 n5, .string s5, .slice p5 l5 q5] 24)
      have hb56 := hb5.trans (hb6.mono hb5.size)
      have HB6 := Lib.hid (HBC.out.trans (hb56.mono HBC.out.size))
      have HX6 := Lib.hid (Arr.new w5 [.int .u8 k5, .int .i64 n5, .string s5, .slice p5 l5 q5] 24)
      have HG6 := Lib.hid (hg5.keepB hb6)
      obtain ⟨y0, y1, y2, y3⟩ := box4 HX6.out (Below.refl _ _)
      clear HRD hr5 hA5 hb5 hb6 hb56
      rcases HRC.out with ⟨hc5, hgz, ha0, has⟩ | ⟨hc5, t, hgt, hmay, hd32, hlen, hsz5⟩
      · subst hgz
        obtain ⟨pz, qz, hcs⟩ := zero_cells hg5
        simp only [List.cons.injEq, and_true, Value.int.injEq, true_and, Value.string.injEq, Value.slice.injEq] at hcs
        obtain ⟨hk5, rfl, rfl, rfl, rfl, rfl⟩ := hcs
        obtain rfl : k5 = 0 := by omega
        have e0 : (c5 != 0) = true := by rw [bne_iff_ne]; exact hc5
        have e1 : decide (0 ≤ a5) = true := decide_eq_true ha0
        have e2 : decide (a5 ≤ (s.size : Int)) = true := decide_eq_true has
        clear hc5 ha0 has hg5 HRC hk5
        go_wp2_with fail
        go_ret
        exact ⟨rfl, HB6.out⟩
      · subst hc5 hgt
        have HMAY := Lib.hid hmay
        have HD32 := Lib.hid hd32
        have HLEN := Lib.hid hlen
        have HS5 := Lib.hid hsz5
        have HTX := Lib.hid (Text_walk t.toGD _ _ (by rw [toGD_deep]; omega) (may_inR t hmay) (by have := HBIG.out; omega) HG6.out (HT.out _ HB6.out))
        clear hmay hd32 hlen hsz5 hg5 HRC
        go_wp2_with fail
        refine HTX.out.mono ?_
        intro e w7 h7
        obtain ⟨hb7, h⟩ := h7.of HMAY.out HD32.out
        have HB7 := Lib.hid (HB6.out.trans (hb7.mono HB6.out.size))
        have HC7 := Lib.hid hb7
        clear y0 y1 y2 y3 HTX h7 hb7
        rcases h with ⟨h, rfl⟩ | ⟨h, rfl⟩
        · have i3 : (3000 : Int) < (s.size : Int) := by have := HLEN.out; omega
          clear h
          go_wp2_with fail
          go_ret
          exact ⟨rfl, HB7.out⟩
        · have HRD := Lib.hid (Read_walk ⟨t.txt.toArray⟩ w7 (by show t.txt.toArray.size ≤ _; rw [List.size_toArray]; omega) (HV.out _ HB7.out))
          have HLE := Lib.hid h
          clear h
          go_wp2_with fail
          refine HRD.out.mono ?_
          intro e w8 hr8
          obtain ⟨hb8, g8, a8, c8, cs8, rfl, hg8, hA8⟩ := hr8.answer
          obtain ⟨rfl, rfl, rfl⟩ := back_unique HMAY.out HD32.out HLE.out hA8
          obtain ⟨k8, n8, s8, p8, l8, q8, rfl⟩ := hg8.four
          have hb9 := (Below.refl w8.heap.size w8).alloc (Nat.le_refl _) (.cells #[.int .u8 k8, .int .i64 n8, .string s8, .slice p8 l8 q8] 24)
          have hb89 := hb8.trans (hb9.mono hb8.size)
          have HB9 := Lib.hid (HB7.out.trans (hb89.mono HB7.out.size))
          have hc9 := HC7.out.trans (hb89.mono HC7.out.size)
          obtain ⟨y0, y1, y2, y3⟩ := box4 HX6.out hc9
          obtain ⟨x0, x1, x2, x3⟩ := box4 (Arr.new w8 [.int .u8 k8, .int .i64 n8, .string s8, .slice p8 l8 q8] 24) (Below.refl _ _)
          have HSM := Lib.hid (lwSame_walk 100 t.toGD t.toGD _ _ _ (by rw [toGD_deep]; have := HD32.out; omega) (HG6.out.keepB hc9) (hg8.keepB hb9))
          clear HRD hr8 hA8 hg8 hb8 hb9 hb89 hc9
          go_wp2_with fail
          refine HSM.out.mono ?_
          rintro e w10 ⟨r, rfl, hr10, hb10⟩
          obtain rfl : r = true := hr10.2 rfl
          have HB10 := Lib.hid (HB9.out.trans (hb10.mono HB9.out.size))
          clear HSM hr10 hb10 x0 x1 x2 x3 y0 y1 y2 y3
          go_wp2_with fail
          go_ret
          exact ⟨rfl, HB10.out⟩
end Go.Proofs.YtkmgbkcpjlilpaaDoor
