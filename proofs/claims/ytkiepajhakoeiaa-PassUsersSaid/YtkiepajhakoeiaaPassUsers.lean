/- docketlaw21.PassUsers returns true. -/
import Derived.Test.YtkiepajhakoeiaaRefMake2
import Derived.Test.YtkiepajhakoeiaaAlive21
import Derived.Test.YtkiepajhakoeiaaPassFits
namespace Go.Proofs.Ytkiepajhakoeiaa
open Go.RowKit

/-- the user that is made -/
def madeU (n s pw : ByteArray) (rs : List ByteArray) : ByteArray × ByteArray × ByteArray × List ByteArray := if makeE n s pw rs = 0 then (n, s, ⟨(passS s pw).toArray⟩, rs) else (⟨#[]⟩, ⟨#[]⟩, ⟨#[]⟩, [])
theorem made_end {n s pw : ByteArray} {rs : List ByteArray} {w w' : World} {e : Ending} (h : MakeEnd n s pw rs w e w') : ∃ va vc, e = .returned (.tuple #[.agg #[.string (madeU n s pw rs).1, .string (madeU n s pw rs).2.1, .string (madeU n s pw rs).2.2.1, .slice va (madeU n s pw rs).2.2.2.length vc], .int .i64 (makeE n s pw rs)]) ∧
    Own w' w.heap.size 9 1 va vc (madeU n s pw rs).2.2.2.length ((madeU n s pw rs).2.2.2.map Value.string) ∧ Below w.heap.size w w' := by
  obtain ⟨h1, h2⟩ := h
  rcases h1 with ⟨hne, rfl⟩ | ⟨h0, va, vc, rfl, hO⟩
  · have e : madeU n s pw rs = (⟨#[]⟩, ⟨#[]⟩, ⟨#[]⟩, []) := by rw [madeU, if_neg hne]
    rw [e]
    exact ⟨none, 0, rfl, Own.nil _ _ _ _, h2⟩
  · have e : madeU n s pw rs = (n, s, ⟨(passS s pw).toArray⟩, rs) := by rw [madeU, if_pos h0]
    rw [e, h0]
    exact ⟨va, vc, rfl, hO, h2⟩
theorem box_cells {W : World} {g : Nat} {t : TypeId} {a b c d : Value} (h : Arr W g t [a, b, c, d]) : W.cell? ⟨g, 0, none⟩ = some a ∧ W.cell? ⟨g, 1, none⟩ = some b ∧ W.cell? ⟨g, 2, none⟩ = some c ∧ W.cell? ⟨g, 3, none⟩ = some d :=
  ⟨h.cell (j := 0) (by simp), h.cell (j := 1) (by simp), h.cell (j := 2) (by simp), h.cell (j := 3) (by simp)⟩
/-- the state at the loops -/
structure UseSt (w wr : World) (bA gA : Nat) (va : Option Addr) (vc m : Nat) (oa : Option Addr) (oc : Nat) (x0 x1 x2 : ByteArray) (rs : List ByteArray) : Prop where
  a : ∃ cells, Own wr bA 9 1 va vc m cells
  o : Own wr w.heap.size 9 1 oa oc rs.length (rs.map Value.string)
  ob : ∀ g, oa = some ⟨g, 0, none⟩ → g < bA
  x : Arr wr gA 24 [.string x0, .string x1, .string x2, .slice va m vc]
  xa : ∀ g, va = some ⟨g, 0, none⟩ → g ≠ gA
  b : Below w.heap.size w wr
  le : w.heap.size ≤ bA
theorem UseSt.drewN {w wr : World} {bA gA vc m oc : Nat} {va oa : Option Addr} {x0 x1 x2 : ByteArray} {rs : List ByteArray} (h : UseSt w wr bA gA va vc m oa oc x0 x1 x2 rs) (q : Nat) : UseSt w (wr.drewN q) bA gA va vc m oa oc x0 x1 x2 rs := by
  obtain ⟨c, hc⟩ := h.a
  exact ⟨⟨c, hc.drewN q⟩, h.o.drewN q, h.ob, h.x.drewN q, h.xa, below_drewN h.b q, h.le⟩
theorem UseSt.set {w wr : World} {bA gA vc m oc g j : Nat} {oa : Option Addr} {x0 x1 x2 : ByteArray} {rs : List ByteArray} (h : UseSt w wr bA gA (some ⟨g, 0, none⟩) vc m oa oc x0 x1 x2 rs) (u : Value) : UseSt w (wr.setCell ⟨g, j, none⟩ u) bA gA (some ⟨g, 0, none⟩) vc m oa oc x0 x1 x2 rs := by
  obtain ⟨c, hc⟩ := h.a
  have hlt := (hc.lt rfl).1
  exact ⟨⟨_, hc.set u⟩, h.o.setCell (a := ⟨g, j, none⟩) (fun g' hg' => by have := h.ob g' hg'; show g' ≠ g; omega) u, h.ob, h.x.far (a := ⟨g, j, none⟩) (fun e => h.xa g rfl e.symm) u, h.xa, h.b.setCell (p := ⟨g, j, none⟩) (by have := h.le; show w.heap.size ≤ g; omega) u, h.le⟩

set_option maxHeartbeats 8000000 in
set_option maxRecDepth 100000 in
theorem passUsers_walk (n s pw : ByteArray) (a : Option Addr) (c : Nat) (rs : List ByteArray) (un us up : ByteArray) (ua : Option Addr) (uc : Nat) (urs : List ByteArray) (w : World) (hn : n.size ≤ maxLen) (hs : s.size ≤ maxLen) (hpw : pw.size ≤ maxLen) (hl : rs.length ≤ maxLen) (hr : ∀ x ∈ rs, x.size ≤ maxLen)
    (hun : un.size ≤ maxLen) (hus : us.size ≤ maxLen) (hup : up.size ≤ maxLen) (hul : urs.length ≤ maxLen) (hur : ∀ x ∈ urs, x.size ≤ maxLen)
    (h : Strs w.heap.size w (.slice a rs.length c) rs) (hu : Strs w.heap.size w (.slice ua urs.length uc) urs) :
    Calls Try.prog 3 #[.string n, .string s, .string pw, .slice a rs.length c, .agg #[.string un, .string us, .string up, .slice ua urs.length uc]] w fun e w' => e = .returned (.bool true) ∧ Below w.heap.size w w' := by
  have hst := strs_new (w.alloc (.cells #[.string un, .string us, .string up, .slice ua urs.length uc] 24)) [n, s, pw, un, us, up] 9 6 rfl
  rw [new_size] at hst
  have HG1 := Lib.hid (great_walk (.slice (some ⟨w.heap.size + 1, 0, none⟩) 6 6) [n, s, pw, un, us, up] _ ((w.alloc (.cells #[.string un, .string us, .string up, .slice ua urs.length uc] 24)).alloc (.cells #[.string n, .string s, .string pw, .string un, .string us, .string up] 9)) (by unfold maxLen; simp) (by simp; exact ⟨hn, hs, hpw, hun, hus, hup⟩) hst)
  clear hst
  have HS := Lib.hid (fun (W : World) (hb : Below w.heap.size w W) => (Row.mono (h.below hb) hb.size : Strs W.heap.size W (.slice a rs.length c) rs))
  have HUS := Lib.hid (fun (W : World) (hb : Below w.heap.size w W) => (Row.mono (hu.below hb) hb.size : Strs W.heap.size W (.slice ua urs.length uc) urs))
  have HG2 := Lib.hid (fun (W : World) (hb : Below w.heap.size w W) => great_walk (.slice a rs.length c) rs W.heap.size W hl hr (HS.out W hb))
  have HG3 := Lib.hid (fun (W : World) (hb : Below w.heap.size w W) => great_walk (.slice ua urs.length uc) urs W.heap.size W hul hur (HUS.out W hb))
  have hA0 := Arr.new w [.string un, .string us, .string up, .slice ua urs.length uc] 24
  have hb0 : Below w.heap.size w (w.alloc (.cells #[.string un, .string us, .string up, .slice ua urs.length uc] 24)) := (Below.refl _ _).alloc (Nat.le_refl _) _
  have hz0 : (w.alloc (.cells #[.string un, .string us, .string up, .slice ua urs.length uc] 24)).heap.size = w.heap.size + 1 := by simp
  have HA1 := Lib.hid (hA0.alloc (.cells #[.string n, .string s, .string pw, .string un, .string us, .string up] 9))
  have HB1 : Hid (Below w.heap.size w ((w.alloc (.cells #[.string un, .string us, .string up, .slice ua urs.length uc] 24)).alloc (.cells #[.string n, .string s, .string pw, .string un, .string us, .string up] 9))) := hb0.alloc (by simp) _
  have HC0 := Lib.hid h.cells
  clear h hu hA0 hb0 hz0
  cases g1 : greatB [n, s, pw, un, us, up]
  · rw [g1] at HG1
    cases g2 : greatB rs
    · rw [g2] at HG2
      cases g3 : greatB urs
      · rw [g3] at HG3
        obtain ⟨-, q1⟩ := greatB_no g1
        obtain ⟨q2, q3⟩ := greatB_no g2
        obtain ⟨q4, q5⟩ := greatB_no g3
        have hp1 : pw.size ≤ 3000 := q1 _ (by simp)
        have hup1 : up.size ≤ 3000 := q1 _ (by simp)
        obtain ⟨oa, oc, w2, hap, hO2, hg2⟩ := Own.appStrs (xs := []) (Own.nil ((w.alloc (.cells #[.string un, .string us, .string up, .slice ua urs.length uc] 24)).alloc (.cells #[.string n, .string s, .string pw, .string un, .string us, .string up] 9)) w.heap.size _ _) (by simp; omega) (HS.out _ HB1.out) (by omega)
        rw [Nat.zero_add, List.nil_append] at hO2
        rw [Nat.zero_add] at hap
        have hb2 : Below w.heap.size w w2 := HB1.out.grown hg2 HB1.out.size (fun k hk => by cases hk)
        have hA2 := HA1.out.below ((Below.refl _ _).grown hg2 (Nat.le_refl _) (fun k hk => by cases hk)) HA1.out.lt
        have HAP := Lib.hid hap; have HO2 := Lib.hid hO2; have HB2 := Lib.hid hb2; have HA2 := Lib.hid hA2
        have HM := Lib.hid ((Make_walk n s pw oa oc rs w2 hn hs hpw hr (by omega) (hO2.strs (Nat.le_refl _))).mono fun e w' h => made_end h)
        have HRM := Lib.hid (fun (W : World) (hb : Below w.heap.size w W) => (refMake_walk n s pw a c rs W hn hs hpw hr (by omega) (HS.out W hb)).mono fun e w' h => made_end h)
        have HF := Lib.hid (fun (W : World) (hb : Below w.heap.size w W) => Fits_walk un us up ua uc urs pw W hun hus (by omega) hur (by omega) hpw (HUS.out W hb))
        have HRF := Lib.hid (fun (W : World) (hb : Below w.heap.size w W) => refFits_walk un us up ua uc urs pw W hun hus (by omega) hur (by omega) hpw (HUS.out W hb))
        clear g1 g2 g3 q1 q3 q5 hn hs hpw hun hus hup hr hur hl hul hap hO2 hg2 hb2 hA2
        have hxl : (madeU n s pw rs).2.2.2.length ≤ 100 := by
          unfold madeU
          split
          · exact q2
          · simp
        have hoc : oc ≤ maxLen := HO2.out.cap.2
        generalize madeU n s pw rs = U at HM HRM hxl
        generalize makeE n s pw rs = E at HM HRM
        obtain ⟨x0, x1, x2, xs⟩ := U
        have HSY := Lib.hid (fun (va vb : Option Addr) (vc vd : Nat) (W : World) (h1 : Strs W.heap.size W (.slice va xs.length vc) xs) (h2 : Strs W.heap.size W (.slice vb xs.length vd) xs) => refSame_yes x0 x1 x2 va vb vc vd xs W (by simp at hxl; omega) h1 h2)
        simp only at HM HRM hxl
        generalize fitsB un us up urs pw = fb at HF HRF
        generalize fitsE un us up urs pw = fe at HF HRF
        go_enter Try.func3, Try.ntmps3
        go_wp2_with fail
        refine HG1.out.mono ?_
        rintro e w' ⟨rfl, rfl⟩
        go_wp2_with fail
        refine (HG2.out _ HB1.out).mono ?_
        rintro e w' ⟨rfl, rfl⟩
        go_wp2_with fail
        refine (HG3.out _ HB1.out).mono ?_
        rintro e w' ⟨rfl, rfl⟩
        go_wp2_with (at_builtin; refine wpList_append_run (by rfl) (.tmp 43) (.tmp 44) 22 (by rfl) (by rfl) (by rfl) HAP.out ?_)
        refine HM.out.mono ?_
        rintro e w3 ⟨va, vc, rfl, hO3, hb3⟩
        have hB3 : Below w.heap.size w w3 := HB2.out.trans (hb3.mono HB2.out.size)
        have HB3 : Hid (Below w.heap.size w (w3.alloc (.cells #[.string x0, .string x1, .string x2, .slice va xs.length vc] 24))) := hB3.alloc hB3.size _
        have HX3 := Lib.hid (Arr.new w3 [.string x0, .string x1, .string x2, .slice va xs.length vc] 24)
        have HO3 := Lib.hid (hO3.alloc (.cells #[.string x0, .string x1, .string x2, .slice va xs.length vc] 24))
        have HOO3 := Lib.hid ((HO2.out.below hb3 (Nat.le_refl _)).alloc (.cells #[.string x0, .string x1, .string x2, .slice va xs.length vc] 24))
        have HA3 := Lib.hid ((HA2.out.below hb3 HA2.out.lt).alloc (.cells #[.string x0, .string x1, .string x2, .slice va xs.length vc] 24))
        have HVA : Hid (∀ g, va = some ⟨g, 0, none⟩ → g ≠ w3.heap.size) := fun g hg => Nat.ne_of_lt (hO3.lt hg).2
        have HOB : Hid (∀ g, oa = some ⟨g, 0, none⟩ → g < w2.heap.size) := fun g hg => (HO2.out.lt hg).2
        have HL2 : Hid (w.heap.size ≤ w2.heap.size) := HB2.out.size
        have HZ3 : Hid ((w3.alloc (.cells #[.string x0, .string x1, .string x2, .slice va xs.length vc] 24)).heap.size = w3.heap.size + 1) := new_size _ _
        clear hB3 hb3 hO3 HM HO2 HA2
        go_wp2_with fail
        refine (HRM.out _ HB3.out).mono ?_
        rintro e w4 ⟨vb, vd, rfl, hO4, hb4⟩
        rw [HZ3.out] at hb4
        have hX4 := HX3.out.below hb4 (by omega)
        have hA4 := HA3.out.below hb4 (by have := HA3.out.lt; rw [HZ3.out] at this; exact this)
        obtain ⟨y0, y1, y2, y3⟩ := box_cells hA4
        have hwl4 : w.heap.size < w4.heap.size := hA4.lt
        have HB4 : Hid (Below w.heap.size w (w4.alloc (.cells #[.string x0, .string x1, .string x2, .slice vb xs.length vd] 24))) := (HB3.out.trans (hb4.mono (by have := HB3.out.size; rw [HZ3.out] at this; exact this))).alloc (by omega) _
        have HXB4 := Lib.hid (Arr.new w4 [.string x0, .string x1, .string x2, .slice vb xs.length vd] 24)
        have HX4 := Lib.hid (hX4.alloc (.cells #[.string x0, .string x1, .string x2, .slice vb xs.length vd] 24))
        have HA4 := Lib.hid (hA4.alloc (.cells #[.string x0, .string x1, .string x2, .slice vb xs.length vd] 24))
        have HO4 := Lib.hid ((HO3.out.below hb4 (by rw [HZ3.out]; exact Nat.le_refl _)).alloc (.cells #[.string x0, .string x1, .string x2, .slice vb xs.length vd] 24))
        have HOO4 := Lib.hid ((HOO3.out.below hb4 (by rw [HZ3.out]; exact Nat.le_refl _)).alloc (.cells #[.string x0, .string x1, .string x2, .slice vb xs.length vd] 24))
        have HOB4 := Lib.hid (hO4.alloc (.cells #[.string x0, .string x1, .string x2, .slice vb xs.length vd] 24))
        clear hX4 hA4 hO4 hb4 HX3 HA3 HO3 HOO3 HB3
        go_wp2_with fail
        refine (HF.out _ HB4.out).mono ?_
        rintro e w5 ⟨rfl, hb5⟩
        have hA5 := HA4.out.below hb5 HA4.out.lt
        obtain ⟨z0, z1, z2, z3⟩ := box_cells hA5
        have hX5 := HX4.out.below hb5 HX4.out.lt
        have hXB5 := HXB4.out.below hb5 HXB4.out.lt
        have hB5 := HB4.out.trans (hb5.mono HB4.out.size)
        have hO5 := HO4.out.below hb5 (Nat.le_refl _)
        have hOO5 := HOO4.out.below hb5 (Nat.le_refl _)
        have hOB5 := HOB4.out.below hb5 (Nat.le_refl _)
        have HX5 := Lib.hid hX5; have HXB5 := Lib.hid hXB5; have HB5 := Lib.hid hB5; have HO5 := Lib.hid hO5; have HOO5 := Lib.hid hOO5; have HOB5 := Lib.hid hOB5
        clear hA5 hX5 hXB5 hB5 hO5 hOO5 hOB5 hb5 y0 y1 y2 y3 HA4 HX4 HXB4 HB4 HO4 HOO4 HOB4
        go_wp2_with fail
        refine (HRF.out _ HB5.out).mono ?_
        rintro e w6 ⟨rfl, hb6⟩
        have hX6 := HX5.out.below hb6 HX5.out.lt
        have hXB6 := HXB5.out.below hb6 HXB5.out.lt
        obtain ⟨p0, p1, p2, p3⟩ := box_cells hX6
        obtain ⟨r0, r1, r2, r3⟩ := box_cells hXB6
        have hB6 := HB5.out.trans (hb6.mono HB5.out.size)
        have hO6 := HO5.out.below hb6 (Nat.le_refl _)
        have hOO6 := HOO5.out.below hb6 (Nat.le_refl _)
        have hOB6 := HOB5.out.below hb6 (Nat.le_refl _)
        have HSM := Lib.hid (HSY.out va vb vc vd w6 (hO6.strs (Nat.le_refl _)) (hOB6.strs (Nat.le_refl _)))
        have HX6 := Lib.hid hX6; have HB6 := Lib.hid hB6; have HO6 := Lib.hid hO6; have HOO6 := Lib.hid hOO6
        clear hX6 hXB6 hB6 hO6 hOO6 hOB6 hb6 z0 z1 z2 z3 HX5 HXB5 HB5 HO5 HOO5 HOB5 HSY
        go_wp2_with fail
        refine HSM.out.mono ?_
        rintro e w7 ⟨rfl, hb7⟩
        have HU7 : Hid (UseSt w w7 w2.heap.size w3.heap.size va vc xs.length oa oc x0 x1 x2 rs) :=
          ⟨⟨_, HO6.out.below hb7 (Nat.le_refl _)⟩, HOO6.out.below hb7 (Nat.le_refl _), HOB.out, HX6.out.below hb7 HX6.out.lt, HVA.out, HB6.out.trans (hb7.mono HB6.out.size), HL2.out⟩
        clear hb7 HO6 HOO6 HX6 HB6 HSM p0 p1 p2 p3 r0 r1 r2 r3 HVA HOB HL2
        generalize w2.heap.size = bA at *
        generalize w3.heap.size = gA at *
        go_wp2_with fail
        obtain ⟨ha', hc', hbl, hoff, hee, -, haa, hcc⟩ := HC0.out
        injection hee with e1 e2 e3
        subst e1 e3
        have HAA := Lib.hid haa; have HCC := Lib.hid hcc
        clear haa hcc HC0
        go_loopw [21] (fun i wr => ∃ k : Nat, k ≤ xs.length ∧ i = .int .i64 k ∧ Hid (UseSt w wr bA gA va vc xs.length oa oc x0 x1 x2 rs)) (fun i _ => xs.length - (intOf i).toNat)
        case atStart => exact ⟨0, by omega, rfl, HU7⟩
        case round =>
          clear HU7
          obtain ⟨k, hk, rfl, hU⟩ := hrel
          obtain ⟨-, -, -, v3⟩ := box_cells hU.out.x
          by_cases hlt : k < xs.length
          · obtain ⟨cs, hO⟩ := hU.out.a
            obtain ⟨g, rfl, -, -, hcell, hfz⟩ := hO.cell (by omega)
            have hcl : k < cs.length := by have := hO.length; omega
            have c0 := hcell k _ (List.getElem?_eq_getElem hcl)
            have f0 := hfz k
            obtain ⟨old, hold⟩ : ∃ u, cs[k] = u := ⟨_, rfl⟩
            rw [hold] at c0
            have HN := Lib.hid (hU.out.set (j := k) (.string ⟨#[55, 55]⟩))
            have i1 : (0 : Int) ≤ (k : Int) := by omega
            have i2 : (k : Int) < (xs.length : Int) := by omega
            clear hold hcell hfz hO hU hcl
            go_wp2
            go_roundw
            case rel => exact ⟨k + 1, by omega, by go_num, HN⟩
            case measure => simp [intOf]; omega
          · have hkl : xs.length ≤ k := by omega
            obtain ⟨w9, rfl⟩ : ∃ w9 : World, w9 = wr := ⟨_, rfl⟩
            go_wp2
            clear v3
            go_loopw [22] (fun i wr => ∃ k : Nat, k ≤ rs.length ∧ i = .int .i64 k ∧ Hid (UseSt w wr bA gA va vc xs.length oa oc x0 x1 x2 rs)) (fun i _ => rs.length - (intOf i).toNat)
            case atStart => exact ⟨0, by omega, rfl, hU⟩
            case round =>
              clear hU
              obtain ⟨m, hm, rfl, hU⟩ := hrel
              by_cases hlm : m < rs.length
              · obtain ⟨rfl, hbw⟩ := HAA.out (by omega)
                have x0' := (hU.out.b.cell (p := ⟨hbl, hoff + m, none⟩) hbw).trans (HCC.out m hlm)
                obtain ⟨g, rfl, -, -, hcell, -⟩ := hU.out.o.cell (by omega)
                have c0 := hcell m (.string rs[m]) (by rw [List.getElem?_map, List.getElem?_eq_getElem hlm]; rfl)
                obtain ⟨t, ht⟩ : ∃ t, rs[m] = t := ⟨_, rfl⟩
                rw [ht] at c0 x0'
                have i1 : (0 : Int) ≤ (m : Int) := by omega
                have i2 : (m : Int) < (rs.length : Int) := by omega
                clear ht hcell
                go_wp2
                go_quiet (fail)
                have HN := Lib.hid (hU.out.drewN nq)
                go_wp2
                go_roundw
                case rel => exact ⟨m + 1, by omega, by go_num, HN⟩
                case measure => simp [intOf]; omega
              · have hml : rs.length ≤ m := by omega
                go_wp2
                go_ret
                exact ⟨rfl, hU.out.b⟩
      · rw [g3] at HG3
        clear g1 g2 g3 hn hs hpw hun hus hup hr hur hl hul
        go_enter Try.func3, Try.ntmps3
        go_wp2_with fail
        refine HG1.out.mono ?_
        rintro e w' ⟨rfl, rfl⟩
        go_wp2_with fail
        refine (HG2.out _ HB1.out).mono ?_
        rintro e w' ⟨rfl, rfl⟩
        go_wp2_with fail
        refine (HG3.out _ HB1.out).mono ?_
        rintro e w' ⟨rfl, rfl⟩
        go_wp2_with fail
        go_ret
        exact ⟨rfl, HB1.out⟩
    · rw [g2] at HG2
      clear g1 g2 hn hs hpw hun hus hup hr hur hl hul
      go_enter Try.func3, Try.ntmps3
      go_wp2_with fail
      refine HG1.out.mono ?_
      rintro e w' ⟨rfl, rfl⟩
      go_wp2_with fail
      refine (HG2.out _ HB1.out).mono ?_
      rintro e w' ⟨rfl, rfl⟩
      go_wp2_with fail
      go_ret
      exact ⟨rfl, HB1.out⟩
  · rw [g1] at HG1
    clear g1 hn hs hpw hun hus hup hr hur hl hul
    go_enter Try.func3, Try.ntmps3
    go_wp2_with fail
    refine HG1.out.mono ?_
    rintro e w' ⟨rfl, rfl⟩
    go_wp2_with fail
    go_ret
    exact ⟨rfl, HB1.out⟩
end Go.Proofs.Ytkiepajhakoeiaa
