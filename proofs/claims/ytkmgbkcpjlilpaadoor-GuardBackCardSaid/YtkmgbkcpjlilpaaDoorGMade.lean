/- package guard: made, asked, deep, Text. -/
import Derived.Test.YtkmgbkcpjlilpaaDoorGMade2
import Derived.Test.YtkmgbkcpjlilpaaDoorGMade3
import Derived.Test.YtkmgbkcpjlilpaaDoorGMade4
namespace Go.Proofs.YtkmgbkcpjlilpaaDoor
open Go.RowKit

theorem made_walk : ∀ d, MadeIH d
  | 0 => fun g _ _ h _ _ _ => by rw [g.deep_eq] at h; omega
  | d + 1 => fun g cs w hd hr hz h => by
    have ih := made_walk d
    obtain ⟨k, n, s, _, _, _, _, heg, -⟩ := h.kid
    have hC : ∀ {C : Nat → Prop}, C k → ∀ k' n' s' l', g = .node k' n' s' l' → C k' := fun hc k' n' s' l' e => by
      rw [heg] at e
      simp only [GD.node.injEq] at e
      exact e.1 ▸ hc
    have : k = 0 ∨ k = 1 ∨ k = 2 ∨ k = 3 ∨ k = 4 ∨ k = 5 ∨ k = 6 ∨ k = 7 ∨ k = 8 ∨ (9 ≤ k ∧ k ≤ 15) ∨ 15 < k := by omega
    rcases this with h0 | h0 | h0 | h0 | h0 | h0 | h0 | h0 | h0 | h0 | h0
    · exact made_cother ih g cs w hd hr hz h (hC (C := fun k => k = 0 ∨ 15 < k) (.inl h0))
    · exact made_c1 ih g cs w hd hr hz h (hC (C := fun k => k = 1) h0)
    · exact made_c2 ih g cs w hd hr hz h (hC (C := fun k => k = 2) h0)
    · exact made_c3 ih g cs w hd hr hz h (hC (C := fun k => k = 3) h0)
    · exact made_c4 ih g cs w hd hr hz h (hC (C := fun k => k = 4) h0)
    · exact made_c5 ih g cs w hd hr hz h (hC (C := fun k => k = 5) h0)
    · exact made_c6 ih g cs w hd hr hz h (hC (C := fun k => k = 6) h0)
    · exact made_c7 ih g cs w hd hr hz h (hC (C := fun k => k = 7) h0)
    · exact made_c8 ih g cs w hd hr hz h (hC (C := fun k => k = 8) h0)
    · exact made_cpair ih g cs w hd hr hz h (hC (C := fun k => 9 ≤ k ∧ k ≤ 15) h0)
    · exact made_cother ih g cs w hd hr hz h (hC (C := fun k => k = 0 ∨ 15 < k) (.inr h0))

set_option maxHeartbeats 4000000 in
set_option maxRecDepth 100000 in
/-- guard.deep, at any guard -/
theorem deepD_walk : ∀ (d : Nat) (g : GD) (cs : List Value) (w : World), g.deep ≤ d → d ≤ 1000000 → GIn w g cs →
    Calls Tryd.prog 15 #[.agg cs.toArray] w fun e w' => e = .returned (.int .i64 (g.deep : Int)) ∧ Below w.heap.size w w'
  | 0, g, _, _, h, _, _ => by rw [g.deep_eq] at h; omega
  | d + 1, g, cs, w, hd, hmax, h => by
    have HIH := Lib.hid (fun (g : GD) (cs : List Value) (w : World) (h1 : g.deep ≤ d) (h2 : GIn w g cs) => deepD_walk d g cs w h1 (by omega) h2)
    obtain ⟨k, n, sx, a, c, b, off, -, rfl, hl, -, hb, hk⟩ := h.kid
    have HK := Lib.hid hk
    have hde := g.deep_eq
    have HALL := Lib.hid (fun m (h : g.kids.length ≤ m) => (show GD.deeps (g.kids.take m) + 1 = g.deep by rw [List.take_of_length_le h, hde]))
    have HSUC := Lib.hid (fun m (h : m < g.kids.length) => deeps_take_succ (l := g.kids) h)
    have HLT := Lib.hid (fun m => (show GD.deeps (g.kids.take m) < g.deep by have := deeps_take_le g.kids m; omega))
    have HKD := Lib.hid (fun m (h : m < g.kids.length) => (show g.kids[m].deep < g.deep by have := deeps_mem (List.getElem_mem h); omega))
    have h00 : GD.deeps (g.kids.take 0) = 0 := rfl
    obtain ⟨l, hl'⟩ : ∃ l, g.kids.length = l := ⟨_, rfl⟩
    rw [hl'] at hb hl ⊢
    have HL := Lib.hid hl'
    unfold maxLen at hl
    clear hk hl' h hde
    go_enter Tryd.func15, Tryd.ntmps15
    go_wp2_with fail
    go_loopw [3, 9] (fun n i wr => ∃ m : Nat, m ≤ l ∧ n = .int .i64 (GD.deeps (g.kids.take m) : Int) ∧ i = .int .i64 (m : Int) ∧ Hid (Below w.heap.size w wr)) (fun _ i _ => l - (intOf i).toNat)
    case atStart => exact ⟨0, Nat.zero_le _, by rw [h00]; rfl, rfl, (Below.refl _ _).alloc (Nat.le_refl _) _⟩
    case round =>
      obtain ⟨m, hm, rfl, rfl, HB⟩ := hrel
      by_cases hml : m < l
      · obtain ⟨rfl, hbl⟩ := hb (by omega)
        have i1 : (m : Int) < (l : Int) := by omega
        have i2 : (0 : Int) ≤ (m : Int) := by omega
        have hmk : m < g.kids.length := by rw [HL.out]; exact hml
        obtain ⟨c0, c1, c2, c3, y0, y1, y2, y3, hgi⟩ := HK.out m hmk
        replace y0 := (HB.out.cell (p := ⟨b, off + m * 4, none⟩) hbl).trans y0
        replace y1 := (HB.out.cell (p := ⟨b, off + m * 4 + 1, none⟩) hbl).trans y1
        replace y2 := (HB.out.cell (p := ⟨b, off + m * 4 + 2, none⟩) hbl).trans y2
        replace y3 := (HB.out.cell (p := ⟨b, off + m * 4 + 3, none⟩) hbl).trans y3
        obtain ⟨k2, n2, s2, a2, l2, cc2, he⟩ := hgi.four
        simp only [List.cons.injEq, and_true] at he
        obtain ⟨rfl, rfl, rfl, rfl⟩ := he
        have hkd := HKD.out m hmk
        have hIH := HIH.out g.kids[m] _ (wr.alloc (.cells #[.int .u8 k2, .int .i64 n2, .string s2, .slice a2 l2 cc2] 24)) (by omega) (hgi.keepB (HB.out.alloc HB.out.size _))
        have hsu := HSUC.out m hmk
        obtain ⟨q, hq⟩ : ∃ q, g.kids[m].deep = q := ⟨_, rfl⟩
        rw [hq] at hIH hsu hkd
        have HIH2 := Lib.hid hIH
        have HSU := Lib.hid hsu
        have hlt1 := HLT.out m
        have wr1 : IntKind.i64.wrap ((m : Int) + 1) = (m : Int) + 1 := wrap_i64 (by omega) (by omega)
        clear hIH hsu hgi
        go_wp2_with fail
        refine HIH2.out.mono ?_
        rintro e w2 ⟨rfl, hb2⟩
        have HB2 := Lib.hid hb2
        clear hb2 HIH2
        go_wp2_with fail
        refine ⟨⟨m + 1, by omega, ?_, rfl, ?_⟩, by simp only [intOf]; omega⟩
        · rw [HSU.out]
          simp only [Value.int.injEq, true_and]
          omega
        · exact (HB.out.alloc HB.out.size _).trans (HB2.out.mono (by rw [size_alloc]; have := HB.out.size; omega))
      · have hfin := HALL.out m (by rw [HL.out]; omega)
        have i1 : ¬ (m : Int) < (l : Int) := by omega
        have wr1 : IntKind.i64.wrap ((GD.deeps (g.kids.take m) : Int) + 1) = (g.deep : Int) := by rw [wrap_i64 (by omega) (by omega), ← hfin]; rfl
        clear hb hfin
        go_wp2_with fail
        go_ret
        exact ⟨rfl, HB.out⟩
/-- how asked ends -/
def AskedEnd (g : GD) (w : World) (e : Ending) (w' : World) : Prop := Below w.heap.size w w' ∧
  ((¬ (∃ t : GT, g = t.toGD ∧ t.may) ∧ e = .returned (.tuple #[.nilIface, .int .i64 8])) ∨
   ∃ t : GT, g = t.toGD ∧ t.may ∧ ((32 < t.deep ∧ e = .returned (.tuple #[.nilIface, .int .i64 161])) ∨ (t.deep ≤ 32 ∧ ∃ v, NodeV t v ∧ e = .returned (.tuple #[v, .int .i64 0]))))
set_option maxHeartbeats 4000000 in
set_option maxRecDepth 100000 in
theorem asked_walk (g : GD) (cs : List Value) (w : World) (hd : g.deep ≤ 1000000) (hr : g.inR) (hz : g.size ≤ 1000000) (h : GIn w g cs) : Calls Tryd.prog 21 #[.agg cs.toArray] w (AskedEnd g w) := by
  obtain ⟨k, n, sx, a, l, c, rfl⟩ := h.four
  obtain ⟨w1, hw1⟩ : ∃ w1, w.alloc (.cells #[.int .u8 k, .int .i64 n, .string sx, .slice a l c] 24) = w1 := ⟨_, rfl⟩
  have hb1 : Below w.heap.size w w1 := hw1 ▸ (Below.refl _ _).alloc (Nat.le_refl _) _
  have hx1 : Arr w1 w.heap.size 24 [.int .u8 k, .int .i64 n, .string sx, .slice a l c] := hw1 ▸ Arr.new w [.int .u8 k, .int .i64 n, .string sx, .slice a l c] _
  have HM := Lib.hid (made_walk 1000000 g _ w1 hd hr hz (h.keepB hb1))
  have HD := Lib.hid (fun W (hb : Below w.heap.size w W) => deepD_walk 1000000 g _ W hd (by omega) (h.keepB hb))
  have HB1 := Lib.hid hb1
  have HX1 := Lib.hid hx1
  have HW1 := Lib.hid hw1
  obtain ⟨z0, z1, z2, z3⟩ := box4 hx1 (Below.refl _ _)
  clear h hb1 hx1 hw1
  go_enter Tryd.func21, Tryd.ntmps21
  go_upto_region 1 with fail
  rw [HW1.out]
  go_wp2_with fail
  refine HM.out.mono ?_
  rintro e w2 ⟨hb2, v, b, rfl, hr1, hr2⟩
  have HB2 := Lib.hid (HB1.out.trans (hb2.mono HB1.out.size))
  clear z0 z1 z2 z3
  obtain ⟨z0, z1, z2, z3⟩ := box4 HX1.out hb2
  clear hb2 HM
  cases b with
  | false =>
    have HNO : Hid (¬ ∃ t : GT, g = t.toGD ∧ t.may) := fun h => absurd (hr2 h) (by decide)
    clear hr1 hr2
    go_wp2_with fail
    go_ret2
    exact ⟨HB2.out, .inl ⟨HNO.out, rfl⟩⟩
  | true =>
    obtain ⟨t, ht, hmay, hv⟩ := hr1 rfl
    obtain ⟨vT, vp, rfl⟩ := hv.iface
    have hgd : g.deep = t.deep := by rw [ht, toGD_deep]
    have HDD := Lib.hid (HD.out w2 HB2.out)
    rw [hgd] at HDD
    have HT := Lib.hid ht
    have HMAY := Lib.hid hmay
    have HV := Lib.hid hv
    clear hr1 hr2 ht hmay hv HD hd hgd hr hz
    go_wp2_with fail
    refine HDD.out.mono ?_
    rintro e w3 ⟨rfl, hb3⟩
    have HB3 := Lib.hid (HB2.out.trans (hb3.mono HB2.out.size))
    clear hb3 HDD z0 z1 z2 z3
    by_cases h32 : 32 < t.deep
    · have i1 : (32 : Int) < (t.deep : Int) := by omega
      have H32 := Lib.hid h32
      clear h32
      go_wp2_with fail
      go_ret2
      exact ⟨HB3.out, .inr ⟨t, HT.out, HMAY.out, .inl ⟨H32.out, rfl⟩⟩⟩
    · have i1 : ¬ (32 : Int) < (t.deep : Int) := by omega
      have H32 := Lib.hid h32
      clear h32
      go_wp2_with fail
      go_ret2
      exact ⟨HB3.out, .inr ⟨t, HT.out, HMAY.out, .inr ⟨Nat.not_lt.1 H32.out, _, HV.out, rfl⟩⟩⟩
/-- how Text ends -/
def TextEnd (g : GD) (w : World) (e : Ending) (w' : World) : Prop := Below w.heap.size w w' ∧
  ((¬ (∃ t : GT, g = t.toGD ∧ t.may) ∧ e = .returned (.tuple #[.string ⟨#[]⟩, .int .i64 8])) ∨
   ∃ t : GT, g = t.toGD ∧ t.may ∧ ((32 < t.deep ∧ e = .returned (.tuple #[.string ⟨#[]⟩, .int .i64 161])) ∨ (t.deep ≤ 32 ∧ ((16384 < t.txt.length ∧ e = .returned (.tuple #[.string ⟨#[]⟩, .int .i64 3])) ∨ (t.txt.length ≤ 16384 ∧ e = .returned (.tuple #[.string ⟨t.txt.toArray⟩, .int .i64 0]))))))
set_option maxHeartbeats 4000000 in
set_option maxRecDepth 100000 in
theorem Text_walk (g : GD) (cs : List Value) (w : World) (hd : g.deep ≤ 1000000) (hr : g.inR) (hz : g.size ≤ 1000000) (h : GIn w g cs) (hw : TabW w) : Calls Tryd.prog 10 #[.agg cs.toArray] w (TextEnd g w) := by
  obtain ⟨k, n, sx, a, l, c, rfl⟩ := h.four
  obtain ⟨w1, hw1⟩ : ∃ w1, w.alloc (.cells #[.int .u8 k, .int .i64 n, .string sx, .slice a l c] 24) = w1 := ⟨_, rfl⟩
  have hb1 : Below w.heap.size w w1 := hw1 ▸ (Below.refl _ _).alloc (Nat.le_refl _) _
  have hx1 : Arr w1 w.heap.size 24 [.int .u8 k, .int .i64 n, .string sx, .slice a l c] := hw1 ▸ Arr.new w [.int .u8 k, .int .i64 n, .string sx, .slice a l c] _
  have HA := Lib.hid (asked_walk g _ w1 hd hr hz (h.keepB hb1))
  have HB1 := Lib.hid hb1
  have HW1 := Lib.hid hw1
  have HTB := Lib.hid hw
  obtain ⟨z0, z1, z2, z3⟩ := box4 hx1 (Below.refl _ _)
  clear h hb1 hx1 hw1 hw hd hr
  go_enter Tryd.func10, Tryd.ntmps10
  go_upto_region 1 with fail
  rw [HW1.out]
  go_wp2_with fail
  refine HA.out.mono ?_
  rintro e w2 ⟨hb2, hend⟩
  have HB2 := Lib.hid (HB1.out.trans (hb2.mono HB1.out.size))
  clear z0 z1 z2 z3 hb2 HA
  rcases hend with ⟨hno, rfl⟩ | ⟨t, ht, hmay, ⟨h32, rfl⟩ | ⟨h32, v, hv, rfl⟩⟩
  · have HNO := Lib.hid hno
    clear hno
    go_wp2_with fail
    go_ret2
    exact ⟨HB2.out, .inl ⟨HNO.out, rfl⟩⟩
  · have HT := Lib.hid ht
    have HMAY := Lib.hid hmay
    have H32 := Lib.hid h32
    clear ht hmay h32
    go_wp2_with fail
    go_ret2
    exact ⟨HB2.out, .inr ⟨t, HT.out, HMAY.out, .inl ⟨H32.out, rfl⟩⟩⟩
  · have htx := text_walk t v w2 hmay hv (by rw [← ht]; omega) (HTB.out.below HB2.out)
    have HT := Lib.hid ht
    have HMAY := Lib.hid hmay
    have H32 := Lib.hid h32
    obtain ⟨p, T, rfl, hcall⟩ := htx
    have HC := Lib.hid hcall
    clear hmay h32 hcall HTB
    cases t with
    | leaf k3 n3 s3 =>
      obtain ⟨a3, c3, he⟩ := hv
      injection he with e1 e2
      subst e1; subst e2
      have hm := method_leaf
      simp only [textF] at HC
      go_wp2_with fail
      refine HC.out.mono ?_
      rintro e w3 ⟨rfl, hb3⟩
      have HB3 := Lib.hid (HB2.out.trans (hb3.mono HB2.out.size))
      obtain ⟨TT, hTT⟩ : ∃ TT, (GT.leaf k3 n3 s3).txt = TT := ⟨_, rfl⟩
      rw [hTT]
      have HTT := Lib.hid hTT
      clear hb3 HC hTT
      by_cases hl : 16384 < TT.length
      · have i1 : (16384 : Int) < (TT.length : Int) := by omega
        have HL := Lib.hid hl
        clear hl
        go_wp2_with fail
        go_ret2
        exact ⟨HB3.out, .inr ⟨(GT.leaf k3 n3 s3), HT.out, HMAY.out, .inr ⟨H32.out, .inl ⟨by rw [HTT.out]; exact HL.out, rfl⟩⟩⟩⟩
      · have i1 : ¬ (16384 : Int) < (TT.length : Int) := by omega
        have HL := Lib.hid hl
        clear hl
        go_wp2_with fail
        go_ret2
        exact ⟨HB3.out, .inr ⟨(GT.leaf k3 n3 s3), HT.out, HMAY.out, .inr ⟨H32.out, .inr ⟨by rw [HTT.out]; exact Nat.not_lt.1 HL.out, by rw [HTT.out]; rfl⟩⟩⟩⟩
    | one k3 a3 =>
      obtain ⟨u3, he, -⟩ := hv
      injection he with e1 e2
      subst e1; subst e2
      have hm := method_one
      simp only [textF] at HC
      go_wp2_with fail
      refine HC.out.mono ?_
      rintro e w3 ⟨rfl, hb3⟩
      have HB3 := Lib.hid (HB2.out.trans (hb3.mono HB2.out.size))
      obtain ⟨TT, hTT⟩ : ∃ TT, (GT.one k3 a3).txt = TT := ⟨_, rfl⟩
      rw [hTT]
      have HTT := Lib.hid hTT
      clear hb3 HC hTT
      by_cases hl : 16384 < TT.length
      · have i1 : (16384 : Int) < (TT.length : Int) := by omega
        have HL := Lib.hid hl
        clear hl
        go_wp2_with fail
        go_ret2
        exact ⟨HB3.out, .inr ⟨(GT.one k3 a3), HT.out, HMAY.out, .inr ⟨H32.out, .inl ⟨by rw [HTT.out]; exact HL.out, rfl⟩⟩⟩⟩
      · have i1 : ¬ (16384 : Int) < (TT.length : Int) := by omega
        have HL := Lib.hid hl
        clear hl
        go_wp2_with fail
        go_ret2
        exact ⟨HB3.out, .inr ⟨(GT.one k3 a3), HT.out, HMAY.out, .inr ⟨H32.out, .inr ⟨by rw [HTT.out]; exact Nat.not_lt.1 HL.out, by rw [HTT.out]; rfl⟩⟩⟩⟩
    | two k3 a3 b3 =>
      obtain ⟨n4, s4, p4, l4, c4, u3, u4, he, -, -⟩ := hv
      injection he with e1 e2
      subst e1; subst e2
      have hm := method_pair
      simp only [textF] at HC
      go_wp2_with fail
      refine HC.out.mono ?_
      rintro e w3 ⟨rfl, hb3⟩
      have HB3 := Lib.hid (HB2.out.trans (hb3.mono HB2.out.size))
      obtain ⟨TT, hTT⟩ : ∃ TT, (GT.two k3 a3 b3).txt = TT := ⟨_, rfl⟩
      rw [hTT]
      have HTT := Lib.hid hTT
      clear hb3 HC hTT
      by_cases hl : 16384 < TT.length
      · have i1 : (16384 : Int) < (TT.length : Int) := by omega
        have HL := Lib.hid hl
        clear hl
        go_wp2_with fail
        go_ret2
        exact ⟨HB3.out, .inr ⟨(GT.two k3 a3 b3), HT.out, HMAY.out, .inr ⟨H32.out, .inl ⟨by rw [HTT.out]; exact HL.out, rfl⟩⟩⟩⟩
      · have i1 : ¬ (16384 : Int) < (TT.length : Int) := by omega
        have HL := Lib.hid hl
        clear hl
        go_wp2_with fail
        go_ret2
        exact ⟨HB3.out, .inr ⟨(GT.two k3 a3 b3), HT.out, HMAY.out, .inr ⟨H32.out, .inr ⟨by rw [HTT.out]; exact Nat.not_lt.1 HL.out, by rw [HTT.out]; rfl⟩⟩⟩⟩
end Go.Proofs.YtkmgbkcpjlilpaaDoor
