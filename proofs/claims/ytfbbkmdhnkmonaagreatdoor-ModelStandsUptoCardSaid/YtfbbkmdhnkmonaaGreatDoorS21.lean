/- package guard: row. -/
import Derived.Test.YtfbbkmdhnkmonaaGreatDoorS05
import Derived.Deep.RegionHeld3
import Derived.Deep.RegionWith
namespace Go.Proofs.YtfbbkmdhnkmonaaGreatDoor
open Go.RowKit

/-- how a function of the grammar ends -/
def PEnd (R : Nat) (s : ByteArray) (p : Nat → PR) (st : GSt) (w : World) (e : Ending) (w' : World) : Prop :=
  KeepR R w w' ∧ ∃ fu r, p fu = some r ∧ match r with
    | .ok (g, st1) => (∃ cs : List Value, e = .returned (.agg cs.toArray) ∧ GIs (fun k => k < w.heap.size) w' g cs) ∧ RdIs R w' s st1 ∧ GS s st1 ∧ st.pos ≤ st1.pos
    | .error a => e = faultE a
/-- a function of the grammar, at states that leave less than N -/
def SubC (R : Nat) (s : ByteArray) (N : Nat) (F : FuncId) (nt : NT) : Prop :=
  ∀ (st : GSt) (w : World), s.size - st.pos < N → GS s st → RdIs R w s st → GW R w → Calls Tryz.prog F #[.pointer (some ⟨R, 0, none⟩)] w (PEnd R s (fun fu => pars s fu nt st) st w)

theorem GIs.len {X : Nat → Prop} {w : World} {t : GT} {cs : List Value} (h : GIs X w t cs) : cs.length = 4 := by
  obtain ⟨_, _, _, _, _, _, rfl⟩ := h.four; rfl
/-- what is still to come decides -/
def Cont (s : ByteArray) (nt : NT) (kinds : ByteArray → Option Nat) (P : Nat → PR) (g : GT) (st : GSt) : Prop :=
  ∀ fu r, rowL s (pars s fu nt) kinds fu g st = some r → ∃ fu', P fu' = some r
theorem cont_first {s : ByteArray} {nt : NT} {kinds : ByteArray → Option Nat} {st st1 : GSt} {g : GT} {fu0 : Nat} (h : pars s fu0 nt st = some (.ok (g, st1))) :
    Cont s nt kinds (fun fu => thenP (pars s fu nt st) fun g st1 => rowL s (pars s fu nt) kinds fu g st1) g st1 := by
  intro fu r hr
  refine ⟨max fu0 fu, ?_⟩
  show thenP (pars s (max fu0 fu) nt st) _ = _
  rw [pars_up (Nat.le_max_left fu0 fu) nt _ _ h]
  exact rowL_up (pars_up (Nat.le_max_right fu0 fu) nt) kinds fu _ _ _ _ (Nat.le_max_right fu0 fu) hr
theorem cont_next {s : ByteArray} {nt : NT} {kinds : ByteArray → Option Nat} {P : Nat → PR} {st st1 st2 : GSt} {g h : GT} {k fu0 : Nat} (hc : Cont s nt kinds P g st) (hk : kinds st.now = some k) (hs : stepB s st.i = .ok st1)
    (hp : pars s fu0 nt st1 = some (.ok (h, st2))) : Cont s nt kinds P (.two k g h) st2 := by
  intro fu r hr
  refine hc (max fu0 fu + 1) r ?_
  rw [rowL, hk]
  simp only [hs]
  rw [pars_up (by omega : fu0 ≤ max fu0 fu + 1) nt _ _ hp]
  exact rowL_up (pars_up (by omega : fu ≤ max fu0 fu + 1) nt) kinds fu _ _ _ _ (Nat.le_max_right fu0 fu) hr
theorem cont_end {s : ByteArray} {nt : NT} {kinds : ByteArray → Option Nat} {P : Nat → PR} {st : GSt} {g : GT} (hc : Cont s nt kinds P g st) (hk : kinds st.now = none) : ∃ fu', P fu' = some (.ok (g, st)) :=
  hc 1 _ (by rw [rowL, hk])
theorem cont_step_err {s : ByteArray} {nt : NT} {kinds : ByteArray → Option Nat} {P : Nat → PR} {st : GSt} {g : GT} {k a : Nat} (hc : Cont s nt kinds P g st) (hk : kinds st.now = some k) (hs : stepB s st.i = .error a) : ∃ fu', P fu' = some (.error a) :=
  hc 1 _ (by rw [rowL, hk]; simp only [hs])
theorem cont_sub_err {s : ByteArray} {nt : NT} {kinds : ByteArray → Option Nat} {P : Nat → PR} {st st1 : GSt} {g : GT} {k fu0 a : Nat} (hc : Cont s nt kinds P g st) (hk : kinds st.now = some k) (hs : stepB s st.i = .ok st1)
    (hp : pars s fu0 nt st1 = some (.error a)) : ∃ fu', P fu' = some (.error a) :=
  hc (fu0 + 1) _ (by rw [rowL, hk]; simp only [hs]; rw [pars_up (Nat.le_succ fu0) nt _ _ hp])
theorem GS.max {s : ByteArray} {st : GSt} (h : GS s st) (hs : s.size ≤ 17000) : st.now.size ≤ maxLen := Nat.le_trans h.short (Nat.le_trans hs (by decide))
def posI (R : Nat) (w : World) : Nat := (intOf ((w.cell? ⟨R, 2, none⟩).getD undef)).toNat
theorem posI_eq {R : Nat} {w : World} {s : ByteArray} {st : GSt} (h : RdIs R w s st) : posI R w = st.pos := by
  rw [posI, (rd_cells h).2.2.1]; simp [intOf]
theorem zeroU8 (W : World) : (zeroValue 5).run Tryz.prog W = .ok (.int .u8 0) W := Tryz.zeroValue5 W

abbrev zeroG : List Value := [.int .u8 0, .int .i64 0, .string ⟨#[]⟩, .slice none 0 0]
/-- at the loop's head -/
structure RowSt (R : Nat) (s : ByteArray) (w : World) (mb : Nat) (ents : Ents) (gb : Nat) (nt : NT) (kinds : ByteArray → Option Nat) (P : Nat → PR) (st : GSt) (wr : World) (st1 : GSt) (g : GT) (cs : List Value) : Prop where
  rd : RdIs R wr s st1
  gs : GS s st1
  keep : KeepR R w wr
  map : MapIs wr mb ents
  out : Arr wr w.heap.size 80 zeroG
  cell : Arr wr gb 80 cs
  gis : GIs (fun k => k < w.heap.size + 1 ∨ k = gb) wr g cs
  cont : Cont s nt kinds P g st1
  pos : st.pos ≤ st1.pos
theorem row_next {R : Nat} {s : ByteArray} {w : World} {mb : Nat} {ents : Ents} {gb : Nat} {nt : NT} {kinds : ByteArray → Option Nat} {P : Nat → PR} {st : GSt} {wr : World} {st1 : GSt} {g : GT} {cs : List Value} (h : RowSt R s w mb ents gb nt kinds P st wr st1 g cs)
    {w6 : World} (hk : KeepR R wr w6) {st5 : GSt} (hr : RdIs R w6 s st5) {c0 c1 c2 c3 d0 d1 d2 d3 : Value} (hc : Arr w6 gb 80 [c0, c1, c2, c3]) (hg : GS s st5) {g7 : GT} (hct : Cont s nt kinds P g7 st5)
    (hx : GIs (fun k => k < w.heap.size + 1 ∨ k = gb) w6 g7 [d0, d1, d2, d3]) (hp : st.pos ≤ st5.pos) (hRw : R < w.heap.size) (hgb : w.heap.size < gb) (hmb : mb ≠ gb) (hmR : mb ≠ R) :
    RowSt R s w mb ents gb nt kinds P st ((((w6.setCell ⟨gb, 0, none⟩ d0).setCell ⟨gb, 1, none⟩ d1).setCell ⟨gb, 2, none⟩ d2).setCell ⟨gb, 3, none⟩ d3) st5 g7 [d0, d1, d2, d3] := by
  have hK : ∀ {W : World} (j : Nat) (v : Value), KeepR R w W → KeepR R w (W.setCell ⟨gb, j, none⟩ v) := fun j v h => h.setNew (p := ⟨gb, j, none⟩) (by show _ ≤ gb; omega) v
  have hF : ∀ {W : World} (j : Nat) (v : Value), RdIs R W s st5 → RdIs R (W.setCell ⟨gb, j, none⟩ v) s st5 := fun j v h => Arr.far h (a := ⟨gb, j, none⟩) (by show R ≠ gb; omega) v
  have hX : ∀ {W : World} (j : Nat) (v : Value), GIs (fun k => k < w.heap.size + 1 ∨ k = gb) W g7 [d0, d1, d2, d3] → GIs (fun k => k < w.heap.size + 1 ∨ k = gb) (W.setCell ⟨gb, j, none⟩ v) g7 [d0, d1, d2, d3] := fun j v h => h.setCell (p := ⟨gb, j, none⟩) (.inr rfl) v
  have hM : ∀ {W : World} (j : Nat) (v : Value), MapIs W mb ents → MapIs (W.setCell ⟨gb, j, none⟩ v) mb ents := fun j v h => h.setCell (a := ⟨gb, j, none⟩) hmb v
  have hO : ∀ {W : World} (j : Nat) (v : Value), Arr W w.heap.size 80 zeroG → Arr (W.setCell ⟨gb, j, none⟩ v) w.heap.size 80 zeroG := fun j v h => Arr.far h (a := ⟨gb, j, none⟩) (by show w.heap.size ≠ gb; omega) v
  have hm6 : MapIs w6 mb ents := h.map.kept (hk.block mb h.map.lt hmR)
  exact ⟨hF 3 _ (hF 2 _ (hF 1 _ (hF 0 _ hr))), hg, hK 3 _ (hK 2 _ (hK 1 _ (hK 0 _ (h.keep.trans hk)))), hM 3 _ (hM 2 _ (hM 1 _ (hM 0 _ hm6))), hO 3 _ (hO 2 _ (hO 1 _ (hO 0 _ (h.out.keepR hk (by omega))))),
    (((hc.set 0 d0).set 1 d1).set 2 d2).set 3 d3, hX 3 _ (hX 2 _ (hX 1 _ (hX 0 _ hx))), hct, hp⟩
set_option maxHeartbeats 8000000 in
set_option maxRecDepth 100000 in
theorem row_walk {R : Nat} {s : ByteArray} {N : Nat} {F : FuncId} {nt : NT} {kinds : ByteArray → Option Nat} {ents : Ents} {mb : Nat} (hs : s.size ≤ 17000) (hE : ∀ (args : Array Value) (w : World), (callFunc F args).run Tryz.prog w = .ok (.enter F args) w) (hsub : SubC R s N F nt)
    (hk : ∀ x, getM ents x = (kinds x).map fun (k : Nat) => Value.int .u8 (k : Int)) (hne : ∀ x k, kinds x = some k → x.size ≠ 0) (st : GSt) (w : World) (hM : s.size - st.pos < N) (hg : GS s st) (h : RdIs R w s st) (hv : GW R w) (hm : MapIs w mb ents) (hmb : mb ≠ R) :
    Calls Tryz.prog 117 #[.pointer (some ⟨R, 0, none⟩), .func (.func F) #[.pointer (some ⟨R, 0, none⟩)] #[], .map (some mb)] w (PEnd R s (fun fu => thenP (pars s fu nt st) fun g st1 => rowL s (pars s fu nt) kinds fu g st1) st w) := by
  have HR0 := Lib.hid h
  have HV0 := Lib.hid hv
  have HM0 := Lib.hid hm
  have HG0 := Lib.hid hg
  have HSUB := Lib.hid hsub
  have HK := Lib.hid hk
  have HNE := Lib.hid hne
  obtain ⟨P, hP⟩ : ∃ P : Nat → PR, (fun fu => thenP (pars s fu nt st) fun g st1 => rowL s (pars s fu nt) kinds fu g st1) = P := ⟨_, rfl⟩
  have HP := Lib.hid hP
  rw [hP]
  clear h hv hm hg hsub hk hne hP
  go_enter Tryz.func117, Tryz.ntmps117
  go_wp2_with fail
  refine (HSUB.out st _ hM HG0.out (Arr.alloc HR0.out _) (HV0.out.keep (.of ((Below.refl _ _).alloc (Nat.le_refl _) _)))).mono ?_
  rintro e w2 ⟨hk2, fu0, r0, hr0, h2⟩
  replace hr0 : pars s fu0 nt st = some r0 := hr0
  have hRw : R < w.heap.size := Arr.lt HR0.out
  have HK2 := Lib.hid ((KeepR.of ((Below.refl w.heap.size w).alloc (Nat.le_refl _) (.cells #[.int .u8 0, .int .i64 0, .string ⟨#[]⟩, .slice none 0 0] 80))).trans hk2)
  have hp2 : w.heap.size < w2.heap.size := by have := hk2.size; rw [size_alloc] at this; omega
  have HA2 := Lib.hid ((Arr.new w [.int .u8 0, .int .i64 0, .string ⟨#[]⟩, .slice none 0 0] 80).keepR hk2 (by omega))
  clear hk2
  cases r0 with
  | error a =>
    simp only at h2
    subst h2
    exact ⟨rfl, HK2.out, fu0, .error a, by rw [← HP.out]; show thenP (pars s fu0 nt st) _ = _; rw [hr0]; rfl, rfl⟩
  | ok gs =>
    obtain ⟨g, st1⟩ := gs
    obtain ⟨⟨cs, rfl, hgi⟩, hr1, hg1, hpos⟩ := h2
    have HC1 := cont_first (kinds := kinds) hr0
    rw [HP.out] at HC1
    replace HC1 := Lib.hid HC1
    have hX1 : GIs (fun k => k < w.heap.size + 1 ∨ k = w2.heap.size) w2 g cs := hgi.mono (fun k hk h => by rw [size_alloc]; omega)
    have hm2 : MapIs w2 mb ents := HM0.out.kept (HK2.out.block mb HM0.out.lt hmb)
    have hmb2 : mb ≠ w2.heap.size := by have := hm2.lt; omega
    have HG1 := Lib.hid hg1
    obtain ⟨k1, n1, s1, a1, l1, c1, rfl⟩ := hgi.four
    have HR3 := Lib.hid (Arr.alloc hr1 (.cells #[.int .u8 k1, .int .i64 n1, .string s1, .slice a1 l1 c1] 80))
    have HA3 := Lib.hid (HA2.out.alloc (.cells #[.int .u8 k1, .int .i64 n1, .string s1, .slice a1 l1 c1] 80))
    have HB3 := Lib.hid (Arr.new w2 [.int .u8 k1, .int .i64 n1, .string s1, .slice a1 l1 c1] 80)
    have HM3 := Lib.hid (hm2.alloc (.cells #[.int .u8 k1, .int .i64 n1, .string s1, .slice a1 l1 c1] 80))
    have HK3 := Lib.hid (HK2.out.alloc (.cells #[.int .u8 k1, .int .i64 n1, .string s1, .slice a1 l1 c1] 80))
    have HG3 := Lib.hid (hX1.below ((Below.refl w2.heap.size w2).alloc (Nat.le_refl _) (.cells #[.int .u8 k1, .int .i64 n1, .string s1, .slice a1 l1 c1] 80)))
    obtain ⟨x0, x1, x2, x3⟩ := rd_cells HR3.out
    have hlk := HM3.out.lookup Tryz.underlying178 Tryz.underlying9 zeroU8 (k := st1.now) (HG1.out.max hs)
    have hgb1 : w.heap.size < w2.heap.size := hp2
    clear hr0 hgi hr1 hX1 hm2
    go_upto_region 2 with fail
    generalize w2.alloc (.cells #[.int .u8 k1, .int .i64 n1, .string s1, .slice a1 l1 c1] 80) = w3 at *
    have HRow : Hid (RowSt R s w mb ents w2.heap.size nt kinds P st w3 st1 g [.int .u8 k1, .int .i64 n1, .string s1, .slice a1 l1 c1]) := ⟨HR3.out, HG1.out, HK3.out, HM3.out, HA3.out, HB3.out, HG3.out, HC1.out, hpos⟩
    clear HR3 HG1 HK3 HM3 HA3 HB3 HG3 HC1 hpos HA2 HK2 hp2 hg1
    generalize w2.heap.size = gb at *
    go_wp2_with fail
    clear hlk x0 x1 x2 x3
    go_loopw [8, 9] (fun t8 t9 wr => ∃ st1 g cs, t8 = (getM ents st1.now).getD (.int .u8 0) ∧ t9 = .bool (getM ents st1.now).isSome ∧ Hid (RowSt R s w mb ents gb nt kinds P st wr st1 g cs)) (fun _ _ wr => s.size - posI R wr)
    case atStart => exact ⟨st1, g, _, rfl, rfl, HRow⟩
    case round =>
      clear HRow
      obtain ⟨st2, g2, cs2, rfl, rfl, HW⟩ := hrel
      have hkn := HK.out st2.now
      obtain ⟨x0, x1, x2, x3⟩ := rd_cells HW.out.rd
      cases hkd : kinds st2.now with
      | none =>
        rw [hkd] at hkn
        simp only [Option.map_none] at hkn
        rw [hkn]
        simp only [Option.getD_none, Option.isSome_none]
        have HKD := Lib.hid hkd
        obtain ⟨q1, m1, z1, b1, l2, c2, rfl⟩ := HW.out.gis.four
        have y0 := HW.out.cell.cell (j := 0) (by simp)
        have y1 := HW.out.cell.cell (j := 1) (by simp)
        have y2 := HW.out.cell.cell (j := 2) (by simp)
        have y3 := HW.out.cell.cell (j := 3) (by simp)
        have f0 := HW.out.out.frozen 0
        have f1 := HW.out.out.frozen 1
        have f2 := HW.out.out.frozen 2
        have f3 := HW.out.out.frozen 3
        have o0 := HW.out.out.cell (j := 0) (by simp)
        have o1 := HW.out.out.cell (j := 1) (by simp)
        have o2 := HW.out.out.cell (j := 2) (by simp)
        have o3 := HW.out.out.cell (j := 3) (by simp)
        simp only [List.getElem_cons_zero, List.getElem_cons_succ] at y0 y1 y2 y3 o0 o1 o2 o3
        clear hkd hkn
        go_wp2_with fail
        refine ret_guard (fn := Tryz.f117) rfl (g := w.heap.size) (cs := [.int .u8 q1, .int .i64 m1, .string z1, .slice b1 l2 c2]) rfl rfl rfl ((((HW.out.out.set 0 _).set 1 _).set 2 _).set 3 _) ?_
        obtain ⟨fu', hfu⟩ := cont_end HW.out.cont HKD.out
        have hX0 : ∀ {W : World} (j : Nat) (v : Value), GIs (fun k => k < w.heap.size + 1 ∨ k = gb) W g2 [.int .u8 q1, .int .i64 m1, .string z1, .slice b1 l2 c2] → GIs (fun k => k < w.heap.size + 1 ∨ k = gb) (W.setCell ⟨w.heap.size, j, none⟩ v) g2 [.int .u8 q1, .int .i64 m1, .string z1, .slice b1 l2 c2] := fun j v h => h.setCell (p := ⟨w.heap.size, j, none⟩) (.inl (Nat.lt_succ_self _)) v
        have hK0 : ∀ {W : World} (j : Nat) (v : Value), KeepR R w W → KeepR R w (W.setCell ⟨w.heap.size, j, none⟩ v) := fun j v h => h.setNew (p := ⟨w.heap.size, j, none⟩) (Nat.le_refl _) v
        have hF0 : ∀ {W : World} (j : Nat) (v : Value), RdIs R W s st2 → RdIs R (W.setCell ⟨w.heap.size, j, none⟩ v) s st2 := fun j v h => Arr.far h (a := ⟨w.heap.size, j, none⟩) (by show R ≠ w.heap.size; omega) v
        exact ⟨hK0 3 _ (hK0 2 _ (hK0 1 _ (hK0 0 _ HW.out.keep))), fu', _, hfu, ⟨_, rfl, (hX0 3 _ (hX0 2 _ (hX0 1 _ (hX0 0 _ HW.out.gis)))).mono (fun k _ h => .inl (Nat.lt_succ_of_lt h))⟩, hF0 3 _ (hF0 2 _ (hF0 1 _ (hF0 0 _ HW.out.rd))), HW.out.gs, HW.out.pos⟩
      | some k =>
        rw [hkd] at hkn
        simp only [Option.map_some] at hkn
        rw [hkn]
        simp only [Option.getD_some, Option.isSome_some]
        have HKD := Lib.hid hkd
        have hRwr : R < wr.heap.size := Arr.lt HW.out.rd
        have hNE := HNE.out _ _ hkd
        clear hkd hkn
        obtain ⟨X, hX⟩ : ∃ X, stepB s st2.i = X := ⟨_, rfl⟩
        have HX := Lib.hid hX
        have hst := step_walk R s st2 wr hs HW.out.gs.le HW.out.rd (HV0.out.keep HW.out.keep)
        rw [hX] at hst
        have HST := Lib.hid hst
        clear hX hst
        go_wp2_with fail
        refine HST.out.mono ?_
        rintro e w4 ⟨hk4, h4⟩
        have HK4 := Lib.hid hk4
        clear HST hk4
        cases X with
        | error a =>
          simp only at h4
          subst h4
          obtain ⟨fu', hfu⟩ := cont_step_err HW.out.cont HKD.out HX.out
          exact ⟨rfl, HW.out.keep.trans HK4.out, fu', _, hfu, rfl⟩
        | ok st3 =>
          obtain ⟨rfl, hr4⟩ := h4
          obtain ⟨hg4, hp4⟩ := step_gs HW.out.gs.le HX.out
          have hlt4 : st2.pos < st3.pos := by rcases HW.out.gs.adv with h | h <;> omega
          have HG4 := Lib.hid hg4
          have HR4 := Lib.hid hr4
          have HV4 := Lib.hid (HV0.out.keep (HW.out.keep.trans HK4.out))
          obtain ⟨q1, m1, z1, b1, l2, c2, rfl⟩ := HW.out.gis.four
          have hgbR : gb ≠ R := by omega
          have hpp := HW.out.pos
          have HC4 := Lib.hid (HW.out.cell.keepR HK4.out hgbR)
          have y0 := HC4.out.cell (j := 0) (by simp)
          have y1 := HC4.out.cell (j := 1) (by simp)
          have y2 := HC4.out.cell (j := 2) (by simp)
          have y3 := HC4.out.cell (j := 3) (by simp)
          simp only [List.getElem_cons_zero, List.getElem_cons_succ] at y0 y1 y2 y3
          clear hg4 hr4 x0 x1 x2 x3 hNE
          go_wp2_with fail
          refine wp_region_held_drew (S := fun _ => True) (by kernel_rfl) trivial (fun hH => ?_)
          have HR5 := Lib.hid (Arr.drew HR4.out)
          have HC5 := Lib.hid (Arr.drew HC4.out)
          have HK5 := Lib.hid (KeepR.drew HK4.out)
          have HV5 := Lib.hid (HV4.out.keep (KeepR.drew (KeepR.refl R w4)))
          clear HR4 HC4 HK4 HV4
          replace y0 := HC5.out.cell (j := 0) (by simp)
          replace y1 := HC5.out.cell (j := 1) (by simp)
          replace y2 := HC5.out.cell (j := 2) (by simp)
          replace y3 := HC5.out.cell (j := 3) (by simp)
          simp only [List.getElem_cons_zero, List.getElem_cons_succ] at y0 y1 y2 y3
          generalize w4.drew = Wd at *
          refine wpAnyH_take (i := 0) (oi := { dst := some 35, op := Op.move (Operand.tmp 8), type := 5, pos := "guard.go:115", after := #[], guard := none }) (v := .int .u8 k) rfl (by kernel_rfl) (by kernel_rfl) (by kernel_rfl) (fun _ _ _ h => h) (Or.inl ⟨by rfl, fun W hS => by go_simp⟩) hH ?_
          simp only [Act.put, List.setIfInBounds_toArray, List.set_cons_zero, List.set_cons_succ]
          refine wpAnyH_take (i := 2) (oi := { dst := some 37, op := Op.move (Operand.tmp 1), type := 130, pos := "guard.go:115", after := #[], guard := none }) (v := .func (.func F) #[.pointer (some ⟨R, 0, none⟩)] #[]) rfl (by kernel_rfl) (by kernel_rfl) (by kernel_rfl) (fun _ _ _ h => h) (Or.inl ⟨by rfl, fun W hS => by go_simp⟩) hH ?_
          simp only [Act.put, List.setIfInBounds_toArray, List.set_cons_zero, List.set_cons_succ]
          refine wpAnyH_ready (rs := [1, 3]) (by kernel_rfl) (by simp) ?_
          refine AllReadyH.cons (o := { dst := some 36, op := Op.load 80 (Operand.tmp 7), type := 80, pos := "guard.go:115", after := #[], guard := none }) rfl (fun K hK => ?_) (AllReadyH.cons (o := { dst := some 38, op := Op.call { callee := Callee.value (Operand.tmp 37), args := #[], argTypes := #[] }, type := 80, pos := "guard.go:115", after := #[{ on := 2, ground := Ground.data }], guard := none }) rfl (fun K hK => ?_) AllReadyH.nil)
          · go_simp
            refine hK.out _ _ trivial (fun hH => ?_)
            clear hK K
            try simp only [Act.put, List.setIfInBounds_toArray, List.set_cons_zero, List.set_cons_succ]
            refine wpAnyH_ready (rs := [3]) (by kernel_rfl) (by simp) ?_
            refine AllReadyH.cons (o := { dst := some 38, op := Op.call { callee := Callee.value (Operand.tmp 37), args := #[], argTypes := #[] }, type := 80, pos := "guard.go:115", after := #[{ on := 2, ground := Ground.data }], guard := none }) rfl (fun K hK => ?_) AllReadyH.nil
            go_simp
            refine (HSUB.out st3 Wd (by omega) HG4.out HR5.out HV5.out).mono ?_
            rintro e w5 ⟨hk5, fu5, r5, hr5, h5⟩
            replace hr5 : pars s fu5 nt st3 = some r5 := hr5
            rcases r5 with a | gs
            · simp only at h5
              subst h5
              obtain ⟨fu2, hfu⟩ := cont_sub_err HW.out.cont HKD.out HX.out hr5
              exact ⟨rfl, (HW.out.keep.trans HK5.out).trans hk5, fu2, _, hfu, rfl⟩
            obtain ⟨g5, st5⟩ := gs
            obtain ⟨⟨cs5, rfl, hgi5⟩, hr6, hg6, hpos6⟩ := h5
            have HCONT := Lib.hid (cont_next HW.out.cont HKD.out HX.out hr5)
            have HX5 := Lib.hid (GIs.keepR (X := fun k => k < w.heap.size + 1 ∨ k = gb) (Or.inl (by omega)) (HK5.out.trans hk5) HW.out.gis)
            have HX6 := Lib.hid (hgi5.mono (Y := fun k => k < w.heap.size + 1 ∨ k = gb) (fun k _ h => by have := HC5.out.lt; have := HK5.out.size; have := HW.out.out.lt; omega))
            have HC6 := Lib.hid (HC5.out.keepR hk5 hgbR)
            have HR6 := Lib.hid hr6
            have HG6 := Lib.hid hg6
            have HK6 := Lib.hid (HK5.out.trans hk5)
            obtain ⟨q5, m5, z5, b5, l5, c5, rfl⟩ := hgi5.four
            replace y0 := HC6.out.cell (j := 0) (by simp)
            replace y1 := HC6.out.cell (j := 1) (by simp)
            replace y2 := HC6.out.cell (j := 2) (by simp)
            replace y3 := HC6.out.cell (j := 3) (by simp)
            simp only [List.getElem_cons_zero, List.getElem_cons_succ] at y0 y1 y2 y3
            clear hk5 hr5 hgi5 hr6 hg6
            refine hK.out _ _ trivial (fun hH => ?_)
            clear hK K
            try simp only [Act.put, List.setIfInBounds_toArray, List.set_cons_zero, List.set_cons_succ]
            refine wpAnyH_ready (rs := [4]) (by kernel_rfl) (by simp) ?_
            refine AllReadyH.cons (o := { dst := some 39, op := Op.call { callee := Callee.value (Operand.func 144), args := #[Operand.tmp 35, Operand.tmp 36, Operand.tmp 38], argTypes := #[5, 80, 80] }, type := 80, pos := "guard.go:115", after := #[{ on := 0, ground := Ground.data }, { on := 1, ground := Ground.data }, { on := 3, ground := Ground.data }, { on := 3, ground := Ground.chain }], guard := none }) rfl (fun K hK => ?_) AllReadyH.nil
            go_simp
            refine (two_walk (fun k => k < w.heap.size + 1 ∨ k = gb) k g2 g5 [.int .u8 q1, .int .i64 m1, .string z1, .slice b1 l2 c2] [.int .u8 q5, .int .i64 m5, .string z5, .slice b5 l5 c5] w5 (fun k h => by have := HC6.out.lt; omega) HX5.out HX6.out).mono ?_
            rintro e w6 ⟨hb6, cs6, rfl, hgi6⟩
            have HC7 := Lib.hid (Arr.below HC6.out hb6 HC6.out.lt)
            have HR7 := Lib.hid (Arr.below HR6.out hb6 (Arr.lt HR6.out))
            have HK7 := Lib.hid (HK6.out.next hb6)
            have HX7 := Lib.hid hgi6
            obtain ⟨q6, m6, z6, b6, l6, c6, rfl⟩ := hgi6.four
            have f0 := HC7.out.frozen 0
            have f1 := HC7.out.frozen 1
            have f2 := HC7.out.frozen 2
            have f3 := HC7.out.frozen 3
            replace y0 := HC7.out.cell (j := 0) (by simp)
            replace y1 := HC7.out.cell (j := 1) (by simp)
            replace y2 := HC7.out.cell (j := 2) (by simp)
            replace y3 := HC7.out.cell (j := 3) (by simp)
            simp only [List.getElem_cons_zero, List.getElem_cons_succ] at y0 y1 y2 y3
            clear hb6 hgi6
            refine hK.out _ _ trivial (fun hH => ?_)
            clear hK K
            try simp only [Act.put, List.setIfInBounds_toArray, List.set_cons_zero, List.set_cons_succ]
            refine wpAnyH_ready (rs := [5]) (by kernel_rfl) (by simp) ?_
            refine AllReadyH.cons (o := { dst := none, op := Op.store 80 (Operand.tmp 7) (Operand.tmp 39), type := 0, pos := "guard.go:115", after := #[{ on := 4, ground := Ground.data }, { on := 4, ground := Ground.chain }, { on := 0, ground := Ground.phase }, { on := 1, ground := Ground.phase }, { on := 2, ground := Ground.phase }, { on := 3, ground := Ground.phase }, { on := 4, ground := Ground.phase }], guard := none }) rfl (fun K hK => ?_) AllReadyH.nil
            go_simp
            refine hK.out _ _ trivial (fun hH => ?_)
            clear hK K
            try simp only [Act.put, List.setIfInBounds_toArray, List.set_cons_zero, List.set_cons_succ]
            refine wpAnyH_done (by kernel_rfl) ?_ _
            have HROW := Lib.hid (row_next HW.out HK7.out HR7.out HC7.out HG6.out HCONT.out HX7.out (by omega) hRw hgb1 hmb2 hmb)
            generalize ((((w6.setCell ⟨gb, 0, none⟩ (.int .u8 q6)).setCell ⟨gb, 1, none⟩ (.int .i64 m6)).setCell ⟨gb, 2, none⟩ (.string z6)).setCell ⟨gb, 3, none⟩ (.slice b6 l6 c6)) = w7 at *
            clear HR5 HC5 HK5 HV5 HC6 HR6 HK6 HX5 HX6 HC7 HR7 HK7 HX7 y0 y1 y2 y3 f0 f1 f2 f3 HG4
            obtain ⟨x0, x1, x2, x3⟩ := rd_cells HROW.out.rd
            have hlk := HROW.out.map.lookup Tryz.underlying178 Tryz.underlying9 zeroU8 (k := st5.now) (HG6.out.max hs)
            go_wp2_with fail
            exact ⟨⟨st5, _, _, rfl, rfl, HROW⟩, by rw [posI_eq HROW.out.rd, posI_eq HW.out.rd]; have := HG6.out.pos; have := HG6.out.le; omega⟩
          · go_simp
            refine (HSUB.out st3 Wd (by omega) HG4.out HR5.out HV5.out).mono ?_
            rintro e w5 ⟨hk5, fu5, r5, hr5, h5⟩
            replace hr5 : pars s fu5 nt st3 = some r5 := hr5
            rcases r5 with a | gs
            · simp only at h5
              subst h5
              obtain ⟨fu2, hfu⟩ := cont_sub_err HW.out.cont HKD.out HX.out hr5
              exact ⟨rfl, (HW.out.keep.trans HK5.out).trans hk5, fu2, _, hfu, rfl⟩
            obtain ⟨g5, st5⟩ := gs
            obtain ⟨⟨cs5, rfl, hgi5⟩, hr6, hg6, hpos6⟩ := h5
            have HCONT := Lib.hid (cont_next HW.out.cont HKD.out HX.out hr5)
            have HX5 := Lib.hid (GIs.keepR (X := fun k => k < w.heap.size + 1 ∨ k = gb) (Or.inl (by omega)) (HK5.out.trans hk5) HW.out.gis)
            have HX6 := Lib.hid (hgi5.mono (Y := fun k => k < w.heap.size + 1 ∨ k = gb) (fun k _ h => by have := HC5.out.lt; have := HK5.out.size; have := HW.out.out.lt; omega))
            have HC6 := Lib.hid (HC5.out.keepR hk5 hgbR)
            have HR6 := Lib.hid hr6
            have HG6 := Lib.hid hg6
            have HK6 := Lib.hid (HK5.out.trans hk5)
            obtain ⟨q5, m5, z5, b5, l5, c5, rfl⟩ := hgi5.four
            replace y0 := HC6.out.cell (j := 0) (by simp)
            replace y1 := HC6.out.cell (j := 1) (by simp)
            replace y2 := HC6.out.cell (j := 2) (by simp)
            replace y3 := HC6.out.cell (j := 3) (by simp)
            simp only [List.getElem_cons_zero, List.getElem_cons_succ] at y0 y1 y2 y3
            clear hk5 hr5 hgi5 hr6 hg6
            refine hK.out _ _ trivial (fun hH => ?_)
            clear hK K
            try simp only [Act.put, List.setIfInBounds_toArray, List.set_cons_zero, List.set_cons_succ]
            refine wpAnyH_ready (rs := [1]) (by kernel_rfl) (by simp) ?_
            refine AllReadyH.cons (o := { dst := some 36, op := Op.load 80 (Operand.tmp 7), type := 80, pos := "guard.go:115", after := #[], guard := none }) rfl (fun K hK => ?_) AllReadyH.nil
            go_simp
            refine hK.out _ _ trivial (fun hH => ?_)
            clear hK K
            try simp only [Act.put, List.setIfInBounds_toArray, List.set_cons_zero, List.set_cons_succ]
            refine wpAnyH_ready (rs := [4]) (by kernel_rfl) (by simp) ?_
            refine AllReadyH.cons (o := { dst := some 39, op := Op.call { callee := Callee.value (Operand.func 144), args := #[Operand.tmp 35, Operand.tmp 36, Operand.tmp 38], argTypes := #[5, 80, 80] }, type := 80, pos := "guard.go:115", after := #[{ on := 0, ground := Ground.data }, { on := 1, ground := Ground.data }, { on := 3, ground := Ground.data }, { on := 3, ground := Ground.chain }], guard := none }) rfl (fun K hK => ?_) AllReadyH.nil
            go_simp
            refine (two_walk (fun k => k < w.heap.size + 1 ∨ k = gb) k g2 g5 [.int .u8 q1, .int .i64 m1, .string z1, .slice b1 l2 c2] [.int .u8 q5, .int .i64 m5, .string z5, .slice b5 l5 c5] w5 (fun k h => by have := HC6.out.lt; omega) HX5.out HX6.out).mono ?_
            rintro e w6 ⟨hb6, cs6, rfl, hgi6⟩
            have HC7 := Lib.hid (Arr.below HC6.out hb6 HC6.out.lt)
            have HR7 := Lib.hid (Arr.below HR6.out hb6 (Arr.lt HR6.out))
            have HK7 := Lib.hid (HK6.out.next hb6)
            have HX7 := Lib.hid hgi6
            obtain ⟨q6, m6, z6, b6, l6, c6, rfl⟩ := hgi6.four
            have f0 := HC7.out.frozen 0
            have f1 := HC7.out.frozen 1
            have f2 := HC7.out.frozen 2
            have f3 := HC7.out.frozen 3
            replace y0 := HC7.out.cell (j := 0) (by simp)
            replace y1 := HC7.out.cell (j := 1) (by simp)
            replace y2 := HC7.out.cell (j := 2) (by simp)
            replace y3 := HC7.out.cell (j := 3) (by simp)
            simp only [List.getElem_cons_zero, List.getElem_cons_succ] at y0 y1 y2 y3
            clear hb6 hgi6
            refine hK.out _ _ trivial (fun hH => ?_)
            clear hK K
            try simp only [Act.put, List.setIfInBounds_toArray, List.set_cons_zero, List.set_cons_succ]
            refine wpAnyH_ready (rs := [5]) (by kernel_rfl) (by simp) ?_
            refine AllReadyH.cons (o := { dst := none, op := Op.store 80 (Operand.tmp 7) (Operand.tmp 39), type := 0, pos := "guard.go:115", after := #[{ on := 4, ground := Ground.data }, { on := 4, ground := Ground.chain }, { on := 0, ground := Ground.phase }, { on := 1, ground := Ground.phase }, { on := 2, ground := Ground.phase }, { on := 3, ground := Ground.phase }, { on := 4, ground := Ground.phase }], guard := none }) rfl (fun K hK => ?_) AllReadyH.nil
            go_simp
            refine hK.out _ _ trivial (fun hH => ?_)
            clear hK K
            try simp only [Act.put, List.setIfInBounds_toArray, List.set_cons_zero, List.set_cons_succ]
            refine wpAnyH_done (by kernel_rfl) ?_ _
            have HROW := Lib.hid (row_next HW.out HK7.out HR7.out HC7.out HG6.out HCONT.out HX7.out (by omega) hRw hgb1 hmb2 hmb)
            generalize ((((w6.setCell ⟨gb, 0, none⟩ (.int .u8 q6)).setCell ⟨gb, 1, none⟩ (.int .i64 m6)).setCell ⟨gb, 2, none⟩ (.string z6)).setCell ⟨gb, 3, none⟩ (.slice b6 l6 c6)) = w7 at *
            clear HR5 HC5 HK5 HV5 HC6 HR6 HK6 HX5 HX6 HC7 HR7 HK7 HX7 y0 y1 y2 y3 f0 f1 f2 f3 HG4
            obtain ⟨x0, x1, x2, x3⟩ := rd_cells HROW.out.rd
            have hlk := HROW.out.map.lookup Tryz.underlying178 Tryz.underlying9 zeroU8 (k := st5.now) (HG6.out.max hs)
            go_wp2_with fail
            exact ⟨⟨st5, _, _, rfl, rfl, HROW⟩, by rw [posI_eq HROW.out.rd, posI_eq HW.out.rd]; have := HG6.out.pos; have := HG6.out.le; omega⟩
end Go.Proofs.YtfbbkmdhnkmonaaGreatDoor
