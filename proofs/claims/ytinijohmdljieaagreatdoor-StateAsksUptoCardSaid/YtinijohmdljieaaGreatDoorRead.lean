/- pass.Read. -/
import Derived.Test.YtinijohmdljieaaGreatDoorH18
import Derived.Test.YtinijohmdljieaaGreatDoorH16
namespace Go.Proofs.YtinijohmdljieaaGreatDoor
open Go.RowKit

theorem ba_mk2 (b : ByteArray) : (⟨b.data.toList.toArray⟩ : ByteArray) = b := by cases b; simp
/-- what reading a text hands back -/
def ReadEnd (secret token : ByteArray) (clock : Int) (w : World) (e : Ending) (w' : World) : Prop :=
  (∃ (s : Sess) (x : Int), ReadIs secret.data.toList token.data.toList clock s x ∧ e = .returned (.tuple #[sessV s.id ⟨s.user.toArray⟩ s.untl, .int .i64 x])) ∧ Below w.heap.size w w'
theorem read_zero {secret token : ByteArray} {clock x : Int} {w W : World} (h : ReadIs secret.data.toList token.data.toList clock zeroS x) (hb : Below w.heap.size w W) : ReadEnd secret token clock w (.returned (.tuple #[sessV 0 ⟨#[]⟩ 0, .int .i64 x])) W := ⟨⟨zeroS, x, h, rfl⟩, hb⟩
theorem ret_read {g : Nat} {w : World} {a : Act} {u0 u1 u2 v : Value} {R : Ending → World → Prop} (hp : a.tmps.getD 6 undef = .pointer (some ⟨g, 0, none⟩)) (hv : a.tmps.getD 7 undef = v) (hd : a.defers = [])
    (h0 : w.cell? ⟨g, 0, none⟩ = some u0) (h1 : w.cell? ⟨g, 1, none⟩ = some u1) (h2 : w.cell? ⟨g, 2, none⟩ = some u2)
    (hR : R (.returned (.tuple #[.agg #[u0, u1, u2], v])) w) : bodyPost Tryz.prog Tryz.f37 R .ret a w := by
  refine bodyPost_ret ?_ hd hR
  subst hv
  have hp' : a.tmps[6]?.getD undef = .pointer (some ⟨g, 0, none⟩) := by simpa using hp
  simp [results, Tryz.results37, hp', go_sem, h0, h1, h2]
theorem below3 {B g : Nat} {w w1 : World} (h : Below B w w1) (hg : B ≤ g) (a b c : Value) : Below B w (((w1.setCell ⟨g, 0, none⟩ a).setCell ⟨g, 1, none⟩ b).setCell ⟨g, 2, none⟩ c) :=
  ((h.setCell (p := ⟨g, 0, none⟩) hg a).setCell (p := ⟨g, 1, none⟩) hg b).setCell (p := ⟨g, 2, none⟩) hg c
theorem BoxS.frozen {w : World} {i : Int} {n : ByteArray} {u : Int} {W : World} (h : BoxS w i n u W) (j : Nat) : W.frozen? ⟨w.heap.size, j, none⟩ = false := by
  rw [h.1.frozen (p := ⟨w.heap.size, j, none⟩) (by simp)]
  simp [World.frozen?, show (w.alloc (sessO i n u)).heap = w.heap.push (sessO i n u) from rfl]
/-- the user's name, whether it was read or not -/
def UserIs (r : Option (List UInt8)) (us : ByteArray) (ec : Int) : Prop := (r = some us.data.toList ∧ ec = 0) ∨ (r = none ∧ ec = 3 ∧ us = ⟨#[]⟩)
theorem unhex_len2 {s b : List UInt8} (h : unhex s = some b) : b.length ≤ s.length := by
  unfold unhex at h
  split at h
  · injection h with h
    rw [← h, uRow_len]; omega
  · cases h
theorem unhex2_walk (s : ByteArray) (w : World) (hs : s.size ≤ 1000000) :
    Calls Tryz.prog 78 #[.string s] w fun e w' => ∃ (a : Option Addr) (n c : Nat) (us : ByteArray) (ec : Int), e = .returned (.tuple #[.slice a n c, .int .i64 ec]) ∧ (convert 152 9 (.slice a n c)).run Tryz.prog w' = .ok (.string us) w' ∧ UserIs (unhex s.data.toList) us ec ∧ us.size ≤ s.size ∧ Below w.heap.size w w' := by
  refine (Unhex_walk s w hs).mono ?_
  rintro e w' ⟨⟨h, rfl⟩ | ⟨b, h, rfl, hA⟩, hb⟩
  · exact ⟨none, 0, 0, ⟨#[]⟩, 3, rfl, stringOf (Bytes.nil 0 w'), .inr ⟨h, rfl, rfl⟩, Nat.zero_le _, hb⟩
  · refine ⟨_, _, _, ⟨b.toArray⟩, 0, rfl, stringOf (hA.bytes rfl hA.lt), .inl ⟨h, rfl⟩, ?_, hb⟩
    have := unhex_len2 h
    rw [ba_len] at this
    exact this
theorem atoi2_walk (s : ByteArray) (w : World) (h : TokW w) (hs : s.size ≤ 1000000) : Calls Tryz.prog 77 #[.string s] w fun e w' => ∃ (v : Int) (E : Value), e = .returned (.tuple #[.int .i64 v, E]) ∧ ((E = .nilIface ∧ Lib.atoiAll s.data.toList = .ok v) ∨ ((∃ t p, E = .iface t p) ∧ ∀ v', Lib.atoiAll s.data.toList ≠ .ok v')) ∧ Below w.heap.size w w' := by
  refine (atoi_walk s w h hs).mono ?_
  rintro e w' ⟨⟨v, h1, rfl⟩ | ⟨h1, v, t, p, rfl⟩, hb⟩
  · exact ⟨v, _, rfl, .inl ⟨rfl, h1⟩, hb⟩
  · exact ⟨v, _, rfl, .inr ⟨⟨t, p, rfl⟩, h1⟩, hb⟩
/-- the text in four -/
theorem split4_walk (token : ByteArray) (w : World) (hw : TokW w) (ht : token.size ≤ 1000000) (h4 : Lib.countB token dot = 3) {l0 l1 l2 l3 : ByteArray} (hl : Lib.splitB dot 0 (Lib.countB token dot) token = [l0, l1, l2, l3]) :
    Calls Tryz.prog 76 #[.string token, .string ⟨#[46]⟩] w fun e w' => e = .returned (.slice (some ⟨w.heap.size, 0, none⟩) 4 4) ∧ w'.cell? ⟨w.heap.size, 0, none⟩ = some (.string l0) ∧ w'.cell? ⟨w.heap.size, 1, none⟩ = some (.string l1) ∧ w'.cell? ⟨w.heap.size, 2, none⟩ = some (.string l2) ∧ Below w.heap.size w w' := by
  refine (split_walk token w hw ht).mono ?_
  rintro e w' ⟨rfl, rfl⟩
  rw [hl, h4]
  refine ⟨rfl, ?_, ?_, ?_, (Below.refl _ _).alloc (Nat.le_refl _) _⟩ <;> go_simp <;> rfl
theorem four_pieces (token : ByteArray) (h4 : Lib.countB token dot = 3) : ∃ l0 l1 l2 l3, Lib.splitB dot 0 (Lib.countB token dot) token = [l0, l1, l2, l3] := by
  have hlen := Lib.splitB_all dot (by decide) 0 _ token rfl
  rw [h4] at hlen ⊢
  generalize Lib.splitB dot 0 3 token = L at hlen
  match L, hlen with
  | [a, b, c, d], _ => exact ⟨a, b, c, d, rfl⟩
theorem readIs_none {k tk : List UInt8} {clock : Int} (hk : 0 < k.length ∧ k.length ≤ 64) (hc : 0 ≤ clock) (hc2 : clock ≤ 1099511627776) (h : ∀ t, sessB t → madeT k t ≠ tk) : ReadIs k tk clock zeroS 211 := by
  unfold ReadIs
  rw [if_neg (fun q => q hk), if_neg (by omega)]
  exact .inl ⟨rfl, rfl, h⟩
theorem readIs_late {k tk : List UInt8} {clock : Int} {t : Sess} (hk : 0 < k.length ∧ k.length ≤ 64) (hc : 0 ≤ clock) (hc2 : clock ≤ 1099511627776) (h1 : sessB t) (h2 : madeT k t = tk) (h3 : t.untl < clock) : ReadIs k tk clock zeroS 212 := by
  unfold ReadIs
  rw [if_neg (fun q => q hk), if_neg (by omega)]
  exact .inr ⟨t, h1, h2, .inl ⟨h3, rfl, rfl⟩⟩
theorem readIs_yes {k tk : List UInt8} {clock : Int} {t : Sess} (hk : 0 < k.length ∧ k.length ≤ 64) (hc : 0 ≤ clock) (hc2 : clock ≤ 1099511627776) (h1 : sessB t) (h2 : madeT k t = tk) (h3 : clock ≤ t.untl) : ReadIs k tk clock t 0 := by
  unfold ReadIs
  rw [if_neg (fun q => q hk), if_neg (by omega)]
  exact .inr ⟨t, h1, h2, .inr ⟨h3, rfl, rfl⟩⟩
/-- is what was cut and read a token that was made? -/
def Good (k tk : List UInt8) (E0 E2 : Value) (ec v0 v2 : Int) (us : List UInt8) : Prop := E0 = .nilIface ∧ E2 = .nilIface ∧ ec = 0 ∧ sessB ⟨v0, us, v2⟩ ∧ madeT k ⟨v0, us, v2⟩ = tk
theorem good_of {k : List UInt8} {token : ByteArray} {l0 l1 l2 l3 us : ByteArray} {E0 E2 : Value} {ec v0 v2 : Int} (hl : Lib.splitB dot 0 (Lib.countB token dot) token = [l0, l1, l2, l3])
    (h0 : (E0 = .nilIface ∧ Lib.atoiAll l0.data.toList = .ok v0) ∨ ((∃ t p, E0 = .iface t p) ∧ ∀ v', Lib.atoiAll l0.data.toList ≠ .ok v'))
    (h2 : (E2 = .nilIface ∧ Lib.atoiAll l2.data.toList = .ok v2) ∨ ((∃ t p, E2 = .iface t p) ∧ ∀ v', Lib.atoiAll l2.data.toList ≠ .ok v')) (hu : UserIs (unhex l1.data.toList) us ec)
    {t : Sess} (ht : sessB t) (hm : madeT k t = token.data.toList) : Good k token.data.toList E0 E2 ec v0 v2 us.data.toList := by
  obtain ⟨-, hr⟩ := read_made ht hm
  obtain ⟨r0, r2, r1⟩ := hr l0 l1 l2 l3 hl
  rcases h0 with ⟨rfl, h0⟩ | ⟨-, h0⟩
  · rcases h2 with ⟨rfl, h2⟩ | ⟨-, h2⟩
    · rcases hu with ⟨hu, rfl⟩ | ⟨hu, -, -⟩
      · rw [r0] at h0; rw [r2] at h2; rw [r1] at hu
        injection h0 with h0; injection h2 with h2; injection hu with hu
        have : (⟨v0, us.data.toList, v2⟩ : Sess) = t := by rw [← h0, ← h2, ← hu]
        exact ⟨rfl, rfl, rfl, by rw [this]; exact ht, by rw [this]; exact hm⟩
      · rw [r1] at hu; cases hu
    · exact absurd r2 (h2 _)
  · exact absurd r0 (h0 _)

set_option maxHeartbeats 8000000 in
set_option maxRecDepth 100000 in
theorem Read_walk (secret token : ByteArray) (clock : Int) (w : World) (hw : TokW w) (hs : secret.size ≤ maxLen) :
    Calls Tryz.prog 37 #[.string secret, .string token, .int .i64 clock] w (ReadEnd secret token clock w) := by
  have HWD := Lib.hid (fun W => pass_word secret W hs)
  have hB0 : BoxS w 0 ⟨#[]⟩ 0 (w.alloc (sessO 0 ⟨#[]⟩ 0)) := BoxS.start w 0 ⟨#[]⟩ 0
  have HB0 := Lib.hid hB0
  have HZ0 : Hid ((w.alloc (sessO 0 ⟨#[]⟩ 0)).heap.size = w.heap.size + 1) := by show _ = _; simp
  by_cases hwd : wordN secret.size = true
  rotate_left
  · have hk : ¬ (0 < secret.data.toList.length ∧ secret.data.toList.length ≤ 64) := fun h => hwd ((word_iff secret).2 h)
    have HR : Hid (ReadIs secret.data.toList token.data.toList clock zeroS 3) := by show ReadIs _ _ _ _ _; unfold ReadIs; rw [if_pos hk]; exact ⟨rfl, rfl⟩
    have hwd' : wordN secret.size = false := by simpa using hwd
    rw [hwd'] at HWD
    clear hw hs hwd hk hwd' hB0
    go_enter Tryz.func37, Tryz.ntmps37
    go_wp2_with fail
    refine (HWD.out _).mono ?_
    rintro e w1 ⟨rfl, rfl⟩
    go_wp2_with fail
    refine ret_read (g := w.heap.size) (u0 := .int .i64 0) (u1 := .string ⟨#[]⟩) (u2 := .int .i64 0) rfl rfl rfl (by go_simp) (by go_simp) (by go_simp) ?_
    exact read_zero HR.out (by first | exact HB0.out.below | exact below3 HB0.out.below (Nat.le_refl _) _ _ _)
  have hk := (word_iff secret).1 hwd
  rw [hwd] at HWD
  by_cases hc1 : clock < 0
  · have HR : Hid (ReadIs secret.data.toList token.data.toList clock zeroS 2) := by show ReadIs _ _ _ _ _; unfold ReadIs; rw [if_neg (fun q => q hk), if_pos (.inl hc1)]; exact ⟨rfl, rfl⟩
    clear hw hs hwd hk hB0
    go_enter Tryz.func37, Tryz.ntmps37
    go_wp2_with fail
    refine (HWD.out _).mono ?_
    rintro e w1 ⟨rfl, rfl⟩
    go_wp2_with fail
    refine ret_read (g := w.heap.size) (u0 := .int .i64 0) (u1 := .string ⟨#[]⟩) (u2 := .int .i64 0) rfl rfl rfl (by go_simp) (by go_simp) (by go_simp) ?_
    exact read_zero HR.out (by first | exact HB0.out.below | exact below3 HB0.out.below (Nat.le_refl _) _ _ _)
  by_cases hc2 : 1099511627776 < clock
  · have HR : Hid (ReadIs secret.data.toList token.data.toList clock zeroS 2) := by show ReadIs _ _ _ _ _; unfold ReadIs; rw [if_neg (fun q => q hk), if_pos (.inr hc2)]; exact ⟨rfl, rfl⟩
    clear hw hs hwd hk hB0
    go_enter Tryz.func37, Tryz.ntmps37
    go_wp2_with fail
    refine (HWD.out _).mono ?_
    rintro e w1 ⟨rfl, rfl⟩
    go_wp2_with fail
    refine ret_read (g := w.heap.size) (u0 := .int .i64 0) (u1 := .string ⟨#[]⟩) (u2 := .int .i64 0) rfl rfl rfl (by go_simp) (by go_simp) (by go_simp) ?_
    exact read_zero HR.out (by first | exact HB0.out.below | exact below3 HB0.out.below (Nat.le_refl _) _ _ _)
  by_cases hbig : 1024 < (token.size : Int)
  · have HR : Hid (ReadIs secret.data.toList token.data.toList clock zeroS 211) := readIs_none hk (by omega) (by omega) (fun t h1 h2 => by have := madeT_len (k := secret.data.toList) h1; rw [h2, ba_len] at this; omega)
    clear hw hs hwd hk hB0
    go_enter Tryz.func37, Tryz.ntmps37
    go_wp2_with fail
    refine (HWD.out _).mono ?_
    rintro e w1 ⟨rfl, rfl⟩
    go_wp2_with fail
    refine ret_read (g := w.heap.size) (u0 := .int .i64 0) (u1 := .string ⟨#[]⟩) (u2 := .int .i64 0) rfl rfl rfl (by go_simp) (by go_simp) (by go_simp) ?_
    exact read_zero HR.out (by first | exact HB0.out.below | exact below3 HB0.out.below (Nat.le_refl _) _ _ _)
  have hw0 : TokW (w.alloc (sessO 0 ⟨#[]⟩ 0)) := hB0.tokW hw
  by_cases h4 : Lib.countB token dot = 3
  rotate_left
  · have HR : Hid (ReadIs secret.data.toList token.data.toList clock zeroS 211) := readIs_none hk (by omega) (by omega) (fun t h1 h2 => h4 (read_made h1 h2).1)
    have HSP := Lib.hid ((split_walk token (w.alloc (sessO 0 ⟨#[]⟩ 0)) hw0 (by omega)).mono (fun e w' (q : e = .returned (.slice (some ⟨(w.alloc (sessO 0 ⟨#[]⟩ 0)).heap.size, 0, none⟩) (Lib.countB token dot + 1) (Lib.countB token dot + 1)) ∧ _) => (⟨q.1, by rw [q.2]; exact hB0.alloc _⟩ : _ ∧ BoxS w 0 ⟨#[]⟩ 0 w')))
    have d4 : ((((Lib.countB token dot + 1 : Nat) : Int)) != 4) = true := by simp; omega
    obtain ⟨m, hm⟩ : ∃ m, Lib.countB token dot + 1 = m := ⟨_, rfl⟩
    rw [hm] at HSP d4
    clear hw hs hwd hk hB0 hw0 h4 hm
    go_enter Tryz.func37, Tryz.ntmps37
    go_wp2_with fail
    refine (HWD.out _).mono ?_
    rintro e w1 ⟨rfl, rfl⟩
    go_wp2_with fail
    refine HSP.out.mono ?_
    rintro e w1 ⟨rfl, hB1⟩
    obtain ⟨-, x0, x1, x2⟩ := id hB1
    have hf := hB1.frozen
    have HB1 := Lib.hid hB1
    clear hB1
    go_wp2_with fail
    refine ret_read (g := w.heap.size) (u0 := .int .i64 0) (u1 := .string ⟨#[]⟩) (u2 := .int .i64 0) rfl rfl rfl (by go_simp) (by go_simp) (by go_simp) ?_
    exact read_zero HR.out (below3 HB1.out.below (Nat.le_refl _) _ _ _)
  obtain ⟨l0, l1, l2, l3, hl⟩ := four_pieces token h4
  have hle : ∀ x ∈ [l0, l1, l2, l3], x.size ≤ 1024 := fun x hx => by
    rw [← hl] at hx
    have := splitB_le _ _ x hx
    omega
  have hle0 := hle l0 (by simp); have hle1 := hle l1 (by simp); have hle2 := hle l2 (by simp)
  have HSP := Lib.hid (split4_walk token (w.alloc (sessO 0 ⟨#[]⟩ 0)) hw0 (by omega) h4 hl)
  rw [HZ0.out] at HSP
  have HW := Lib.hid hw; have HL := Lib.hid hl; have HK := Lib.hid hk
  clear hle hl hw hk hw0 hwd h4 hB0 hs
  go_enter Tryz.func37, Tryz.ntmps37
  go_wp2_with fail
  refine (HWD.out _).mono ?_
  rintro e w1 ⟨rfl, rfl⟩
  go_wp2_with fail
  refine HSP.out.mono ?_
  rintro e w1 ⟨rfl, y0, y1, y2, hb1⟩
  have hB1 : BoxS w 0 ⟨#[]⟩ 0 w1 := HB0.out.next (by rw [HZ0.out]; exact hb1)
  have HT1 := Lib.hid (hB1.tokW HW.out)
  have HB1 := Lib.hid hB1
  clear hb1 hB1 HSP HB0 HZ0
  go_wp2_with fail
  refine (atoi2_walk l0 w1 HT1.out (by omega)).mono ?_
  rintro e w2 ⟨v0, E0, rfl, hE0, hb2⟩
  replace y1 := cellBelow hb2 y1
  replace y2 := cellBelow hb2 y2
  have HB2 := Lib.hid (HB1.out.next hb2)
  have HT2 := Lib.hid (HB2.out.tokW HW.out)
  have HE0 := Lib.hid hE0
  clear hb2 hE0 HB1 HT1 y0
  go_wp2_with fail
  refine (atoi2_walk l2 w2 HT2.out (by omega)).mono ?_
  rintro e w3 ⟨v2, E2, rfl, hE2, hb3⟩
  replace y1 := cellBelow hb3 y1
  have HB3 := Lib.hid (HB2.out.next hb3)
  have HE2 := Lib.hid hE2
  clear hb3 hE2 HB2 HT2 y2
  go_wp2_with fail
  refine (unhex2_walk l1 w3 (by omega)).mono ?_
  rintro e wU ⟨ua, un, uc, us, ec, rfl, hcv, hU, husz, hbU⟩
  have HBR := Lib.hid (HB3.out.next hbU)
  have HTU := Lib.hid (HBR.out.tokW HW.out)
  have HU := Lib.hid hU
  have HBU : Hid (BoxS wU v0 us v2 (wU.alloc (sessO v0 us v2))) := BoxS.start wU v0 us v2
  have husz2 : us.size ≤ 1024 := by omega
  clear hbU hU HB3 y1 husz
  have HGO := Lib.hid (fun (t : Sess) (h1 : sessB t) (h2 : madeT secret.data.toList t = token.data.toList) => good_of HL.out HE0.out HE2.out HU.out h1 h2)
  obtain ⟨BAD, hBAD⟩ : ∃ b : Bool, (b = false ↔ Good secret.data.toList token.data.toList E0 E2 ec v0 v2 us.data.toList) := by
    by_cases hg : Good secret.data.toList token.data.toList E0 E2 ec v0 v2 us.data.toList
    · exact ⟨false, by simp [hg]⟩
    · exact ⟨true, by simp [hg]⟩
  have HBD := Lib.hid hBAD
  clear hBAD
  have HBT : Hid (¬ Good secret.data.toList token.data.toList E0 E2 ec v0 v2 us.data.toList → BAD = true) := fun h => by
    cases hb : BAD
    · exact absurd (HBD.out.1 hb) h
    · rfl
  go_upto_region 15 with fail
  go_cut [89] (fun t wx => t = .bool BAD ∧ Hid (BoxS wU v0 us v2 wx))
  case first =>
    clear HWD
    rcases HE0.out with ⟨rfl, h0⟩ | ⟨⟨t0, p0, rfl⟩, -⟩
    rotate_left
    · have HBAD : Hid (BAD = true) := HBT.out (fun h => by cases h.1)
      refine wp_region_held_drew (S := BoxS wU v0 us v2) (by kernel_rfl) HBU.out.drew (fun hH => ?_)
      generalize (wU.alloc (sessO v0 us v2)).drew = Wd at hH ⊢
      refine wpAnyH_take (i := 0) (oi := { dst := some 64, op := Op.move (Operand.tmp 10), type := 160, pos := "pass.go:108", after := #[], guard := none }) (v := .iface t0 p0) rfl (by kernel_rfl) (by kernel_rfl) (by kernel_rfl) (fun _ _ _ h => h) (Or.inl ⟨by rfl, fun W hS => by go_simp⟩) hH ?_
      simp only [Act.put, List.setIfInBounds_toArray, List.set_cons_zero, List.set_cons_succ]
      refine wpAnyH_take (i := 1) (oi := { dst := some 65, op := Op.binOp BinOp.neq 160 (Operand.tmp 64) (Operand.const Value.nilIface) 160, type := 4, pos := "pass.go:108", after := #[{ on := 0, ground := Ground.data }], guard := none }) (v := .bool true) rfl (by kernel_rfl) (by kernel_rfl) (by kernel_rfl) (fun _ _ _ h => h) (Or.inl ⟨by rfl, fun W hS => by go_simp⟩) hH ?_
      simp only [Act.put, List.setIfInBounds_toArray, List.set_cons_zero, List.set_cons_succ]
      refine wpAnyH_take (i := 2) (oi := { dst := some 66, op := Op.move (Operand.tmp 65), type := 4, pos := "pass.go:108", after := #[{ on := 1, ground := Ground.data }], guard := none }) (v := .bool true) rfl (by kernel_rfl) (by kernel_rfl) (by kernel_rfl) (fun _ _ _ h => h) (Or.inl ⟨by rfl, fun W hS => by go_simp⟩) hH ?_
      simp only [Act.put, List.setIfInBounds_toArray, List.set_cons_zero, List.set_cons_succ]
      refine wpAnyH_take (i := 3) (oi := { dst := some 67, op := Op.move (Operand.tmp 12), type := 160, pos := "pass.go:108", after := #[{ on := 2, ground := Ground.guard }], guard := some (2, false) }) (v := undef) rfl (by kernel_rfl) (by kernel_rfl) (by kernel_rfl) (fun _ _ _ h => h) (Or.inr ⟨by rfl, rfl⟩) hH ?_
      simp only [Act.put, List.setIfInBounds_toArray, List.set_cons_zero, List.set_cons_succ]
      refine wpAnyH_take (i := 4) (oi := { dst := some 68, op := Op.binOp BinOp.neq 160 (Operand.tmp 67) (Operand.const Value.nilIface) 160, type := 4, pos := "pass.go:108", after := #[{ on := 3, ground := Ground.data }, { on := 2, ground := Ground.guard }], guard := some (2, false) }) (v := undef) rfl (by kernel_rfl) (by kernel_rfl) (by kernel_rfl) (fun _ _ _ h => h) (Or.inr ⟨by rfl, rfl⟩) hH ?_
      simp only [Act.put, List.setIfInBounds_toArray, List.set_cons_zero, List.set_cons_succ]
      refine wpAnyH_take (i := 5) (oi := { dst := some 69, op := Op.pick (Operand.tmp 66) (Operand.const (Value.bool true)) (Operand.tmp 68), type := 4, pos := "pass.go:108", after := #[{ on := 2, ground := Ground.data }, { on := 4, ground := Ground.data }], guard := none }) (v := .bool true) rfl (by kernel_rfl) (by kernel_rfl) (by kernel_rfl) (fun _ _ _ h => h) (Or.inl ⟨by rfl, fun W hS => by go_simp⟩) hH ?_
      simp only [Act.put, List.setIfInBounds_toArray, List.set_cons_zero, List.set_cons_succ]
      refine wpAnyH_take (i := 6) (oi := { dst := some 70, op := Op.move (Operand.tmp 69), type := 4, pos := "pass.go:108", after := #[{ on := 5, ground := Ground.data }, { on := 2, ground := Ground.chain }], guard := none }) (v := .bool true) rfl (by kernel_rfl) (by kernel_rfl) (by kernel_rfl) (fun _ _ _ h => h) (Or.inl ⟨by rfl, fun W hS => by go_simp⟩) hH ?_
      simp only [Act.put, List.setIfInBounds_toArray, List.set_cons_zero, List.set_cons_succ]
      refine wpAnyH_take (i := 7) (oi := { dst := some 71, op := Op.move (Operand.tmp 14), type := 36, pos := "pass.go:108", after := #[{ on := 6, ground := Ground.guard }], guard := some (6, false) }) (v := undef) rfl (by kernel_rfl) (by kernel_rfl) (by kernel_rfl) (fun _ _ _ h => h) (Or.inr ⟨by rfl, rfl⟩) hH ?_
      simp only [Act.put, List.setIfInBounds_toArray, List.set_cons_zero, List.set_cons_succ]
      refine wpAnyH_take (i := 8) (oi := { dst := some 72, op := Op.binOp BinOp.neq 36 (Operand.tmp 71) (Operand.const (Value.int IntKind.i64 0)) 36, type := 4, pos := "pass.go:108", after := #[{ on := 7, ground := Ground.data }, { on := 6, ground := Ground.guard }], guard := some (6, false) }) (v := undef) rfl (by kernel_rfl) (by kernel_rfl) (by kernel_rfl) (fun _ _ _ h => h) (Or.inr ⟨by rfl, rfl⟩) hH ?_
      simp only [Act.put, List.setIfInBounds_toArray, List.set_cons_zero, List.set_cons_succ]
      refine wpAnyH_take (i := 9) (oi := { dst := some 73, op := Op.pick (Operand.tmp 70) (Operand.const (Value.bool true)) (Operand.tmp 72), type := 4, pos := "pass.go:108", after := #[{ on := 6, ground := Ground.data }, { on := 8, ground := Ground.data }], guard := none }) (v := .bool true) rfl (by kernel_rfl) (by kernel_rfl) (by kernel_rfl) (fun _ _ _ h => h) (Or.inl ⟨by rfl, fun W hS => by go_simp⟩) hH ?_
      simp only [Act.put, List.setIfInBounds_toArray, List.set_cons_zero, List.set_cons_succ]
      refine wpAnyH_take (i := 10) (oi := { dst := some 74, op := Op.move (Operand.tmp 73), type := 4, pos := "pass.go:108", after := #[{ on := 9, ground := Ground.data }, { on := 6, ground := Ground.chain }], guard := none }) (v := .bool true) rfl (by kernel_rfl) (by kernel_rfl) (by kernel_rfl) (fun _ _ _ h => h) (Or.inl ⟨by rfl, fun W hS => by go_simp⟩) hH ?_
      simp only [Act.put, List.setIfInBounds_toArray, List.set_cons_zero, List.set_cons_succ]
      refine wpAnyH_take (i := 11) (oi := { dst := some 75, op := Op.load 90 (Operand.tmp 15), type := 90, pos := "pass.go:108", after := #[{ on := 10, ground := Ground.guard }], guard := some (10, false) }) (v := undef) rfl (by kernel_rfl) (by kernel_rfl) (by kernel_rfl) (fun _ _ _ h => h) (Or.inr ⟨by rfl, rfl⟩) hH ?_
      simp only [Act.put, List.setIfInBounds_toArray, List.set_cons_zero, List.set_cons_succ]
      refine wpAnyH_take (i := 12) (oi := { dst := some 76, op := Op.call { callee := Callee.value (Operand.func 79), args := #[Operand.tmp 75], argTypes := #[90] }, type := 4, pos := "pass.go:108", after := #[{ on := 11, ground := Ground.data }, { on := 10, ground := Ground.chain }, { on := 10, ground := Ground.guard }], guard := some (10, false) }) (v := undef) rfl (by kernel_rfl) (by kernel_rfl) (by kernel_rfl) (fun _ _ _ h => h) (Or.inr ⟨by rfl, rfl⟩) hH ?_
      simp only [Act.put, List.setIfInBounds_toArray, List.set_cons_zero, List.set_cons_succ]
      refine wpAnyH_take (i := 13) (oi := { dst := some 77, op := Op.unOp UnOp.not 4 (Operand.tmp 76), type := 4, pos := "pass.go:108", after := #[{ on := 12, ground := Ground.data }, { on := 10, ground := Ground.guard }], guard := some (10, false) }) (v := undef) rfl (by kernel_rfl) (by kernel_rfl) (by kernel_rfl) (fun _ _ _ h => h) (Or.inr ⟨by rfl, rfl⟩) hH ?_
      simp only [Act.put, List.setIfInBounds_toArray, List.set_cons_zero, List.set_cons_succ]
      refine wpAnyH_take (i := 14) (oi := { dst := some 78, op := Op.pick (Operand.tmp 74) (Operand.const (Value.bool true)) (Operand.tmp 77), type := 4, pos := "pass.go:108", after := #[{ on := 10, ground := Ground.data }, { on := 13, ground := Ground.data }], guard := none }) (v := .bool true) rfl (by kernel_rfl) (by kernel_rfl) (by kernel_rfl) (fun _ _ _ h => h) (Or.inl ⟨by rfl, fun W hS => by go_simp⟩) hH ?_
      simp only [Act.put, List.setIfInBounds_toArray, List.set_cons_zero, List.set_cons_succ]
      refine wpAnyH_take (i := 15) (oi := { dst := some 79, op := Op.move (Operand.tmp 78), type := 4, pos := "pass.go:108", after := #[{ on := 14, ground := Ground.data }, { on := 12, ground := Ground.chain }], guard := none }) (v := .bool true) rfl (by kernel_rfl) (by kernel_rfl) (by kernel_rfl) (fun _ _ _ h => h) (Or.inl ⟨by rfl, fun W hS => by go_simp⟩) hH ?_
      simp only [Act.put, List.setIfInBounds_toArray, List.set_cons_zero, List.set_cons_succ]
      refine wpAnyH_take (i := 16) (oi := { dst := some 80, op := Op.move (Operand.tmp 0), type := 9, pos := "pass.go:108", after := #[{ on := 15, ground := Ground.guard }], guard := some (15, false) }) (v := undef) rfl (by kernel_rfl) (by kernel_rfl) (by kernel_rfl) (fun _ _ _ h => h) (Or.inr ⟨by rfl, rfl⟩) hH ?_
      simp only [Act.put, List.setIfInBounds_toArray, List.set_cons_zero, List.set_cons_succ]
      refine wpAnyH_take (i := 17) (oi := { dst := some 81, op := Op.call { callee := Callee.value (Operand.func 81), args := #[Operand.tmp 80], argTypes := #[9] }, type := 167, pos := "pass.go:108", after := #[{ on := 16, ground := Ground.data }, { on := 15, ground := Ground.chain }, { on := 15, ground := Ground.guard }], guard := some (15, false) }) (v := undef) rfl (by kernel_rfl) (by kernel_rfl) (by kernel_rfl) (fun _ _ _ h => h) (Or.inr ⟨by rfl, rfl⟩) hH ?_
      simp only [Act.put, List.setIfInBounds_toArray, List.set_cons_zero, List.set_cons_succ]
      refine wpAnyH_take (i := 18) (oi := { dst := some 82, op := Op.load 90 (Operand.tmp 15), type := 90, pos := "pass.go:108", after := #[{ on := 15, ground := Ground.guard }], guard := some (15, false) }) (v := undef) rfl (by kernel_rfl) (by kernel_rfl) (by kernel_rfl) (fun _ _ _ h => h) (Or.inr ⟨by rfl, rfl⟩) hH ?_
      simp only [Act.put, List.setIfInBounds_toArray, List.set_cons_zero, List.set_cons_succ]
      refine wpAnyH_take (i := 19) (oi := { dst := some 83, op := Op.call { callee := Callee.value (Operand.tmp 81), args := #[Operand.tmp 82], argTypes := #[90] }, type := 9, pos := "pass.go:108", after := #[{ on := 17, ground := Ground.data }, { on := 18, ground := Ground.data }, { on := 17, ground := Ground.chain }, { on := 15, ground := Ground.guard }], guard := some (15, false) }) (v := undef) rfl (by kernel_rfl) (by kernel_rfl) (by kernel_rfl) (fun _ _ _ h => h) (Or.inr ⟨by rfl, rfl⟩) hH ?_
      simp only [Act.put, List.setIfInBounds_toArray, List.set_cons_zero, List.set_cons_succ]
      refine wpAnyH_take (i := 20) (oi := { dst := some 84, op := Op.convert 9 152 (Operand.tmp 83), type := 152, pos := "pass.go:108", after := #[{ on := 19, ground := Ground.data }, { on := 15, ground := Ground.guard }], guard := some (15, false) }) (v := undef) rfl (by kernel_rfl) (by kernel_rfl) (by kernel_rfl) (fun _ _ _ h => h) (Or.inr ⟨by rfl, rfl⟩) hH ?_
      simp only [Act.put, List.setIfInBounds_toArray, List.set_cons_zero, List.set_cons_succ]
      refine wpAnyH_take (i := 21) (oi := { dst := some 85, op := Op.move (Operand.tmp 1), type := 9, pos := "pass.go:108", after := #[{ on := 15, ground := Ground.guard }], guard := some (15, false) }) (v := undef) rfl (by kernel_rfl) (by kernel_rfl) (by kernel_rfl) (fun _ _ _ h => h) (Or.inr ⟨by rfl, rfl⟩) hH ?_
      simp only [Act.put, List.setIfInBounds_toArray, List.set_cons_zero, List.set_cons_succ]
      refine wpAnyH_take (i := 22) (oi := { dst := some 86, op := Op.convert 9 152 (Operand.tmp 85), type := 152, pos := "pass.go:108", after := #[{ on := 21, ground := Ground.data }, { on := 15, ground := Ground.guard }], guard := some (15, false) }) (v := undef) rfl (by kernel_rfl) (by kernel_rfl) (by kernel_rfl) (fun _ _ _ h => h) (Or.inr ⟨by rfl, rfl⟩) hH ?_
      simp only [Act.put, List.setIfInBounds_toArray, List.set_cons_zero, List.set_cons_succ]
      refine wpAnyH_take (i := 23) (oi := { dst := some 87, op := Op.call { callee := Callee.value (Operand.func 80), args := #[Operand.tmp 84, Operand.tmp 86], argTypes := #[152, 152] }, type := 4, pos := "pass.go:108", after := #[{ on := 20, ground := Ground.data }, { on := 22, ground := Ground.data }, { on := 19, ground := Ground.chain }, { on := 15, ground := Ground.guard }], guard := some (15, false) }) (v := undef) rfl (by kernel_rfl) (by kernel_rfl) (by kernel_rfl) (fun _ _ _ h => h) (Or.inr ⟨by rfl, rfl⟩) hH ?_
      simp only [Act.put, List.setIfInBounds_toArray, List.set_cons_zero, List.set_cons_succ]
      refine wpAnyH_take (i := 24) (oi := { dst := some 88, op := Op.unOp UnOp.not 4 (Operand.tmp 87), type := 4, pos := "pass.go:108", after := #[{ on := 23, ground := Ground.data }, { on := 15, ground := Ground.guard }], guard := some (15, false) }) (v := undef) rfl (by kernel_rfl) (by kernel_rfl) (by kernel_rfl) (fun _ _ _ h => h) (Or.inr ⟨by rfl, rfl⟩) hH ?_
      simp only [Act.put, List.setIfInBounds_toArray, List.set_cons_zero, List.set_cons_succ]
      refine wpAnyH_take (i := 25) (oi := { dst := some 89, op := Op.pick (Operand.tmp 79) (Operand.const (Value.bool true)) (Operand.tmp 88), type := 4, pos := "pass.go:108", after := #[{ on := 15, ground := Ground.data }, { on := 24, ground := Ground.data }], guard := none }) (v := .bool true) rfl (by kernel_rfl) (by kernel_rfl) (by kernel_rfl) (fun _ _ _ h => h) (Or.inl ⟨by rfl, fun W hS => by go_simp⟩) hH ?_
      simp only [Act.put, List.setIfInBounds_toArray, List.set_cons_zero, List.set_cons_succ]
      refine wpAnyH_done (by kernel_rfl) ?_ _
      go_wp2_with fail
      go_meet
      exact ⟨by rw [HBAD.out], hH⟩
    rcases HE2.out with ⟨rfl, h2⟩ | ⟨⟨t2, p2, rfl⟩, -⟩
    rotate_left
    · have HBAD : Hid (BAD = true) := HBT.out (fun h => by cases h.2.1)
      refine wp_region_held_drew (S := BoxS wU v0 us v2) (by kernel_rfl) HBU.out.drew (fun hH => ?_)
      generalize (wU.alloc (sessO v0 us v2)).drew = Wd at hH ⊢
      refine wpAnyH_take (i := 0) (oi := { dst := some 64, op := Op.move (Operand.tmp 10), type := 160, pos := "pass.go:108", after := #[], guard := none }) (v := .nilIface) rfl (by kernel_rfl) (by kernel_rfl) (by kernel_rfl) (fun _ _ _ h => h) (Or.inl ⟨by rfl, fun W hS => by go_simp⟩) hH ?_
      simp only [Act.put, List.setIfInBounds_toArray, List.set_cons_zero, List.set_cons_succ]
      refine wpAnyH_take (i := 1) (oi := { dst := some 65, op := Op.binOp BinOp.neq 160 (Operand.tmp 64) (Operand.const Value.nilIface) 160, type := 4, pos := "pass.go:108", after := #[{ on := 0, ground := Ground.data }], guard := none }) (v := .bool false) rfl (by kernel_rfl) (by kernel_rfl) (by kernel_rfl) (fun _ _ _ h => h) (Or.inl ⟨by rfl, fun W hS => by go_simp⟩) hH ?_
      simp only [Act.put, List.setIfInBounds_toArray, List.set_cons_zero, List.set_cons_succ]
      refine wpAnyH_take (i := 2) (oi := { dst := some 66, op := Op.move (Operand.tmp 65), type := 4, pos := "pass.go:108", after := #[{ on := 1, ground := Ground.data }], guard := none }) (v := .bool false) rfl (by kernel_rfl) (by kernel_rfl) (by kernel_rfl) (fun _ _ _ h => h) (Or.inl ⟨by rfl, fun W hS => by go_simp⟩) hH ?_
      simp only [Act.put, List.setIfInBounds_toArray, List.set_cons_zero, List.set_cons_succ]
      refine wpAnyH_take (i := 3) (oi := { dst := some 67, op := Op.move (Operand.tmp 12), type := 160, pos := "pass.go:108", after := #[{ on := 2, ground := Ground.guard }], guard := some (2, false) }) (v := .iface t2 p2) rfl (by kernel_rfl) (by kernel_rfl) (by kernel_rfl) (fun _ _ _ h => h) (Or.inl ⟨by rfl, fun W hS => by go_simp⟩) hH ?_
      simp only [Act.put, List.setIfInBounds_toArray, List.set_cons_zero, List.set_cons_succ]
      refine wpAnyH_take (i := 4) (oi := { dst := some 68, op := Op.binOp BinOp.neq 160 (Operand.tmp 67) (Operand.const Value.nilIface) 160, type := 4, pos := "pass.go:108", after := #[{ on := 3, ground := Ground.data }, { on := 2, ground := Ground.guard }], guard := some (2, false) }) (v := .bool true) rfl (by kernel_rfl) (by kernel_rfl) (by kernel_rfl) (fun _ _ _ h => h) (Or.inl ⟨by rfl, fun W hS => by go_simp⟩) hH ?_
      simp only [Act.put, List.setIfInBounds_toArray, List.set_cons_zero, List.set_cons_succ]
      refine wpAnyH_take (i := 5) (oi := { dst := some 69, op := Op.pick (Operand.tmp 66) (Operand.const (Value.bool true)) (Operand.tmp 68), type := 4, pos := "pass.go:108", after := #[{ on := 2, ground := Ground.data }, { on := 4, ground := Ground.data }], guard := none }) (v := .bool true) rfl (by kernel_rfl) (by kernel_rfl) (by kernel_rfl) (fun _ _ _ h => h) (Or.inl ⟨by rfl, fun W hS => by go_simp⟩) hH ?_
      simp only [Act.put, List.setIfInBounds_toArray, List.set_cons_zero, List.set_cons_succ]
      refine wpAnyH_take (i := 6) (oi := { dst := some 70, op := Op.move (Operand.tmp 69), type := 4, pos := "pass.go:108", after := #[{ on := 5, ground := Ground.data }, { on := 2, ground := Ground.chain }], guard := none }) (v := .bool true) rfl (by kernel_rfl) (by kernel_rfl) (by kernel_rfl) (fun _ _ _ h => h) (Or.inl ⟨by rfl, fun W hS => by go_simp⟩) hH ?_
      simp only [Act.put, List.setIfInBounds_toArray, List.set_cons_zero, List.set_cons_succ]
      refine wpAnyH_take (i := 7) (oi := { dst := some 71, op := Op.move (Operand.tmp 14), type := 36, pos := "pass.go:108", after := #[{ on := 6, ground := Ground.guard }], guard := some (6, false) }) (v := undef) rfl (by kernel_rfl) (by kernel_rfl) (by kernel_rfl) (fun _ _ _ h => h) (Or.inr ⟨by rfl, rfl⟩) hH ?_
      simp only [Act.put, List.setIfInBounds_toArray, List.set_cons_zero, List.set_cons_succ]
      refine wpAnyH_take (i := 8) (oi := { dst := some 72, op := Op.binOp BinOp.neq 36 (Operand.tmp 71) (Operand.const (Value.int IntKind.i64 0)) 36, type := 4, pos := "pass.go:108", after := #[{ on := 7, ground := Ground.data }, { on := 6, ground := Ground.guard }], guard := some (6, false) }) (v := undef) rfl (by kernel_rfl) (by kernel_rfl) (by kernel_rfl) (fun _ _ _ h => h) (Or.inr ⟨by rfl, rfl⟩) hH ?_
      simp only [Act.put, List.setIfInBounds_toArray, List.set_cons_zero, List.set_cons_succ]
      refine wpAnyH_take (i := 9) (oi := { dst := some 73, op := Op.pick (Operand.tmp 70) (Operand.const (Value.bool true)) (Operand.tmp 72), type := 4, pos := "pass.go:108", after := #[{ on := 6, ground := Ground.data }, { on := 8, ground := Ground.data }], guard := none }) (v := .bool true) rfl (by kernel_rfl) (by kernel_rfl) (by kernel_rfl) (fun _ _ _ h => h) (Or.inl ⟨by rfl, fun W hS => by go_simp⟩) hH ?_
      simp only [Act.put, List.setIfInBounds_toArray, List.set_cons_zero, List.set_cons_succ]
      refine wpAnyH_take (i := 10) (oi := { dst := some 74, op := Op.move (Operand.tmp 73), type := 4, pos := "pass.go:108", after := #[{ on := 9, ground := Ground.data }, { on := 6, ground := Ground.chain }], guard := none }) (v := .bool true) rfl (by kernel_rfl) (by kernel_rfl) (by kernel_rfl) (fun _ _ _ h => h) (Or.inl ⟨by rfl, fun W hS => by go_simp⟩) hH ?_
      simp only [Act.put, List.setIfInBounds_toArray, List.set_cons_zero, List.set_cons_succ]
      refine wpAnyH_take (i := 11) (oi := { dst := some 75, op := Op.load 90 (Operand.tmp 15), type := 90, pos := "pass.go:108", after := #[{ on := 10, ground := Ground.guard }], guard := some (10, false) }) (v := undef) rfl (by kernel_rfl) (by kernel_rfl) (by kernel_rfl) (fun _ _ _ h => h) (Or.inr ⟨by rfl, rfl⟩) hH ?_
      simp only [Act.put, List.setIfInBounds_toArray, List.set_cons_zero, List.set_cons_succ]
      refine wpAnyH_take (i := 12) (oi := { dst := some 76, op := Op.call { callee := Callee.value (Operand.func 79), args := #[Operand.tmp 75], argTypes := #[90] }, type := 4, pos := "pass.go:108", after := #[{ on := 11, ground := Ground.data }, { on := 10, ground := Ground.chain }, { on := 10, ground := Ground.guard }], guard := some (10, false) }) (v := undef) rfl (by kernel_rfl) (by kernel_rfl) (by kernel_rfl) (fun _ _ _ h => h) (Or.inr ⟨by rfl, rfl⟩) hH ?_
      simp only [Act.put, List.setIfInBounds_toArray, List.set_cons_zero, List.set_cons_succ]
      refine wpAnyH_take (i := 13) (oi := { dst := some 77, op := Op.unOp UnOp.not 4 (Operand.tmp 76), type := 4, pos := "pass.go:108", after := #[{ on := 12, ground := Ground.data }, { on := 10, ground := Ground.guard }], guard := some (10, false) }) (v := undef) rfl (by kernel_rfl) (by kernel_rfl) (by kernel_rfl) (fun _ _ _ h => h) (Or.inr ⟨by rfl, rfl⟩) hH ?_
      simp only [Act.put, List.setIfInBounds_toArray, List.set_cons_zero, List.set_cons_succ]
      refine wpAnyH_take (i := 14) (oi := { dst := some 78, op := Op.pick (Operand.tmp 74) (Operand.const (Value.bool true)) (Operand.tmp 77), type := 4, pos := "pass.go:108", after := #[{ on := 10, ground := Ground.data }, { on := 13, ground := Ground.data }], guard := none }) (v := .bool true) rfl (by kernel_rfl) (by kernel_rfl) (by kernel_rfl) (fun _ _ _ h => h) (Or.inl ⟨by rfl, fun W hS => by go_simp⟩) hH ?_
      simp only [Act.put, List.setIfInBounds_toArray, List.set_cons_zero, List.set_cons_succ]
      refine wpAnyH_take (i := 15) (oi := { dst := some 79, op := Op.move (Operand.tmp 78), type := 4, pos := "pass.go:108", after := #[{ on := 14, ground := Ground.data }, { on := 12, ground := Ground.chain }], guard := none }) (v := .bool true) rfl (by kernel_rfl) (by kernel_rfl) (by kernel_rfl) (fun _ _ _ h => h) (Or.inl ⟨by rfl, fun W hS => by go_simp⟩) hH ?_
      simp only [Act.put, List.setIfInBounds_toArray, List.set_cons_zero, List.set_cons_succ]
      refine wpAnyH_take (i := 16) (oi := { dst := some 80, op := Op.move (Operand.tmp 0), type := 9, pos := "pass.go:108", after := #[{ on := 15, ground := Ground.guard }], guard := some (15, false) }) (v := undef) rfl (by kernel_rfl) (by kernel_rfl) (by kernel_rfl) (fun _ _ _ h => h) (Or.inr ⟨by rfl, rfl⟩) hH ?_
      simp only [Act.put, List.setIfInBounds_toArray, List.set_cons_zero, List.set_cons_succ]
      refine wpAnyH_take (i := 17) (oi := { dst := some 81, op := Op.call { callee := Callee.value (Operand.func 81), args := #[Operand.tmp 80], argTypes := #[9] }, type := 167, pos := "pass.go:108", after := #[{ on := 16, ground := Ground.data }, { on := 15, ground := Ground.chain }, { on := 15, ground := Ground.guard }], guard := some (15, false) }) (v := undef) rfl (by kernel_rfl) (by kernel_rfl) (by kernel_rfl) (fun _ _ _ h => h) (Or.inr ⟨by rfl, rfl⟩) hH ?_
      simp only [Act.put, List.setIfInBounds_toArray, List.set_cons_zero, List.set_cons_succ]
      refine wpAnyH_take (i := 18) (oi := { dst := some 82, op := Op.load 90 (Operand.tmp 15), type := 90, pos := "pass.go:108", after := #[{ on := 15, ground := Ground.guard }], guard := some (15, false) }) (v := undef) rfl (by kernel_rfl) (by kernel_rfl) (by kernel_rfl) (fun _ _ _ h => h) (Or.inr ⟨by rfl, rfl⟩) hH ?_
      simp only [Act.put, List.setIfInBounds_toArray, List.set_cons_zero, List.set_cons_succ]
      refine wpAnyH_take (i := 19) (oi := { dst := some 83, op := Op.call { callee := Callee.value (Operand.tmp 81), args := #[Operand.tmp 82], argTypes := #[90] }, type := 9, pos := "pass.go:108", after := #[{ on := 17, ground := Ground.data }, { on := 18, ground := Ground.data }, { on := 17, ground := Ground.chain }, { on := 15, ground := Ground.guard }], guard := some (15, false) }) (v := undef) rfl (by kernel_rfl) (by kernel_rfl) (by kernel_rfl) (fun _ _ _ h => h) (Or.inr ⟨by rfl, rfl⟩) hH ?_
      simp only [Act.put, List.setIfInBounds_toArray, List.set_cons_zero, List.set_cons_succ]
      refine wpAnyH_take (i := 20) (oi := { dst := some 84, op := Op.convert 9 152 (Operand.tmp 83), type := 152, pos := "pass.go:108", after := #[{ on := 19, ground := Ground.data }, { on := 15, ground := Ground.guard }], guard := some (15, false) }) (v := undef) rfl (by kernel_rfl) (by kernel_rfl) (by kernel_rfl) (fun _ _ _ h => h) (Or.inr ⟨by rfl, rfl⟩) hH ?_
      simp only [Act.put, List.setIfInBounds_toArray, List.set_cons_zero, List.set_cons_succ]
      refine wpAnyH_take (i := 21) (oi := { dst := some 85, op := Op.move (Operand.tmp 1), type := 9, pos := "pass.go:108", after := #[{ on := 15, ground := Ground.guard }], guard := some (15, false) }) (v := undef) rfl (by kernel_rfl) (by kernel_rfl) (by kernel_rfl) (fun _ _ _ h => h) (Or.inr ⟨by rfl, rfl⟩) hH ?_
      simp only [Act.put, List.setIfInBounds_toArray, List.set_cons_zero, List.set_cons_succ]
      refine wpAnyH_take (i := 22) (oi := { dst := some 86, op := Op.convert 9 152 (Operand.tmp 85), type := 152, pos := "pass.go:108", after := #[{ on := 21, ground := Ground.data }, { on := 15, ground := Ground.guard }], guard := some (15, false) }) (v := undef) rfl (by kernel_rfl) (by kernel_rfl) (by kernel_rfl) (fun _ _ _ h => h) (Or.inr ⟨by rfl, rfl⟩) hH ?_
      simp only [Act.put, List.setIfInBounds_toArray, List.set_cons_zero, List.set_cons_succ]
      refine wpAnyH_take (i := 23) (oi := { dst := some 87, op := Op.call { callee := Callee.value (Operand.func 80), args := #[Operand.tmp 84, Operand.tmp 86], argTypes := #[152, 152] }, type := 4, pos := "pass.go:108", after := #[{ on := 20, ground := Ground.data }, { on := 22, ground := Ground.data }, { on := 19, ground := Ground.chain }, { on := 15, ground := Ground.guard }], guard := some (15, false) }) (v := undef) rfl (by kernel_rfl) (by kernel_rfl) (by kernel_rfl) (fun _ _ _ h => h) (Or.inr ⟨by rfl, rfl⟩) hH ?_
      simp only [Act.put, List.setIfInBounds_toArray, List.set_cons_zero, List.set_cons_succ]
      refine wpAnyH_take (i := 24) (oi := { dst := some 88, op := Op.unOp UnOp.not 4 (Operand.tmp 87), type := 4, pos := "pass.go:108", after := #[{ on := 23, ground := Ground.data }, { on := 15, ground := Ground.guard }], guard := some (15, false) }) (v := undef) rfl (by kernel_rfl) (by kernel_rfl) (by kernel_rfl) (fun _ _ _ h => h) (Or.inr ⟨by rfl, rfl⟩) hH ?_
      simp only [Act.put, List.setIfInBounds_toArray, List.set_cons_zero, List.set_cons_succ]
      refine wpAnyH_take (i := 25) (oi := { dst := some 89, op := Op.pick (Operand.tmp 79) (Operand.const (Value.bool true)) (Operand.tmp 88), type := 4, pos := "pass.go:108", after := #[{ on := 15, ground := Ground.data }, { on := 24, ground := Ground.data }], guard := none }) (v := .bool true) rfl (by kernel_rfl) (by kernel_rfl) (by kernel_rfl) (fun _ _ _ h => h) (Or.inl ⟨by rfl, fun W hS => by go_simp⟩) hH ?_
      simp only [Act.put, List.setIfInBounds_toArray, List.set_cons_zero, List.set_cons_succ]
      refine wpAnyH_done (by kernel_rfl) ?_ _
      go_wp2_with fail
      go_meet
      exact ⟨by rw [HBAD.out], hH⟩
    rcases HU.out with ⟨hu, rfl⟩ | ⟨-, rfl, rfl⟩
    rotate_left
    · have HBAD : Hid (BAD = true) := HBT.out (fun h => by cases h.2.2.1)
      generalize (⟨#[]⟩ : ByteArray) = us at *
      refine wp_region_held_drew (S := BoxS wU v0 us v2) (by kernel_rfl) HBU.out.drew (fun hH => ?_)
      generalize (wU.alloc (sessO v0 us v2)).drew = Wd at hH ⊢
      refine wpAnyH_take (i := 0) (oi := { dst := some 64, op := Op.move (Operand.tmp 10), type := 160, pos := "pass.go:108", after := #[], guard := none }) (v := .nilIface) rfl (by kernel_rfl) (by kernel_rfl) (by kernel_rfl) (fun _ _ _ h => h) (Or.inl ⟨by rfl, fun W hS => by go_simp⟩) hH ?_
      simp only [Act.put, List.setIfInBounds_toArray, List.set_cons_zero, List.set_cons_succ]
      refine wpAnyH_take (i := 1) (oi := { dst := some 65, op := Op.binOp BinOp.neq 160 (Operand.tmp 64) (Operand.const Value.nilIface) 160, type := 4, pos := "pass.go:108", after := #[{ on := 0, ground := Ground.data }], guard := none }) (v := .bool false) rfl (by kernel_rfl) (by kernel_rfl) (by kernel_rfl) (fun _ _ _ h => h) (Or.inl ⟨by rfl, fun W hS => by go_simp⟩) hH ?_
      simp only [Act.put, List.setIfInBounds_toArray, List.set_cons_zero, List.set_cons_succ]
      refine wpAnyH_take (i := 2) (oi := { dst := some 66, op := Op.move (Operand.tmp 65), type := 4, pos := "pass.go:108", after := #[{ on := 1, ground := Ground.data }], guard := none }) (v := .bool false) rfl (by kernel_rfl) (by kernel_rfl) (by kernel_rfl) (fun _ _ _ h => h) (Or.inl ⟨by rfl, fun W hS => by go_simp⟩) hH ?_
      simp only [Act.put, List.setIfInBounds_toArray, List.set_cons_zero, List.set_cons_succ]
      refine wpAnyH_take (i := 3) (oi := { dst := some 67, op := Op.move (Operand.tmp 12), type := 160, pos := "pass.go:108", after := #[{ on := 2, ground := Ground.guard }], guard := some (2, false) }) (v := .nilIface) rfl (by kernel_rfl) (by kernel_rfl) (by kernel_rfl) (fun _ _ _ h => h) (Or.inl ⟨by rfl, fun W hS => by go_simp⟩) hH ?_
      simp only [Act.put, List.setIfInBounds_toArray, List.set_cons_zero, List.set_cons_succ]
      refine wpAnyH_take (i := 4) (oi := { dst := some 68, op := Op.binOp BinOp.neq 160 (Operand.tmp 67) (Operand.const Value.nilIface) 160, type := 4, pos := "pass.go:108", after := #[{ on := 3, ground := Ground.data }, { on := 2, ground := Ground.guard }], guard := some (2, false) }) (v := .bool false) rfl (by kernel_rfl) (by kernel_rfl) (by kernel_rfl) (fun _ _ _ h => h) (Or.inl ⟨by rfl, fun W hS => by go_simp⟩) hH ?_
      simp only [Act.put, List.setIfInBounds_toArray, List.set_cons_zero, List.set_cons_succ]
      refine wpAnyH_take (i := 5) (oi := { dst := some 69, op := Op.pick (Operand.tmp 66) (Operand.const (Value.bool true)) (Operand.tmp 68), type := 4, pos := "pass.go:108", after := #[{ on := 2, ground := Ground.data }, { on := 4, ground := Ground.data }], guard := none }) (v := .bool false) rfl (by kernel_rfl) (by kernel_rfl) (by kernel_rfl) (fun _ _ _ h => h) (Or.inl ⟨by rfl, fun W hS => by go_simp⟩) hH ?_
      simp only [Act.put, List.setIfInBounds_toArray, List.set_cons_zero, List.set_cons_succ]
      refine wpAnyH_take (i := 6) (oi := { dst := some 70, op := Op.move (Operand.tmp 69), type := 4, pos := "pass.go:108", after := #[{ on := 5, ground := Ground.data }, { on := 2, ground := Ground.chain }], guard := none }) (v := .bool false) rfl (by kernel_rfl) (by kernel_rfl) (by kernel_rfl) (fun _ _ _ h => h) (Or.inl ⟨by rfl, fun W hS => by go_simp⟩) hH ?_
      simp only [Act.put, List.setIfInBounds_toArray, List.set_cons_zero, List.set_cons_succ]
      refine wpAnyH_take (i := 7) (oi := { dst := some 71, op := Op.move (Operand.tmp 14), type := 36, pos := "pass.go:108", after := #[{ on := 6, ground := Ground.guard }], guard := some (6, false) }) (v := .int .i64 3) rfl (by kernel_rfl) (by kernel_rfl) (by kernel_rfl) (fun _ _ _ h => h) (Or.inl ⟨by rfl, fun W hS => by go_simp⟩) hH ?_
      simp only [Act.put, List.setIfInBounds_toArray, List.set_cons_zero, List.set_cons_succ]
      refine wpAnyH_take (i := 8) (oi := { dst := some 72, op := Op.binOp BinOp.neq 36 (Operand.tmp 71) (Operand.const (Value.int IntKind.i64 0)) 36, type := 4, pos := "pass.go:108", after := #[{ on := 7, ground := Ground.data }, { on := 6, ground := Ground.guard }], guard := some (6, false) }) (v := .bool true) rfl (by kernel_rfl) (by kernel_rfl) (by kernel_rfl) (fun _ _ _ h => h) (Or.inl ⟨by rfl, fun W hS => by go_simp⟩) hH ?_
      simp only [Act.put, List.setIfInBounds_toArray, List.set_cons_zero, List.set_cons_succ]
      refine wpAnyH_take (i := 9) (oi := { dst := some 73, op := Op.pick (Operand.tmp 70) (Operand.const (Value.bool true)) (Operand.tmp 72), type := 4, pos := "pass.go:108", after := #[{ on := 6, ground := Ground.data }, { on := 8, ground := Ground.data }], guard := none }) (v := .bool true) rfl (by kernel_rfl) (by kernel_rfl) (by kernel_rfl) (fun _ _ _ h => h) (Or.inl ⟨by rfl, fun W hS => by go_simp⟩) hH ?_
      simp only [Act.put, List.setIfInBounds_toArray, List.set_cons_zero, List.set_cons_succ]
      refine wpAnyH_take (i := 10) (oi := { dst := some 74, op := Op.move (Operand.tmp 73), type := 4, pos := "pass.go:108", after := #[{ on := 9, ground := Ground.data }, { on := 6, ground := Ground.chain }], guard := none }) (v := .bool true) rfl (by kernel_rfl) (by kernel_rfl) (by kernel_rfl) (fun _ _ _ h => h) (Or.inl ⟨by rfl, fun W hS => by go_simp⟩) hH ?_
      simp only [Act.put, List.setIfInBounds_toArray, List.set_cons_zero, List.set_cons_succ]
      refine wpAnyH_take (i := 11) (oi := { dst := some 75, op := Op.load 90 (Operand.tmp 15), type := 90, pos := "pass.go:108", after := #[{ on := 10, ground := Ground.guard }], guard := some (10, false) }) (v := undef) rfl (by kernel_rfl) (by kernel_rfl) (by kernel_rfl) (fun _ _ _ h => h) (Or.inr ⟨by rfl, rfl⟩) hH ?_
      simp only [Act.put, List.setIfInBounds_toArray, List.set_cons_zero, List.set_cons_succ]
      refine wpAnyH_take (i := 12) (oi := { dst := some 76, op := Op.call { callee := Callee.value (Operand.func 79), args := #[Operand.tmp 75], argTypes := #[90] }, type := 4, pos := "pass.go:108", after := #[{ on := 11, ground := Ground.data }, { on := 10, ground := Ground.chain }, { on := 10, ground := Ground.guard }], guard := some (10, false) }) (v := undef) rfl (by kernel_rfl) (by kernel_rfl) (by kernel_rfl) (fun _ _ _ h => h) (Or.inr ⟨by rfl, rfl⟩) hH ?_
      simp only [Act.put, List.setIfInBounds_toArray, List.set_cons_zero, List.set_cons_succ]
      refine wpAnyH_take (i := 13) (oi := { dst := some 77, op := Op.unOp UnOp.not 4 (Operand.tmp 76), type := 4, pos := "pass.go:108", after := #[{ on := 12, ground := Ground.data }, { on := 10, ground := Ground.guard }], guard := some (10, false) }) (v := undef) rfl (by kernel_rfl) (by kernel_rfl) (by kernel_rfl) (fun _ _ _ h => h) (Or.inr ⟨by rfl, rfl⟩) hH ?_
      simp only [Act.put, List.setIfInBounds_toArray, List.set_cons_zero, List.set_cons_succ]
      refine wpAnyH_take (i := 14) (oi := { dst := some 78, op := Op.pick (Operand.tmp 74) (Operand.const (Value.bool true)) (Operand.tmp 77), type := 4, pos := "pass.go:108", after := #[{ on := 10, ground := Ground.data }, { on := 13, ground := Ground.data }], guard := none }) (v := .bool true) rfl (by kernel_rfl) (by kernel_rfl) (by kernel_rfl) (fun _ _ _ h => h) (Or.inl ⟨by rfl, fun W hS => by go_simp⟩) hH ?_
      simp only [Act.put, List.setIfInBounds_toArray, List.set_cons_zero, List.set_cons_succ]
      refine wpAnyH_take (i := 15) (oi := { dst := some 79, op := Op.move (Operand.tmp 78), type := 4, pos := "pass.go:108", after := #[{ on := 14, ground := Ground.data }, { on := 12, ground := Ground.chain }], guard := none }) (v := .bool true) rfl (by kernel_rfl) (by kernel_rfl) (by kernel_rfl) (fun _ _ _ h => h) (Or.inl ⟨by rfl, fun W hS => by go_simp⟩) hH ?_
      simp only [Act.put, List.setIfInBounds_toArray, List.set_cons_zero, List.set_cons_succ]
      refine wpAnyH_take (i := 16) (oi := { dst := some 80, op := Op.move (Operand.tmp 0), type := 9, pos := "pass.go:108", after := #[{ on := 15, ground := Ground.guard }], guard := some (15, false) }) (v := undef) rfl (by kernel_rfl) (by kernel_rfl) (by kernel_rfl) (fun _ _ _ h => h) (Or.inr ⟨by rfl, rfl⟩) hH ?_
      simp only [Act.put, List.setIfInBounds_toArray, List.set_cons_zero, List.set_cons_succ]
      refine wpAnyH_take (i := 17) (oi := { dst := some 81, op := Op.call { callee := Callee.value (Operand.func 81), args := #[Operand.tmp 80], argTypes := #[9] }, type := 167, pos := "pass.go:108", after := #[{ on := 16, ground := Ground.data }, { on := 15, ground := Ground.chain }, { on := 15, ground := Ground.guard }], guard := some (15, false) }) (v := undef) rfl (by kernel_rfl) (by kernel_rfl) (by kernel_rfl) (fun _ _ _ h => h) (Or.inr ⟨by rfl, rfl⟩) hH ?_
      simp only [Act.put, List.setIfInBounds_toArray, List.set_cons_zero, List.set_cons_succ]
      refine wpAnyH_take (i := 18) (oi := { dst := some 82, op := Op.load 90 (Operand.tmp 15), type := 90, pos := "pass.go:108", after := #[{ on := 15, ground := Ground.guard }], guard := some (15, false) }) (v := undef) rfl (by kernel_rfl) (by kernel_rfl) (by kernel_rfl) (fun _ _ _ h => h) (Or.inr ⟨by rfl, rfl⟩) hH ?_
      simp only [Act.put, List.setIfInBounds_toArray, List.set_cons_zero, List.set_cons_succ]
      refine wpAnyH_take (i := 19) (oi := { dst := some 83, op := Op.call { callee := Callee.value (Operand.tmp 81), args := #[Operand.tmp 82], argTypes := #[90] }, type := 9, pos := "pass.go:108", after := #[{ on := 17, ground := Ground.data }, { on := 18, ground := Ground.data }, { on := 17, ground := Ground.chain }, { on := 15, ground := Ground.guard }], guard := some (15, false) }) (v := undef) rfl (by kernel_rfl) (by kernel_rfl) (by kernel_rfl) (fun _ _ _ h => h) (Or.inr ⟨by rfl, rfl⟩) hH ?_
      simp only [Act.put, List.setIfInBounds_toArray, List.set_cons_zero, List.set_cons_succ]
      refine wpAnyH_take (i := 20) (oi := { dst := some 84, op := Op.convert 9 152 (Operand.tmp 83), type := 152, pos := "pass.go:108", after := #[{ on := 19, ground := Ground.data }, { on := 15, ground := Ground.guard }], guard := some (15, false) }) (v := undef) rfl (by kernel_rfl) (by kernel_rfl) (by kernel_rfl) (fun _ _ _ h => h) (Or.inr ⟨by rfl, rfl⟩) hH ?_
      simp only [Act.put, List.setIfInBounds_toArray, List.set_cons_zero, List.set_cons_succ]
      refine wpAnyH_take (i := 21) (oi := { dst := some 85, op := Op.move (Operand.tmp 1), type := 9, pos := "pass.go:108", after := #[{ on := 15, ground := Ground.guard }], guard := some (15, false) }) (v := undef) rfl (by kernel_rfl) (by kernel_rfl) (by kernel_rfl) (fun _ _ _ h => h) (Or.inr ⟨by rfl, rfl⟩) hH ?_
      simp only [Act.put, List.setIfInBounds_toArray, List.set_cons_zero, List.set_cons_succ]
      refine wpAnyH_take (i := 22) (oi := { dst := some 86, op := Op.convert 9 152 (Operand.tmp 85), type := 152, pos := "pass.go:108", after := #[{ on := 21, ground := Ground.data }, { on := 15, ground := Ground.guard }], guard := some (15, false) }) (v := undef) rfl (by kernel_rfl) (by kernel_rfl) (by kernel_rfl) (fun _ _ _ h => h) (Or.inr ⟨by rfl, rfl⟩) hH ?_
      simp only [Act.put, List.setIfInBounds_toArray, List.set_cons_zero, List.set_cons_succ]
      refine wpAnyH_take (i := 23) (oi := { dst := some 87, op := Op.call { callee := Callee.value (Operand.func 80), args := #[Operand.tmp 84, Operand.tmp 86], argTypes := #[152, 152] }, type := 4, pos := "pass.go:108", after := #[{ on := 20, ground := Ground.data }, { on := 22, ground := Ground.data }, { on := 19, ground := Ground.chain }, { on := 15, ground := Ground.guard }], guard := some (15, false) }) (v := undef) rfl (by kernel_rfl) (by kernel_rfl) (by kernel_rfl) (fun _ _ _ h => h) (Or.inr ⟨by rfl, rfl⟩) hH ?_
      simp only [Act.put, List.setIfInBounds_toArray, List.set_cons_zero, List.set_cons_succ]
      refine wpAnyH_take (i := 24) (oi := { dst := some 88, op := Op.unOp UnOp.not 4 (Operand.tmp 87), type := 4, pos := "pass.go:108", after := #[{ on := 23, ground := Ground.data }, { on := 15, ground := Ground.guard }], guard := some (15, false) }) (v := undef) rfl (by kernel_rfl) (by kernel_rfl) (by kernel_rfl) (fun _ _ _ h => h) (Or.inr ⟨by rfl, rfl⟩) hH ?_
      simp only [Act.put, List.setIfInBounds_toArray, List.set_cons_zero, List.set_cons_succ]
      refine wpAnyH_take (i := 25) (oi := { dst := some 89, op := Op.pick (Operand.tmp 79) (Operand.const (Value.bool true)) (Operand.tmp 88), type := 4, pos := "pass.go:108", after := #[{ on := 15, ground := Ground.data }, { on := 24, ground := Ground.data }], guard := none }) (v := .bool true) rfl (by kernel_rfl) (by kernel_rfl) (by kernel_rfl) (fun _ _ _ h => h) (Or.inl ⟨by rfl, fun W hS => by go_simp⟩) hH ?_
      simp only [Act.put, List.setIfInBounds_toArray, List.set_cons_zero, List.set_cons_succ]
      refine wpAnyH_done (by kernel_rfl) ?_ _
      go_wp2_with fail
      go_meet
      exact ⟨by rw [HBAD.out], hH⟩
    clear h0 h2 hu
    by_cases hse : sessB ⟨v0, us.data.toList, v2⟩
    rotate_left
    · have HBAD : Hid (BAD = true) := HBT.out (fun h => hse h.2.2.2.1)
      have HSE := Lib.hid (fun (W : World) (h : BoxS wU v0 us v2 W) => (session_walk v0 us v2 W (by unfold maxLen; omega)).mono (fun e W' (q : e = .returned (.bool (decide (sessB ⟨v0, us.data.toList, v2⟩))) ∧ Below W.heap.size W W') => (⟨by rw [q.1, decide_eq_false hse], h.next q.2⟩ : e = .returned (.bool false) ∧ BoxS wU v0 us v2 W')))
      clear hse
      refine wp_region_held_drew (S := BoxS wU v0 us v2) (by kernel_rfl) HBU.out.drew (fun hH => ?_)
      generalize (wU.alloc (sessO v0 us v2)).drew = Wd at hH ⊢
      refine wpAnyH_take (i := 0) (oi := { dst := some 64, op := Op.move (Operand.tmp 10), type := 160, pos := "pass.go:108", after := #[], guard := none }) (v := .nilIface) rfl (by kernel_rfl) (by kernel_rfl) (by kernel_rfl) (fun _ _ _ h => h) (Or.inl ⟨by rfl, fun W hS => by go_simp⟩) hH ?_
      simp only [Act.put, List.setIfInBounds_toArray, List.set_cons_zero, List.set_cons_succ]
      refine wpAnyH_take (i := 1) (oi := { dst := some 65, op := Op.binOp BinOp.neq 160 (Operand.tmp 64) (Operand.const Value.nilIface) 160, type := 4, pos := "pass.go:108", after := #[{ on := 0, ground := Ground.data }], guard := none }) (v := .bool false) rfl (by kernel_rfl) (by kernel_rfl) (by kernel_rfl) (fun _ _ _ h => h) (Or.inl ⟨by rfl, fun W hS => by go_simp⟩) hH ?_
      simp only [Act.put, List.setIfInBounds_toArray, List.set_cons_zero, List.set_cons_succ]
      refine wpAnyH_take (i := 2) (oi := { dst := some 66, op := Op.move (Operand.tmp 65), type := 4, pos := "pass.go:108", after := #[{ on := 1, ground := Ground.data }], guard := none }) (v := .bool false) rfl (by kernel_rfl) (by kernel_rfl) (by kernel_rfl) (fun _ _ _ h => h) (Or.inl ⟨by rfl, fun W hS => by go_simp⟩) hH ?_
      simp only [Act.put, List.setIfInBounds_toArray, List.set_cons_zero, List.set_cons_succ]
      refine wpAnyH_take (i := 3) (oi := { dst := some 67, op := Op.move (Operand.tmp 12), type := 160, pos := "pass.go:108", after := #[{ on := 2, ground := Ground.guard }], guard := some (2, false) }) (v := .nilIface) rfl (by kernel_rfl) (by kernel_rfl) (by kernel_rfl) (fun _ _ _ h => h) (Or.inl ⟨by rfl, fun W hS => by go_simp⟩) hH ?_
      simp only [Act.put, List.setIfInBounds_toArray, List.set_cons_zero, List.set_cons_succ]
      refine wpAnyH_take (i := 4) (oi := { dst := some 68, op := Op.binOp BinOp.neq 160 (Operand.tmp 67) (Operand.const Value.nilIface) 160, type := 4, pos := "pass.go:108", after := #[{ on := 3, ground := Ground.data }, { on := 2, ground := Ground.guard }], guard := some (2, false) }) (v := .bool false) rfl (by kernel_rfl) (by kernel_rfl) (by kernel_rfl) (fun _ _ _ h => h) (Or.inl ⟨by rfl, fun W hS => by go_simp⟩) hH ?_
      simp only [Act.put, List.setIfInBounds_toArray, List.set_cons_zero, List.set_cons_succ]
      refine wpAnyH_take (i := 5) (oi := { dst := some 69, op := Op.pick (Operand.tmp 66) (Operand.const (Value.bool true)) (Operand.tmp 68), type := 4, pos := "pass.go:108", after := #[{ on := 2, ground := Ground.data }, { on := 4, ground := Ground.data }], guard := none }) (v := .bool false) rfl (by kernel_rfl) (by kernel_rfl) (by kernel_rfl) (fun _ _ _ h => h) (Or.inl ⟨by rfl, fun W hS => by go_simp⟩) hH ?_
      simp only [Act.put, List.setIfInBounds_toArray, List.set_cons_zero, List.set_cons_succ]
      refine wpAnyH_take (i := 6) (oi := { dst := some 70, op := Op.move (Operand.tmp 69), type := 4, pos := "pass.go:108", after := #[{ on := 5, ground := Ground.data }, { on := 2, ground := Ground.chain }], guard := none }) (v := .bool false) rfl (by kernel_rfl) (by kernel_rfl) (by kernel_rfl) (fun _ _ _ h => h) (Or.inl ⟨by rfl, fun W hS => by go_simp⟩) hH ?_
      simp only [Act.put, List.setIfInBounds_toArray, List.set_cons_zero, List.set_cons_succ]
      refine wpAnyH_take (i := 7) (oi := { dst := some 71, op := Op.move (Operand.tmp 14), type := 36, pos := "pass.go:108", after := #[{ on := 6, ground := Ground.guard }], guard := some (6, false) }) (v := .int .i64 0) rfl (by kernel_rfl) (by kernel_rfl) (by kernel_rfl) (fun _ _ _ h => h) (Or.inl ⟨by rfl, fun W hS => by go_simp⟩) hH ?_
      simp only [Act.put, List.setIfInBounds_toArray, List.set_cons_zero, List.set_cons_succ]
      refine wpAnyH_take (i := 8) (oi := { dst := some 72, op := Op.binOp BinOp.neq 36 (Operand.tmp 71) (Operand.const (Value.int IntKind.i64 0)) 36, type := 4, pos := "pass.go:108", after := #[{ on := 7, ground := Ground.data }, { on := 6, ground := Ground.guard }], guard := some (6, false) }) (v := .bool false) rfl (by kernel_rfl) (by kernel_rfl) (by kernel_rfl) (fun _ _ _ h => h) (Or.inl ⟨by rfl, fun W hS => by go_simp⟩) hH ?_
      simp only [Act.put, List.setIfInBounds_toArray, List.set_cons_zero, List.set_cons_succ]
      refine wpAnyH_take (i := 9) (oi := { dst := some 73, op := Op.pick (Operand.tmp 70) (Operand.const (Value.bool true)) (Operand.tmp 72), type := 4, pos := "pass.go:108", after := #[{ on := 6, ground := Ground.data }, { on := 8, ground := Ground.data }], guard := none }) (v := .bool false) rfl (by kernel_rfl) (by kernel_rfl) (by kernel_rfl) (fun _ _ _ h => h) (Or.inl ⟨by rfl, fun W hS => by go_simp⟩) hH ?_
      simp only [Act.put, List.setIfInBounds_toArray, List.set_cons_zero, List.set_cons_succ]
      refine wpAnyH_take (i := 10) (oi := { dst := some 74, op := Op.move (Operand.tmp 73), type := 4, pos := "pass.go:108", after := #[{ on := 9, ground := Ground.data }, { on := 6, ground := Ground.chain }], guard := none }) (v := .bool false) rfl (by kernel_rfl) (by kernel_rfl) (by kernel_rfl) (fun _ _ _ h => h) (Or.inl ⟨by rfl, fun W hS => by go_simp⟩) hH ?_
      simp only [Act.put, List.setIfInBounds_toArray, List.set_cons_zero, List.set_cons_succ]
      refine wpAnyH_take (i := 11) (oi := { dst := some 75, op := Op.load 90 (Operand.tmp 15), type := 90, pos := "pass.go:108", after := #[{ on := 10, ground := Ground.guard }], guard := some (10, false) }) (v := sessV v0 us v2) rfl (by kernel_rfl) (by kernel_rfl) (by kernel_rfl) (fun _ _ _ h => h) (Or.inl ⟨by rfl, fun W hS => by obtain ⟨-, h0, h1, h2⟩ := hS; go_simp⟩) hH ?_
      simp only [Act.put, List.setIfInBounds_toArray, List.set_cons_zero, List.set_cons_succ]
      refine wpAnyH_ready (rs := [12]) (by kernel_rfl) (by simp) ?_
      refine AllReadyH.cons (o := { dst := some 76, op := Op.call { callee := Callee.value (Operand.func 79), args := #[Operand.tmp 75], argTypes := #[90] }, type := 4, pos := "pass.go:108", after := #[{ on := 11, ground := Ground.data }, { on := 10, ground := Ground.chain }, { on := 10, ground := Ground.guard }], guard := some (10, false) }) rfl (fun K hK => ?_) AllReadyH.nil
      go_simp
      go_at_call 79
      refine (HSE.out _ hH).mono ?_
      rintro e W' ⟨rfl, hs1⟩
      go_wp2_with fail
      refine hK.out _ _ hs1 (fun hH => ?_)
      clear hK K
      try simp only [Act.put, List.setIfInBounds_toArray, List.set_cons_zero, List.set_cons_succ]
      refine wpAnyH_take (i := 13) (oi := { dst := some 77, op := Op.unOp UnOp.not 4 (Operand.tmp 76), type := 4, pos := "pass.go:108", after := #[{ on := 12, ground := Ground.data }, { on := 10, ground := Ground.guard }], guard := some (10, false) }) (v := .bool true) rfl (by kernel_rfl) (by kernel_rfl) (by kernel_rfl) (fun _ _ _ h => h) (Or.inl ⟨by rfl, fun W hS => by go_simp⟩) hH ?_
      simp only [Act.put, List.setIfInBounds_toArray, List.set_cons_zero, List.set_cons_succ]
      refine wpAnyH_take (i := 14) (oi := { dst := some 78, op := Op.pick (Operand.tmp 74) (Operand.const (Value.bool true)) (Operand.tmp 77), type := 4, pos := "pass.go:108", after := #[{ on := 10, ground := Ground.data }, { on := 13, ground := Ground.data }], guard := none }) (v := .bool true) rfl (by kernel_rfl) (by kernel_rfl) (by kernel_rfl) (fun _ _ _ h => h) (Or.inl ⟨by rfl, fun W hS => by go_simp⟩) hH ?_
      simp only [Act.put, List.setIfInBounds_toArray, List.set_cons_zero, List.set_cons_succ]
      refine wpAnyH_take (i := 15) (oi := { dst := some 79, op := Op.move (Operand.tmp 78), type := 4, pos := "pass.go:108", after := #[{ on := 14, ground := Ground.data }, { on := 12, ground := Ground.chain }], guard := none }) (v := .bool true) rfl (by kernel_rfl) (by kernel_rfl) (by kernel_rfl) (fun _ _ _ h => h) (Or.inl ⟨by rfl, fun W hS => by go_simp⟩) hH ?_
      simp only [Act.put, List.setIfInBounds_toArray, List.set_cons_zero, List.set_cons_succ]
      refine wpAnyH_take (i := 16) (oi := { dst := some 80, op := Op.move (Operand.tmp 0), type := 9, pos := "pass.go:108", after := #[{ on := 15, ground := Ground.guard }], guard := some (15, false) }) (v := undef) rfl (by kernel_rfl) (by kernel_rfl) (by kernel_rfl) (fun _ _ _ h => h) (Or.inr ⟨by rfl, rfl⟩) hH ?_
      simp only [Act.put, List.setIfInBounds_toArray, List.set_cons_zero, List.set_cons_succ]
      refine wpAnyH_take (i := 17) (oi := { dst := some 81, op := Op.call { callee := Callee.value (Operand.func 81), args := #[Operand.tmp 80], argTypes := #[9] }, type := 167, pos := "pass.go:108", after := #[{ on := 16, ground := Ground.data }, { on := 15, ground := Ground.chain }, { on := 15, ground := Ground.guard }], guard := some (15, false) }) (v := undef) rfl (by kernel_rfl) (by kernel_rfl) (by kernel_rfl) (fun _ _ _ h => h) (Or.inr ⟨by rfl, rfl⟩) hH ?_
      simp only [Act.put, List.setIfInBounds_toArray, List.set_cons_zero, List.set_cons_succ]
      refine wpAnyH_take (i := 18) (oi := { dst := some 82, op := Op.load 90 (Operand.tmp 15), type := 90, pos := "pass.go:108", after := #[{ on := 15, ground := Ground.guard }], guard := some (15, false) }) (v := undef) rfl (by kernel_rfl) (by kernel_rfl) (by kernel_rfl) (fun _ _ _ h => h) (Or.inr ⟨by rfl, rfl⟩) hH ?_
      simp only [Act.put, List.setIfInBounds_toArray, List.set_cons_zero, List.set_cons_succ]
      refine wpAnyH_take (i := 19) (oi := { dst := some 83, op := Op.call { callee := Callee.value (Operand.tmp 81), args := #[Operand.tmp 82], argTypes := #[90] }, type := 9, pos := "pass.go:108", after := #[{ on := 17, ground := Ground.data }, { on := 18, ground := Ground.data }, { on := 17, ground := Ground.chain }, { on := 15, ground := Ground.guard }], guard := some (15, false) }) (v := undef) rfl (by kernel_rfl) (by kernel_rfl) (by kernel_rfl) (fun _ _ _ h => h) (Or.inr ⟨by rfl, rfl⟩) hH ?_
      simp only [Act.put, List.setIfInBounds_toArray, List.set_cons_zero, List.set_cons_succ]
      refine wpAnyH_take (i := 20) (oi := { dst := some 84, op := Op.convert 9 152 (Operand.tmp 83), type := 152, pos := "pass.go:108", after := #[{ on := 19, ground := Ground.data }, { on := 15, ground := Ground.guard }], guard := some (15, false) }) (v := undef) rfl (by kernel_rfl) (by kernel_rfl) (by kernel_rfl) (fun _ _ _ h => h) (Or.inr ⟨by rfl, rfl⟩) hH ?_
      simp only [Act.put, List.setIfInBounds_toArray, List.set_cons_zero, List.set_cons_succ]
      refine wpAnyH_take (i := 21) (oi := { dst := some 85, op := Op.move (Operand.tmp 1), type := 9, pos := "pass.go:108", after := #[{ on := 15, ground := Ground.guard }], guard := some (15, false) }) (v := undef) rfl (by kernel_rfl) (by kernel_rfl) (by kernel_rfl) (fun _ _ _ h => h) (Or.inr ⟨by rfl, rfl⟩) hH ?_
      simp only [Act.put, List.setIfInBounds_toArray, List.set_cons_zero, List.set_cons_succ]
      refine wpAnyH_take (i := 22) (oi := { dst := some 86, op := Op.convert 9 152 (Operand.tmp 85), type := 152, pos := "pass.go:108", after := #[{ on := 21, ground := Ground.data }, { on := 15, ground := Ground.guard }], guard := some (15, false) }) (v := undef) rfl (by kernel_rfl) (by kernel_rfl) (by kernel_rfl) (fun _ _ _ h => h) (Or.inr ⟨by rfl, rfl⟩) hH ?_
      simp only [Act.put, List.setIfInBounds_toArray, List.set_cons_zero, List.set_cons_succ]
      refine wpAnyH_take (i := 23) (oi := { dst := some 87, op := Op.call { callee := Callee.value (Operand.func 80), args := #[Operand.tmp 84, Operand.tmp 86], argTypes := #[152, 152] }, type := 4, pos := "pass.go:108", after := #[{ on := 20, ground := Ground.data }, { on := 22, ground := Ground.data }, { on := 19, ground := Ground.chain }, { on := 15, ground := Ground.guard }], guard := some (15, false) }) (v := undef) rfl (by kernel_rfl) (by kernel_rfl) (by kernel_rfl) (fun _ _ _ h => h) (Or.inr ⟨by rfl, rfl⟩) hH ?_
      simp only [Act.put, List.setIfInBounds_toArray, List.set_cons_zero, List.set_cons_succ]
      refine wpAnyH_take (i := 24) (oi := { dst := some 88, op := Op.unOp UnOp.not 4 (Operand.tmp 87), type := 4, pos := "pass.go:108", after := #[{ on := 23, ground := Ground.data }, { on := 15, ground := Ground.guard }], guard := some (15, false) }) (v := undef) rfl (by kernel_rfl) (by kernel_rfl) (by kernel_rfl) (fun _ _ _ h => h) (Or.inr ⟨by rfl, rfl⟩) hH ?_
      simp only [Act.put, List.setIfInBounds_toArray, List.set_cons_zero, List.set_cons_succ]
      refine wpAnyH_take (i := 25) (oi := { dst := some 89, op := Op.pick (Operand.tmp 79) (Operand.const (Value.bool true)) (Operand.tmp 88), type := 4, pos := "pass.go:108", after := #[{ on := 15, ground := Ground.data }, { on := 24, ground := Ground.data }], guard := none }) (v := .bool true) rfl (by kernel_rfl) (by kernel_rfl) (by kernel_rfl) (fun _ _ _ h => h) (Or.inl ⟨by rfl, fun W hS => by go_simp⟩) hH ?_
      simp only [Act.put, List.setIfInBounds_toArray, List.set_cons_zero, List.set_cons_succ]
      refine wpAnyH_done (by kernel_rfl) ?_ _
      go_wp2_with fail
      go_meet
      exact ⟨by rw [HBAD.out], hH⟩
    · have HSE := Lib.hid (fun (W : World) (h : BoxS wU v0 us v2 W) => (session_walk v0 us v2 W (by unfold maxLen; omega)).mono (fun e W' (q : e = .returned (.bool (decide (sessB ⟨v0, us.data.toList, v2⟩))) ∧ Below W.heap.size W W') => (⟨by rw [q.1, decide_eq_true hse], h.next q.2⟩ : e = .returned (.bool true) ∧ BoxS wU v0 us v2 W')))
      obtain ⟨M, hM⟩ : ∃ M : ByteArray, (⟨(madeT secret.data.toList ⟨v0, us.data.toList, v2⟩).toArray⟩ : ByteArray) = M := ⟨_, rfl⟩
      have hMd : madeT secret.data.toList ⟨v0, us.data.toList, v2⟩ = M.data.toList := by rw [← hM]
      have hMl : M.size ≤ 200 := by have := madeT_len (k := secret.data.toList) hse; rw [hMd, ba_len] at this; exact this
      obtain ⟨q, hq⟩ : ∃ q, decide (M.data.toList = token.data.toList) = q := ⟨_, rfl⟩
      have HBAD : Hid (BAD = !q) := by
        show _ = _
        rw [← hq]
        by_cases hmt : M.data.toList = token.data.toList
        · rw [decide_eq_true hmt]; exact HBD.out.2 ⟨rfl, rfl, rfl, hse, hMd.trans hmt⟩
        · rw [decide_eq_false hmt]; exact HBT.out (fun h => hmt (hMd.symm.trans h.2.2.2.2))
      obtain ⟨q1, q2, -, q4, q5⟩ := id hse
      replace q2 : v0 ≤ 2147483647 := q2
      replace q5 : v2 ≤ 1099511627776 := q5
      have hksz : secret.size ≤ 64 := by have := HK.out.2; rw [ba_len] at this; exact this
      have HSL : Hid (∀ W : World, BoxS wU v0 us v2 W → Calls Tryz.prog 81 #[.string secret] W fun e W' => ∃ k, e = .returned (.func (.func 123) #[] #[.pointer (some ⟨k, 0, none⟩)]) ∧ W'.cell? ⟨k, 0, none⟩ = some (.string secret) ∧ BoxS wU v0 us v2 W' ∧ Below W.heap.size W W') := fun W h => (sealer_walk secret W).mono (by
        rintro e W' ⟨rfl, rfl⟩
        exact ⟨_, rfl, by go_simp, h.alloc _, (Below.refl _ _).alloc (Nat.le_refl _) _⟩)
      have HC : Hid (∀ (k : Nat) (W : World), BoxS wU v0 us v2 W → W.cell? ⟨k, 0, none⟩ = some (.string secret) → Calls Tryz.prog 123 #[sessV v0 us v2, .pointer (some ⟨k, 0, none⟩)] W fun e W' => e = .returned (.string M) ∧ BoxS wU v0 us v2 W' ∧ Below W.heap.size W W') := fun k W h hk => (sealed_walk k secret us v0 v2 W (h.tokW HTU.out) hk (World.block_lt_of_cell? W _ hk) q1 (by omega) q4 (by omega) (by omega) (by omega)).mono (by
        rintro e W' ⟨rfl, hb⟩
        rw [hM]
        exact ⟨rfl, h.next hb, hb⟩)
      obtain ⟨cc1, cw1, hcv1, hcb1⟩ := bytesOfAll M
      obtain ⟨cc2, cw2, hcv2, hcb2⟩ := bytesOfAll token
      have HB1 : Hid (∀ W, BoxS wU v0 us v2 W → Bytes (cw1 W).heap.size (cw1 W) (.slice (some ⟨W.heap.size, 0, none⟩) M.size (cc1 W)) M.data.toList ∧ Below W.heap.size W (cw1 W) ∧ BoxS wU v0 us v2 (cw1 W)) := fun W h => ⟨(hcb1 W).1, (hcb1 W).2.1, h.next (hcb1 W).2.1⟩
      have HB2 : Hid (∀ W, BoxS wU v0 us v2 W → Bytes (cw2 W).heap.size (cw2 W) (.slice (some ⟨W.heap.size, 0, none⟩) token.size (cc2 W)) token.data.toList ∧ Below W.heap.size W (cw2 W) ∧ BoxS wU v0 us v2 (cw2 W)) := fun W h => ⟨(hcb2 W).1, (hcb2 W).2.1, h.next (hcb2 W).2.1⟩
      have HSM : Hid (∀ (vx vy : Value) (W : World), Bytes W.heap.size W vx M.data.toList → Bytes W.heap.size W vy token.data.toList → BoxS wU v0 us v2 W → Calls Tryz.prog 80 #[vx, vy] W fun e W' => e = .returned (.bool q) ∧ BoxS wU v0 us v2 W') := fun vx vy W h1 h2 h => (Same_walk vx vy _ _ W.heap.size W h1 h2 (by rw [ba_len]; omega) (by rw [ba_len]; omega)).mono (by
        rintro e W' ⟨rfl, m, rfl⟩
        rw [hq]
        exact ⟨rfl, BoxS.of (below_drewN h.1 m)⟩)
      clear hM hMd hq hse hcb1 hcb2 q1 q2 q4 q5 HBT HBD HGO
      refine wp_region_held_drew (S := BoxS wU v0 us v2) (by kernel_rfl) HBU.out.drew (fun hH => ?_)
      generalize (wU.alloc (sessO v0 us v2)).drew = Wd at hH ⊢
      refine wpAnyH_take (i := 0) (oi := { dst := some 64, op := Op.move (Operand.tmp 10), type := 160, pos := "pass.go:108", after := #[], guard := none }) (v := .nilIface) rfl (by kernel_rfl) (by kernel_rfl) (by kernel_rfl) (fun _ _ _ h => h) (Or.inl ⟨by rfl, fun W hS => by go_simp⟩) hH ?_
      simp only [Act.put, List.setIfInBounds_toArray, List.set_cons_zero, List.set_cons_succ]
      refine wpAnyH_take (i := 1) (oi := { dst := some 65, op := Op.binOp BinOp.neq 160 (Operand.tmp 64) (Operand.const Value.nilIface) 160, type := 4, pos := "pass.go:108", after := #[{ on := 0, ground := Ground.data }], guard := none }) (v := .bool false) rfl (by kernel_rfl) (by kernel_rfl) (by kernel_rfl) (fun _ _ _ h => h) (Or.inl ⟨by rfl, fun W hS => by go_simp⟩) hH ?_
      simp only [Act.put, List.setIfInBounds_toArray, List.set_cons_zero, List.set_cons_succ]
      refine wpAnyH_take (i := 2) (oi := { dst := some 66, op := Op.move (Operand.tmp 65), type := 4, pos := "pass.go:108", after := #[{ on := 1, ground := Ground.data }], guard := none }) (v := .bool false) rfl (by kernel_rfl) (by kernel_rfl) (by kernel_rfl) (fun _ _ _ h => h) (Or.inl ⟨by rfl, fun W hS => by go_simp⟩) hH ?_
      simp only [Act.put, List.setIfInBounds_toArray, List.set_cons_zero, List.set_cons_succ]
      refine wpAnyH_take (i := 3) (oi := { dst := some 67, op := Op.move (Operand.tmp 12), type := 160, pos := "pass.go:108", after := #[{ on := 2, ground := Ground.guard }], guard := some (2, false) }) (v := .nilIface) rfl (by kernel_rfl) (by kernel_rfl) (by kernel_rfl) (fun _ _ _ h => h) (Or.inl ⟨by rfl, fun W hS => by go_simp⟩) hH ?_
      simp only [Act.put, List.setIfInBounds_toArray, List.set_cons_zero, List.set_cons_succ]
      refine wpAnyH_take (i := 4) (oi := { dst := some 68, op := Op.binOp BinOp.neq 160 (Operand.tmp 67) (Operand.const Value.nilIface) 160, type := 4, pos := "pass.go:108", after := #[{ on := 3, ground := Ground.data }, { on := 2, ground := Ground.guard }], guard := some (2, false) }) (v := .bool false) rfl (by kernel_rfl) (by kernel_rfl) (by kernel_rfl) (fun _ _ _ h => h) (Or.inl ⟨by rfl, fun W hS => by go_simp⟩) hH ?_
      simp only [Act.put, List.setIfInBounds_toArray, List.set_cons_zero, List.set_cons_succ]
      refine wpAnyH_take (i := 5) (oi := { dst := some 69, op := Op.pick (Operand.tmp 66) (Operand.const (Value.bool true)) (Operand.tmp 68), type := 4, pos := "pass.go:108", after := #[{ on := 2, ground := Ground.data }, { on := 4, ground := Ground.data }], guard := none }) (v := .bool false) rfl (by kernel_rfl) (by kernel_rfl) (by kernel_rfl) (fun _ _ _ h => h) (Or.inl ⟨by rfl, fun W hS => by go_simp⟩) hH ?_
      simp only [Act.put, List.setIfInBounds_toArray, List.set_cons_zero, List.set_cons_succ]
      refine wpAnyH_take (i := 6) (oi := { dst := some 70, op := Op.move (Operand.tmp 69), type := 4, pos := "pass.go:108", after := #[{ on := 5, ground := Ground.data }, { on := 2, ground := Ground.chain }], guard := none }) (v := .bool false) rfl (by kernel_rfl) (by kernel_rfl) (by kernel_rfl) (fun _ _ _ h => h) (Or.inl ⟨by rfl, fun W hS => by go_simp⟩) hH ?_
      simp only [Act.put, List.setIfInBounds_toArray, List.set_cons_zero, List.set_cons_succ]
      refine wpAnyH_take (i := 7) (oi := { dst := some 71, op := Op.move (Operand.tmp 14), type := 36, pos := "pass.go:108", after := #[{ on := 6, ground := Ground.guard }], guard := some (6, false) }) (v := .int .i64 0) rfl (by kernel_rfl) (by kernel_rfl) (by kernel_rfl) (fun _ _ _ h => h) (Or.inl ⟨by rfl, fun W hS => by go_simp⟩) hH ?_
      simp only [Act.put, List.setIfInBounds_toArray, List.set_cons_zero, List.set_cons_succ]
      refine wpAnyH_take (i := 8) (oi := { dst := some 72, op := Op.binOp BinOp.neq 36 (Operand.tmp 71) (Operand.const (Value.int IntKind.i64 0)) 36, type := 4, pos := "pass.go:108", after := #[{ on := 7, ground := Ground.data }, { on := 6, ground := Ground.guard }], guard := some (6, false) }) (v := .bool false) rfl (by kernel_rfl) (by kernel_rfl) (by kernel_rfl) (fun _ _ _ h => h) (Or.inl ⟨by rfl, fun W hS => by go_simp⟩) hH ?_
      simp only [Act.put, List.setIfInBounds_toArray, List.set_cons_zero, List.set_cons_succ]
      refine wpAnyH_take (i := 9) (oi := { dst := some 73, op := Op.pick (Operand.tmp 70) (Operand.const (Value.bool true)) (Operand.tmp 72), type := 4, pos := "pass.go:108", after := #[{ on := 6, ground := Ground.data }, { on := 8, ground := Ground.data }], guard := none }) (v := .bool false) rfl (by kernel_rfl) (by kernel_rfl) (by kernel_rfl) (fun _ _ _ h => h) (Or.inl ⟨by rfl, fun W hS => by go_simp⟩) hH ?_
      simp only [Act.put, List.setIfInBounds_toArray, List.set_cons_zero, List.set_cons_succ]
      refine wpAnyH_take (i := 10) (oi := { dst := some 74, op := Op.move (Operand.tmp 73), type := 4, pos := "pass.go:108", after := #[{ on := 9, ground := Ground.data }, { on := 6, ground := Ground.chain }], guard := none }) (v := .bool false) rfl (by kernel_rfl) (by kernel_rfl) (by kernel_rfl) (fun _ _ _ h => h) (Or.inl ⟨by rfl, fun W hS => by go_simp⟩) hH ?_
      simp only [Act.put, List.setIfInBounds_toArray, List.set_cons_zero, List.set_cons_succ]
      refine wpAnyH_take (i := 11) (oi := { dst := some 75, op := Op.load 90 (Operand.tmp 15), type := 90, pos := "pass.go:108", after := #[{ on := 10, ground := Ground.guard }], guard := some (10, false) }) (v := sessV v0 us v2) rfl (by kernel_rfl) (by kernel_rfl) (by kernel_rfl) (fun _ _ _ h => h) (Or.inl ⟨by rfl, fun W hS => by obtain ⟨-, h0, h1, h2⟩ := hS; go_simp⟩) hH ?_
      simp only [Act.put, List.setIfInBounds_toArray, List.set_cons_zero, List.set_cons_succ]
      refine wpAnyH_ready (rs := [12]) (by kernel_rfl) (by simp) ?_
      refine AllReadyH.cons (o := { dst := some 76, op := Op.call { callee := Callee.value (Operand.func 79), args := #[Operand.tmp 75], argTypes := #[90] }, type := 4, pos := "pass.go:108", after := #[{ on := 11, ground := Ground.data }, { on := 10, ground := Ground.chain }, { on := 10, ground := Ground.guard }], guard := some (10, false) }) rfl (fun K hK => ?_) AllReadyH.nil
      go_simp
      go_at_call 79
      refine (HSE.out _ hH).mono ?_
      rintro e W' ⟨rfl, hs1⟩
      go_wp2_with fail
      refine hK.out _ _ hs1 (fun hH => ?_)
      clear hK K
      try simp only [Act.put, List.setIfInBounds_toArray, List.set_cons_zero, List.set_cons_succ]
      refine wpAnyH_take (i := 13) (oi := { dst := some 77, op := Op.unOp UnOp.not 4 (Operand.tmp 76), type := 4, pos := "pass.go:108", after := #[{ on := 12, ground := Ground.data }, { on := 10, ground := Ground.guard }], guard := some (10, false) }) (v := .bool false) rfl (by kernel_rfl) (by kernel_rfl) (by kernel_rfl) (fun _ _ _ h => h) (Or.inl ⟨by rfl, fun W hS => by go_simp⟩) hH ?_
      simp only [Act.put, List.setIfInBounds_toArray, List.set_cons_zero, List.set_cons_succ]
      refine wpAnyH_take (i := 14) (oi := { dst := some 78, op := Op.pick (Operand.tmp 74) (Operand.const (Value.bool true)) (Operand.tmp 77), type := 4, pos := "pass.go:108", after := #[{ on := 10, ground := Ground.data }, { on := 13, ground := Ground.data }], guard := none }) (v := .bool false) rfl (by kernel_rfl) (by kernel_rfl) (by kernel_rfl) (fun _ _ _ h => h) (Or.inl ⟨by rfl, fun W hS => by go_simp⟩) hH ?_
      simp only [Act.put, List.setIfInBounds_toArray, List.set_cons_zero, List.set_cons_succ]
      refine wpAnyH_take (i := 15) (oi := { dst := some 79, op := Op.move (Operand.tmp 78), type := 4, pos := "pass.go:108", after := #[{ on := 14, ground := Ground.data }, { on := 12, ground := Ground.chain }], guard := none }) (v := .bool false) rfl (by kernel_rfl) (by kernel_rfl) (by kernel_rfl) (fun _ _ _ h => h) (Or.inl ⟨by rfl, fun W hS => by go_simp⟩) hH ?_
      simp only [Act.put, List.setIfInBounds_toArray, List.set_cons_zero, List.set_cons_succ]
      refine wpAnyH_take (i := 16) (oi := { dst := some 80, op := Op.move (Operand.tmp 0), type := 9, pos := "pass.go:108", after := #[{ on := 15, ground := Ground.guard }], guard := some (15, false) }) (v := .string secret) rfl (by kernel_rfl) (by kernel_rfl) (by kernel_rfl) (fun _ _ _ h => h) (Or.inl ⟨by rfl, fun W hS => by go_simp⟩) hH ?_
      simp only [Act.put, List.setIfInBounds_toArray, List.set_cons_zero, List.set_cons_succ]
      refine wpAnyH_take (i := 18) (oi := { dst := some 82, op := Op.load 90 (Operand.tmp 15), type := 90, pos := "pass.go:108", after := #[{ on := 15, ground := Ground.guard }], guard := some (15, false) }) (v := sessV v0 us v2) rfl (by kernel_rfl) (by kernel_rfl) (by kernel_rfl) (fun _ _ _ h => h) (Or.inl ⟨by rfl, fun W hS => by obtain ⟨-, h0, h1, h2⟩ := hS; go_simp⟩) hH ?_
      simp only [Act.put, List.setIfInBounds_toArray, List.set_cons_zero, List.set_cons_succ]
      refine wpAnyH_take (i := 21) (oi := { dst := some 85, op := Op.move (Operand.tmp 1), type := 9, pos := "pass.go:108", after := #[{ on := 15, ground := Ground.guard }], guard := some (15, false) }) (v := .string token) rfl (by kernel_rfl) (by kernel_rfl) (by kernel_rfl) (fun _ _ _ h => h) (Or.inl ⟨by rfl, fun W hS => by go_simp⟩) hH ?_
      simp only [Act.put, List.setIfInBounds_toArray, List.set_cons_zero, List.set_cons_succ]
      refine wpAnyH_ready (rs := [17, 22]) (by kernel_rfl) (by simp) ?_
      refine AllReadyH.cons (o := { dst := some 81, op := Op.call { callee := Callee.value (Operand.func 81), args := #[Operand.tmp 80], argTypes := #[9] }, type := 167, pos := "pass.go:108", after := #[{ on := 16, ground := Ground.data }, { on := 15, ground := Ground.chain }, { on := 15, ground := Ground.guard }], guard := some (15, false) }) rfl (fun K hK => ?_) (AllReadyH.cons (o := { dst := some 86, op := Op.convert 9 152 (Operand.tmp 85), type := 152, pos := "pass.go:108", after := #[{ on := 21, ground := Ground.data }, { on := 15, ground := Ground.guard }], guard := some (15, false) }) rfl (fun K hK => ?_) AllReadyH.nil)
      · go_simp
        go_at_call 81
        refine (HSL.out _ hH).mono ?_
        rintro e W' ⟨k, rfl, hk, hs2, hb⟩
        try replace hy := Row.mono (Bytes.below hy hb) hb.size
        go_wp2_with fail
        refine hK.out _ _ hs2 (fun hH => ?_)
        clear hK K
        try simp only [Act.put, List.setIfInBounds_toArray, List.set_cons_zero, List.set_cons_succ]
        refine wpAnyH_ready (rs := [19, 22]) (by kernel_rfl) (by simp) ?_
        refine AllReadyH.cons (o := { dst := some 83, op := Op.call { callee := Callee.value (Operand.tmp 81), args := #[Operand.tmp 82], argTypes := #[90] }, type := 9, pos := "pass.go:108", after := #[{ on := 17, ground := Ground.data }, { on := 18, ground := Ground.data }, { on := 17, ground := Ground.chain }, { on := 15, ground := Ground.guard }], guard := some (15, false) }) rfl (fun K hK => ?_) (AllReadyH.cons (o := { dst := some 86, op := Op.convert 9 152 (Operand.tmp 85), type := 152, pos := "pass.go:108", after := #[{ on := 21, ground := Ground.data }, { on := 15, ground := Ground.guard }], guard := some (15, false) }) rfl (fun K hK => ?_) AllReadyH.nil)
        · go_simp
          go_at_call 123
          refine (HC.out _ _ hH hk).mono ?_
          rintro e W' ⟨rfl, hs2, hb⟩
          try replace hy := Row.mono (Bytes.below hy hb) hb.size
          go_wp2_with fail
          refine hK.out _ _ hs2 (fun hH => ?_)
          clear hK K
          try simp only [Act.put, List.setIfInBounds_toArray, List.set_cons_zero, List.set_cons_succ]
          refine wpAnyH_ready (rs := [20, 22]) (by kernel_rfl) (by simp) ?_
          refine AllReadyH.cons (o := { dst := some 84, op := Op.convert 9 152 (Operand.tmp 83), type := 152, pos := "pass.go:108", after := #[{ on := 19, ground := Ground.data }, { on := 15, ground := Ground.guard }], guard := some (15, false) }) rfl (fun K hK => ?_) (AllReadyH.cons (o := { dst := some 86, op := Op.convert 9 152 (Operand.tmp 85), type := 152, pos := "pass.go:108", after := #[{ on := 21, ground := Ground.data }, { on := 15, ground := Ground.guard }], guard := some (15, false) }) rfl (fun K hK => ?_) AllReadyH.nil)
          · obtain ⟨hx, hb, hs3⟩ := HB1.out _ hH
            try replace hy := Row.mono (Bytes.below hy hb) hb.size
            go_simp
            refine hK.out _ _ hs3 (fun hH => ?_)
            clear hK K
            try simp only [Act.put, List.setIfInBounds_toArray, List.set_cons_zero, List.set_cons_succ]
            refine wpAnyH_ready (rs := [22]) (by kernel_rfl) (by simp) ?_
            refine AllReadyH.cons (o := { dst := some 86, op := Op.convert 9 152 (Operand.tmp 85), type := 152, pos := "pass.go:108", after := #[{ on := 21, ground := Ground.data }, { on := 15, ground := Ground.guard }], guard := some (15, false) }) rfl (fun K hK => ?_) AllReadyH.nil
            obtain ⟨hy, hb, hs4⟩ := HB2.out _ hH
            try replace hx := Row.mono (Bytes.below hx hb) hb.size
            try replace hk := cellBelow hb hk
            go_simp
            refine hK.out _ _ hs4 (fun hH => ?_)
            clear hK K
            try simp only [Act.put, List.setIfInBounds_toArray, List.set_cons_zero, List.set_cons_succ]
            refine wpAnyH_ready (rs := [23]) (by kernel_rfl) (by simp) ?_
            refine AllReadyH.cons (o := { dst := some 87, op := Op.call { callee := Callee.value (Operand.func 80), args := #[Operand.tmp 84, Operand.tmp 86], argTypes := #[152, 152] }, type := 4, pos := "pass.go:108", after := #[{ on := 20, ground := Ground.data }, { on := 22, ground := Ground.data }, { on := 19, ground := Ground.chain }, { on := 15, ground := Ground.guard }], guard := some (15, false) }) rfl (fun K hK => ?_) AllReadyH.nil
            go_simp
            go_at_call 80
            refine (HSM.out _ _ _ hx hy hH).mono ?_
            rintro e W' ⟨rfl, hs5⟩
            go_wp2_with fail
            refine hK.out _ _ hs5 (fun hH => ?_)
            clear hK K
            try simp only [Act.put, List.setIfInBounds_toArray, List.set_cons_zero, List.set_cons_succ]
            refine wpAnyH_take (i := 24) (oi := { dst := some 88, op := Op.unOp UnOp.not 4 (Operand.tmp 87), type := 4, pos := "pass.go:108", after := #[{ on := 23, ground := Ground.data }, { on := 15, ground := Ground.guard }], guard := some (15, false) }) (v := .bool (!q)) rfl (by kernel_rfl) (by kernel_rfl) (by kernel_rfl) (fun _ _ _ h => h) (Or.inl ⟨by rfl, fun W hS => by go_simp⟩) hH ?_
            simp only [Act.put, List.setIfInBounds_toArray, List.set_cons_zero, List.set_cons_succ]
            refine wpAnyH_take (i := 25) (oi := { dst := some 89, op := Op.pick (Operand.tmp 79) (Operand.const (Value.bool true)) (Operand.tmp 88), type := 4, pos := "pass.go:108", after := #[{ on := 15, ground := Ground.data }, { on := 24, ground := Ground.data }], guard := none }) (v := .bool (!q)) rfl (by kernel_rfl) (by kernel_rfl) (by kernel_rfl) (fun _ _ _ h => h) (Or.inl ⟨by rfl, fun W hS => by go_simp⟩) hH ?_
            simp only [Act.put, List.setIfInBounds_toArray, List.set_cons_zero, List.set_cons_succ]
            refine wpAnyH_done (by kernel_rfl) ?_ _
            go_wp2_with fail
            go_meet
            exact ⟨by rw [HBAD.out], hH⟩
          · obtain ⟨hy, hb, hs4⟩ := HB2.out _ hH
            try replace hx := Row.mono (Bytes.below hx hb) hb.size
            try replace hk := cellBelow hb hk
            go_simp
            refine hK.out _ _ hs4 (fun hH => ?_)
            clear hK K
            try simp only [Act.put, List.setIfInBounds_toArray, List.set_cons_zero, List.set_cons_succ]
            refine wpAnyH_ready (rs := [20]) (by kernel_rfl) (by simp) ?_
            refine AllReadyH.cons (o := { dst := some 84, op := Op.convert 9 152 (Operand.tmp 83), type := 152, pos := "pass.go:108", after := #[{ on := 19, ground := Ground.data }, { on := 15, ground := Ground.guard }], guard := some (15, false) }) rfl (fun K hK => ?_) AllReadyH.nil
            obtain ⟨hx, hb, hs3⟩ := HB1.out _ hH
            try replace hy := Row.mono (Bytes.below hy hb) hb.size
            go_simp
            refine hK.out _ _ hs3 (fun hH => ?_)
            clear hK K
            try simp only [Act.put, List.setIfInBounds_toArray, List.set_cons_zero, List.set_cons_succ]
            refine wpAnyH_ready (rs := [23]) (by kernel_rfl) (by simp) ?_
            refine AllReadyH.cons (o := { dst := some 87, op := Op.call { callee := Callee.value (Operand.func 80), args := #[Operand.tmp 84, Operand.tmp 86], argTypes := #[152, 152] }, type := 4, pos := "pass.go:108", after := #[{ on := 20, ground := Ground.data }, { on := 22, ground := Ground.data }, { on := 19, ground := Ground.chain }, { on := 15, ground := Ground.guard }], guard := some (15, false) }) rfl (fun K hK => ?_) AllReadyH.nil
            go_simp
            go_at_call 80
            refine (HSM.out _ _ _ hx hy hH).mono ?_
            rintro e W' ⟨rfl, hs5⟩
            go_wp2_with fail
            refine hK.out _ _ hs5 (fun hH => ?_)
            clear hK K
            try simp only [Act.put, List.setIfInBounds_toArray, List.set_cons_zero, List.set_cons_succ]
            refine wpAnyH_take (i := 24) (oi := { dst := some 88, op := Op.unOp UnOp.not 4 (Operand.tmp 87), type := 4, pos := "pass.go:108", after := #[{ on := 23, ground := Ground.data }, { on := 15, ground := Ground.guard }], guard := some (15, false) }) (v := .bool (!q)) rfl (by kernel_rfl) (by kernel_rfl) (by kernel_rfl) (fun _ _ _ h => h) (Or.inl ⟨by rfl, fun W hS => by go_simp⟩) hH ?_
            simp only [Act.put, List.setIfInBounds_toArray, List.set_cons_zero, List.set_cons_succ]
            refine wpAnyH_take (i := 25) (oi := { dst := some 89, op := Op.pick (Operand.tmp 79) (Operand.const (Value.bool true)) (Operand.tmp 88), type := 4, pos := "pass.go:108", after := #[{ on := 15, ground := Ground.data }, { on := 24, ground := Ground.data }], guard := none }) (v := .bool (!q)) rfl (by kernel_rfl) (by kernel_rfl) (by kernel_rfl) (fun _ _ _ h => h) (Or.inl ⟨by rfl, fun W hS => by go_simp⟩) hH ?_
            simp only [Act.put, List.setIfInBounds_toArray, List.set_cons_zero, List.set_cons_succ]
            refine wpAnyH_done (by kernel_rfl) ?_ _
            go_wp2_with fail
            go_meet
            exact ⟨by rw [HBAD.out], hH⟩
        · obtain ⟨hy, hb, hs4⟩ := HB2.out _ hH
          try replace hx := Row.mono (Bytes.below hx hb) hb.size
          try replace hk := cellBelow hb hk
          go_simp
          refine hK.out _ _ hs4 (fun hH => ?_)
          clear hK K
          try simp only [Act.put, List.setIfInBounds_toArray, List.set_cons_zero, List.set_cons_succ]
          refine wpAnyH_ready (rs := [19]) (by kernel_rfl) (by simp) ?_
          refine AllReadyH.cons (o := { dst := some 83, op := Op.call { callee := Callee.value (Operand.tmp 81), args := #[Operand.tmp 82], argTypes := #[90] }, type := 9, pos := "pass.go:108", after := #[{ on := 17, ground := Ground.data }, { on := 18, ground := Ground.data }, { on := 17, ground := Ground.chain }, { on := 15, ground := Ground.guard }], guard := some (15, false) }) rfl (fun K hK => ?_) AllReadyH.nil
          go_simp
          go_at_call 123
          refine (HC.out _ _ hH hk).mono ?_
          rintro e W' ⟨rfl, hs2, hb⟩
          try replace hy := Row.mono (Bytes.below hy hb) hb.size
          go_wp2_with fail
          refine hK.out _ _ hs2 (fun hH => ?_)
          clear hK K
          try simp only [Act.put, List.setIfInBounds_toArray, List.set_cons_zero, List.set_cons_succ]
          refine wpAnyH_ready (rs := [20]) (by kernel_rfl) (by simp) ?_
          refine AllReadyH.cons (o := { dst := some 84, op := Op.convert 9 152 (Operand.tmp 83), type := 152, pos := "pass.go:108", after := #[{ on := 19, ground := Ground.data }, { on := 15, ground := Ground.guard }], guard := some (15, false) }) rfl (fun K hK => ?_) AllReadyH.nil
          obtain ⟨hx, hb, hs3⟩ := HB1.out _ hH
          try replace hy := Row.mono (Bytes.below hy hb) hb.size
          go_simp
          refine hK.out _ _ hs3 (fun hH => ?_)
          clear hK K
          try simp only [Act.put, List.setIfInBounds_toArray, List.set_cons_zero, List.set_cons_succ]
          refine wpAnyH_ready (rs := [23]) (by kernel_rfl) (by simp) ?_
          refine AllReadyH.cons (o := { dst := some 87, op := Op.call { callee := Callee.value (Operand.func 80), args := #[Operand.tmp 84, Operand.tmp 86], argTypes := #[152, 152] }, type := 4, pos := "pass.go:108", after := #[{ on := 20, ground := Ground.data }, { on := 22, ground := Ground.data }, { on := 19, ground := Ground.chain }, { on := 15, ground := Ground.guard }], guard := some (15, false) }) rfl (fun K hK => ?_) AllReadyH.nil
          go_simp
          go_at_call 80
          refine (HSM.out _ _ _ hx hy hH).mono ?_
          rintro e W' ⟨rfl, hs5⟩
          go_wp2_with fail
          refine hK.out _ _ hs5 (fun hH => ?_)
          clear hK K
          try simp only [Act.put, List.setIfInBounds_toArray, List.set_cons_zero, List.set_cons_succ]
          refine wpAnyH_take (i := 24) (oi := { dst := some 88, op := Op.unOp UnOp.not 4 (Operand.tmp 87), type := 4, pos := "pass.go:108", after := #[{ on := 23, ground := Ground.data }, { on := 15, ground := Ground.guard }], guard := some (15, false) }) (v := .bool (!q)) rfl (by kernel_rfl) (by kernel_rfl) (by kernel_rfl) (fun _ _ _ h => h) (Or.inl ⟨by rfl, fun W hS => by go_simp⟩) hH ?_
          simp only [Act.put, List.setIfInBounds_toArray, List.set_cons_zero, List.set_cons_succ]
          refine wpAnyH_take (i := 25) (oi := { dst := some 89, op := Op.pick (Operand.tmp 79) (Operand.const (Value.bool true)) (Operand.tmp 88), type := 4, pos := "pass.go:108", after := #[{ on := 15, ground := Ground.data }, { on := 24, ground := Ground.data }], guard := none }) (v := .bool (!q)) rfl (by kernel_rfl) (by kernel_rfl) (by kernel_rfl) (fun _ _ _ h => h) (Or.inl ⟨by rfl, fun W hS => by go_simp⟩) hH ?_
          simp only [Act.put, List.setIfInBounds_toArray, List.set_cons_zero, List.set_cons_succ]
          refine wpAnyH_done (by kernel_rfl) ?_ _
          go_wp2_with fail
          go_meet
          exact ⟨by rw [HBAD.out], hH⟩
      · obtain ⟨hy, hb, hs4⟩ := HB2.out _ hH
        try replace hx := Row.mono (Bytes.below hx hb) hb.size
        try replace hk := cellBelow hb hk
        go_simp
        refine hK.out _ _ hs4 (fun hH => ?_)
        clear hK K
        try simp only [Act.put, List.setIfInBounds_toArray, List.set_cons_zero, List.set_cons_succ]
        refine wpAnyH_ready (rs := [17]) (by kernel_rfl) (by simp) ?_
        refine AllReadyH.cons (o := { dst := some 81, op := Op.call { callee := Callee.value (Operand.func 81), args := #[Operand.tmp 80], argTypes := #[9] }, type := 167, pos := "pass.go:108", after := #[{ on := 16, ground := Ground.data }, { on := 15, ground := Ground.chain }, { on := 15, ground := Ground.guard }], guard := some (15, false) }) rfl (fun K hK => ?_) AllReadyH.nil
        go_simp
        go_at_call 81
        refine (HSL.out _ hH).mono ?_
        rintro e W' ⟨k, rfl, hk, hs2, hb⟩
        try replace hy := Row.mono (Bytes.below hy hb) hb.size
        go_wp2_with fail
        refine hK.out _ _ hs2 (fun hH => ?_)
        clear hK K
        try simp only [Act.put, List.setIfInBounds_toArray, List.set_cons_zero, List.set_cons_succ]
        refine wpAnyH_ready (rs := [19]) (by kernel_rfl) (by simp) ?_
        refine AllReadyH.cons (o := { dst := some 83, op := Op.call { callee := Callee.value (Operand.tmp 81), args := #[Operand.tmp 82], argTypes := #[90] }, type := 9, pos := "pass.go:108", after := #[{ on := 17, ground := Ground.data }, { on := 18, ground := Ground.data }, { on := 17, ground := Ground.chain }, { on := 15, ground := Ground.guard }], guard := some (15, false) }) rfl (fun K hK => ?_) AllReadyH.nil
        go_simp
        go_at_call 123
        refine (HC.out _ _ hH hk).mono ?_
        rintro e W' ⟨rfl, hs2, hb⟩
        try replace hy := Row.mono (Bytes.below hy hb) hb.size
        go_wp2_with fail
        refine hK.out _ _ hs2 (fun hH => ?_)
        clear hK K
        try simp only [Act.put, List.setIfInBounds_toArray, List.set_cons_zero, List.set_cons_succ]
        refine wpAnyH_ready (rs := [20]) (by kernel_rfl) (by simp) ?_
        refine AllReadyH.cons (o := { dst := some 84, op := Op.convert 9 152 (Operand.tmp 83), type := 152, pos := "pass.go:108", after := #[{ on := 19, ground := Ground.data }, { on := 15, ground := Ground.guard }], guard := some (15, false) }) rfl (fun K hK => ?_) AllReadyH.nil
        obtain ⟨hx, hb, hs3⟩ := HB1.out _ hH
        try replace hy := Row.mono (Bytes.below hy hb) hb.size
        go_simp
        refine hK.out _ _ hs3 (fun hH => ?_)
        clear hK K
        try simp only [Act.put, List.setIfInBounds_toArray, List.set_cons_zero, List.set_cons_succ]
        refine wpAnyH_ready (rs := [23]) (by kernel_rfl) (by simp) ?_
        refine AllReadyH.cons (o := { dst := some 87, op := Op.call { callee := Callee.value (Operand.func 80), args := #[Operand.tmp 84, Operand.tmp 86], argTypes := #[152, 152] }, type := 4, pos := "pass.go:108", after := #[{ on := 20, ground := Ground.data }, { on := 22, ground := Ground.data }, { on := 19, ground := Ground.chain }, { on := 15, ground := Ground.guard }], guard := some (15, false) }) rfl (fun K hK => ?_) AllReadyH.nil
        go_simp
        go_at_call 80
        refine (HSM.out _ _ _ hx hy hH).mono ?_
        rintro e W' ⟨rfl, hs5⟩
        go_wp2_with fail
        refine hK.out _ _ hs5 (fun hH => ?_)
        clear hK K
        try simp only [Act.put, List.setIfInBounds_toArray, List.set_cons_zero, List.set_cons_succ]
        refine wpAnyH_take (i := 24) (oi := { dst := some 88, op := Op.unOp UnOp.not 4 (Operand.tmp 87), type := 4, pos := "pass.go:108", after := #[{ on := 23, ground := Ground.data }, { on := 15, ground := Ground.guard }], guard := some (15, false) }) (v := .bool (!q)) rfl (by kernel_rfl) (by kernel_rfl) (by kernel_rfl) (fun _ _ _ h => h) (Or.inl ⟨by rfl, fun W hS => by go_simp⟩) hH ?_
        simp only [Act.put, List.setIfInBounds_toArray, List.set_cons_zero, List.set_cons_succ]
        refine wpAnyH_take (i := 25) (oi := { dst := some 89, op := Op.pick (Operand.tmp 79) (Operand.const (Value.bool true)) (Operand.tmp 88), type := 4, pos := "pass.go:108", after := #[{ on := 15, ground := Ground.data }, { on := 24, ground := Ground.data }], guard := none }) (v := .bool (!q)) rfl (by kernel_rfl) (by kernel_rfl) (by kernel_rfl) (fun _ _ _ h => h) (Or.inl ⟨by rfl, fun W hS => by go_simp⟩) hH ?_
        simp only [Act.put, List.setIfInBounds_toArray, List.set_cons_zero, List.set_cons_succ]
        refine wpAnyH_done (by kernel_rfl) ?_ _
        go_wp2_with fail
        go_meet
        exact ⟨by rw [HBAD.out], hH⟩
  case rest =>
    obtain ⟨rfl, hS⟩ := hcut
    have hR := HBR.out.next hS.out.below
    obtain ⟨-, x0, x1, x2⟩ := id hR
    have hf := hR.frozen
    have HRB := Lib.hid hR.below
    obtain ⟨-, s0, s1, s2⟩ := id hS.out
    clear hR hcv HBR HTU
    cases hB : BAD
    · have hg := HBD.out.1 hB
      obtain ⟨-, -, -, hse, hmt⟩ := hg
      by_cases hlate : v2 < clock
      · have HR := Lib.hid (readIs_late (clock := clock) HK.out (by omega) (by omega) hse hmt hlate)
        have d6 : decide (v2 < clock) = true := decide_eq_true hlate
        clear hse hmt hB
        go_wp2_with fail
        refine ret_read (g := w.heap.size) (u0 := .int .i64 0) (u1 := .string ⟨#[]⟩) (u2 := .int .i64 0) rfl rfl rfl (by go_simp) (by go_simp) (by go_simp) ?_
        exact read_zero HR.out (below3 HRB.out (Nat.le_refl _) _ _ _)
      · have HR := Lib.hid (readIs_yes (clock := clock) HK.out (by omega) (by omega) hse hmt (show clock ≤ v2 by omega))
        have d6 : decide (v2 < clock) = false := decide_eq_false hlate
        clear hse hmt hB
        go_wp2_with fail
        refine ret_read (g := w.heap.size) (u0 := .int .i64 v0) (u1 := .string us) (u2 := .int .i64 v2) rfl rfl rfl (by go_simp) (by go_simp) (by go_simp) ?_
        exact ⟨⟨_, _, HR.out, by rw [ba_mk2]; rfl⟩, below3 HRB.out (Nat.le_refl _) _ _ _⟩
    · have HR : Hid (ReadIs secret.data.toList token.data.toList clock zeroS 211) := readIs_none HK.out (by omega) (by omega) (fun t h1 h2 => by
        have := HBD.out.2 (HGO.out t h1 h2)
        rw [hB] at this; cases this)
      clear hB
      go_wp2_with fail
      refine ret_read (g := w.heap.size) (u0 := .int .i64 0) (u1 := .string ⟨#[]⟩) (u2 := .int .i64 0) rfl rfl rfl (by go_simp) (by go_simp) (by go_simp) ?_
      exact read_zero HR.out (below3 HRB.out (Nat.le_refl _) _ _ _)
end Go.Proofs.YtinijohmdljieaaGreatDoor
