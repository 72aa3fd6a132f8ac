/- docketlaw21.PassNames returns true. -/
import Derived.Test.YtflckjabjhmnfaaDoorPassBack
import Derived.Test.YtflckjabjhmnfaaDoorTokDig
namespace Go.Proofs.YtflckjabjhmnfaaDoor
open Go.RowKit

abbrev annS : ByteArray := ⟨#[97, 110, 110]⟩
abbrev kS : ByteArray := ⟨#[107]⟩
abbrev jS : ByteArray := ⟨#[106]⟩
theorem ReadEnd.is {secret token : ByteArray} {clock : Int} {w w' : World} {e : Ending} {s : Sess} {x : Int} (h : ReadEnd secret token clock w e w') (hr : ReadIs secret.data.toList token.data.toList clock s x) :
    e = .returned (.tuple #[sessV s.id ⟨s.user.toArray⟩ s.untl, .int .i64 x]) ∧ Below w.heap.size w w' := by
  obtain ⟨⟨s', x', h1, rfl⟩, h2⟩ := h
  obtain ⟨rfl, rfl⟩ := h1.unique hr
  exact ⟨rfl, h2⟩
theorem k_word : 0 < kS.data.toList.length ∧ kS.data.toList.length ≤ 64 := by decide
theorem j_word : 0 < jS.data.toList.length ∧ jS.data.toList.length ≤ 64 := by decide
theorem make_none : makeE annB sB ⟨#[]⟩ [] = 210 := by decide +kernel
theorem fits_none : fitsE ⟨#[]⟩ ⟨#[]⟩ ⟨#[]⟩ [] ⟨#[120]⟩ = 8 := by decide +kernel

set_option maxHeartbeats 8000000 in
set_option maxRecDepth 100000 in
theorem passNames_walk (w : World) (hw : TokW w) : Calls Tryd.prog 3 #[] w fun e w' => e = .returned (.bool true) ∧ Below w.heap.size w w' := by
  obtain ⟨M, hM⟩ : ∃ M : ByteArray, (⟨(madeT [107] sevenS).toArray⟩ : ByteArray) = M := ⟨_, rfl⟩
  have hMd : madeT kS.data.toList sevenS = M.data.toList := by rw [← hM]
  have hMz : M.size = 77 := by rw [← hM]; exact seven_len
  have hMx : M.extract 0 13 = ⟨#[55, 46, 54, 49, 54, 101, 54, 101, 46, 49, 48, 48, 46]⟩ := by
    rw [← ba_mk2 (M.extract 0 13), Lib.extract_data, ← hMd]
    show (⟨((madeT [107] sevenS).take 13).toArray⟩ : ByteArray) = _
    rw [seven_take]
  have r1 : ReadIs kS.data.toList M.data.toList 100 sevenS 0 := readIs_yes k_word (by omega) (by omega) seven_ok hMd (by decide)
  have r2 : ReadIs kS.data.toList M.data.toList 101 zeroS 212 := readIs_late k_word (by omega) (by omega) seven_ok hMd (by decide)
  have r3 : ReadIs jS.data.toList M.data.toList 100 zeroS 211 := readIs_none j_word (by omega) (by omega) (fun t ht h => seven_other t ht (h.trans hMd.symm))
  have HT := Lib.hid (fun (W : World) (h : TokW W) => (Token_walk kS annS 7 100 W h (by decide) (by decide +kernel)).mono (fun e W' (q : e = .returned (.tuple #[.string ⟨(tokenT kS.data.toList ⟨7, annS.data.toList, 100⟩).1.toArray⟩, .int .i64 (tokenT kS.data.toList ⟨7, annS.data.toList, 100⟩).2]) ∧ Below W.heap.size W W') => (⟨by rw [q.1, show (⟨7, annS.data.toList, 100⟩ : Sess) = sevenS from rfl, token_yes k_word seven_ok, ← hM], q.2⟩ : e = .returned (.tuple #[.string M, .int .i64 0]) ∧ Below W.heap.size W W')))
  have HR1 := Lib.hid (fun (W : World) (h : TokW W) => (Read_walk kS M 100 W h (by decide +kernel)).mono (fun e W' (q : ReadEnd kS M 100 W e W') => (q.is r1 : e = .returned (.tuple #[sessV 7 annS 100, .int .i64 0]) ∧ Below W.heap.size W W')))
  have HR2 := Lib.hid (fun (W : World) (h : TokW W) => (Read_walk kS M 101 W h (by decide +kernel)).mono (fun e W' (q : ReadEnd kS M 101 W e W') => (q.is r2 : e = .returned (.tuple #[sessV 0 ⟨#[]⟩ 0, .int .i64 212]) ∧ Below W.heap.size W W')))
  have HR3 := Lib.hid (fun (W : World) (h : TokW W) => (Read_walk jS M 100 W h (by decide +kernel)).mono (fun e W' (q : ReadEnd jS M 100 W e W') => (q.is r3 : e = .returned (.tuple #[sessV 0 ⟨#[]⟩ 0, .int .i64 211]) ∧ Below W.heap.size W W')))
  have HMK : Hid (∀ W : World, Calls Tryd.prog 8 #[.string annB, .string sB, .string ⟨#[]⟩, .slice none 0 0] W fun e W' => e = .returned (.tuple #[noUser, .int .i64 210]) ∧ Below W.heap.size W W') := fun W =>
    (Make_walk annB sB ⟨#[]⟩ none 0 [] W (by decide +kernel) (by decide +kernel) (by decide +kernel) (by simp) (by simp) (strs0 _ _ _ _)).mono (by
      rintro e W' ⟨h1, h2⟩
      rw [make_none] at h1
      rcases h1 with ⟨-, rfl⟩ | ⟨h1, -⟩
      · exact ⟨rfl, h2⟩
      · cases h1)
  have HT3 := Lib.hid (fun (W : World) (h : TokW W) => (Token_walk ⟨#[]⟩ annS 7 100 W h (by decide) (by decide +kernel)).mono (fun e W' (q : e = .returned (.tuple #[.string ⟨(tokenT (⟨#[]⟩ : ByteArray).data.toList ⟨7, annS.data.toList, 100⟩).1.toArray⟩, .int .i64 (tokenT (⟨#[]⟩ : ByteArray).data.toList ⟨7, annS.data.toList, 100⟩).2]) ∧ Below W.heap.size W W') => (⟨by rw [q.1, token_bad (by decide)], q.2⟩ : e = .returned (.tuple #[.string ⟨#[]⟩, .int .i64 3]) ∧ Below W.heap.size W W')))
  have HF : Hid (∀ W : World, Calls Tryd.prog 9 #[noUser, .string ⟨#[120]⟩] W fun e W' => (∃ b, e = .returned (.tuple #[.bool b, .int .i64 8])) ∧ Below W.heap.size W W') := fun W =>
    (Fits_walk ⟨#[]⟩ ⟨#[]⟩ ⟨#[]⟩ none 0 [] ⟨#[120]⟩ W (by decide +kernel) (by decide +kernel) (by decide +kernel) (by simp) (by simp) (by decide +kernel) (strs0 _ _ _ _)).mono (by
      rintro e W' ⟨h1, h2⟩
      rw [fits_none] at h1
      exact ⟨⟨_, h1⟩, h2⟩)
  have HA := Lib.hid (fun (W : World) => alive21_walk W)
  have HB0 : Hid (BoxS w 7 annS 100 (w.alloc (sessO 7 annS 100))) := BoxS.start _ _ _ _
  have HW := Lib.hid hw
  have hx0 : (M.extract 0 13).toList == [55, 46, 54, 49, 54, 101, 54, 101, 46, 49, 48, 48, 46] := by rw [hMx]; decide +kernel
  have hz : ((M.size : Int) == 77) = true := by rw [hMz]; rfl
  have hz2 : (13 : Int) ≤ (M.size : Int) := by omega
  clear hM hMd hMz hMx r1 r2 r3 hw
  go_enter Tryd.func3, Tryd.ntmps3
  go_wp2_with fail
  refine (HT.out _ (HB0.out.tokW HW.out)).mono ?_
  rintro e w1 ⟨rfl, hb1⟩
  have HB1 := Lib.hid (HB0.out.next hb1)
  clear hb1 HB0 HT
  go_wp2_with fail
  refine (HR1.out _ (HB1.out.tokW HW.out)).mono ?_
  rintro e w2 ⟨rfl, hb2⟩
  have HB2 := Lib.hid (HB1.out.next hb2)
  have HC2 : Hid (BoxS w2 7 annS 100 (w2.alloc (sessO 7 annS 100))) := BoxS.start _ _ _ _
  have HB2a := Lib.hid (HB2.out.alloc (sessO 7 annS 100))
  clear hb2 HB1 HR1 HB2
  go_wp2_with fail
  refine (HR2.out _ (HB2a.out.tokW HW.out)).mono ?_
  rintro e w3 ⟨rfl, hb3⟩
  have HC3 := Lib.hid ((HC2.out.next hb3).alloc (sessO 0 ⟨#[]⟩ 0))
  have HB3 := Lib.hid ((HB2a.out.next hb3).alloc (sessO 0 ⟨#[]⟩ 0))
  clear hb3 HC2 HB2a HR2
  go_wp2_with fail
  refine (HR3.out _ (HB3.out.tokW HW.out)).mono ?_
  rintro e w4 ⟨rfl, hb4⟩
  have HC4 := Lib.hid ((HC3.out.next hb4).alloc (sessO 0 ⟨#[]⟩ 0))
  have HB4 := Lib.hid ((HB3.out.next hb4).alloc (sessO 0 ⟨#[]⟩ 0))
  clear hb4 HC3 HB3 HR3
  go_wp2_with fail
  refine (HMK.out _).mono ?_
  rintro e w5 ⟨rfl, hb5⟩
  have hC5 := (HC4.out.next hb5).alloc (.cells #[.string ⟨#[]⟩, .string ⟨#[]⟩, .string ⟨#[]⟩, .slice none 0 0] 31)
  have hB5 := (HB4.out.next hb5).alloc (.cells #[.string ⟨#[]⟩, .string ⟨#[]⟩, .string ⟨#[]⟩, .slice none 0 0] 31)
  have hz5 := hB5.size
  obtain ⟨-, x0, x1, x2⟩ := HB4.out.next hb5
  have hz5' : w.heap.size < w5.heap.size := by have := (HB4.out.next hb5).size; omega
  have HC5 := Lib.hid hC5
  have HB5 := Lib.hid hB5
  clear hb5 HC4 HB4 HMK hC5 hB5 hz5
  go_wp2_with fail
  refine (HT3.out _ (HB5.out.tokW HW.out)).mono ?_
  rintro e w6 ⟨rfl, hb6⟩
  have HC6 := Lib.hid (HC5.out.next hb6)
  have HB6 := Lib.hid (HB5.out.next hb6)
  clear hb6 HC5 HB5 HT3 x0 x1 x2 hz5'
  go_wp2_with fail
  refine (HF.out _).mono ?_
  rintro e w7 ⟨⟨b, rfl⟩, hb7⟩
  obtain ⟨-, y0, y1, y2⟩ := HC6.out.next hb7
  obtain ⟨-, z0, z1, z2⟩ := HB6.out.next hb7
  have HB7 := Lib.hid (HB6.out.next hb7)
  clear hb7 HC6 HB6 HF
  go_wp2_with fail
  refine (HA.out _).mono ?_
  rintro e w8 ⟨rfl, hb8⟩
  have HB8 := Lib.hid (HB7.out.next hb8)
  clear hb8
  go_wp2_with fail
  go_ret
  exact ⟨rfl, HB8.out.below⟩
end Go.Proofs.YtflckjabjhmnfaaDoor
