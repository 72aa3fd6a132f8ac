/- docketlaw21.PassTokens returns true. -/
import Derived.Test.YtflckjabjhmnfaaGreatDoorRefRead
import Derived.Test.YtflckjabjhmnfaaGreatDoorToken
import Derived.Test.YtflckjabjhmnfaaGreatDoorGreat
namespace Go.Proofs.YtflckjabjhmnfaaGreatDoor
open Go.RowKit

set_option maxHeartbeats 8000000 in
set_option maxRecDepth 100000 in
theorem passTokens_walk (secret n : ByteArray) (i u : Int) (other token : ByteArray) (clock : Int) (w : World) (hw : TokW w) (hs : secret.size ≤ maxLen) (hn : n.size ≤ maxLen) (ho : other.size ≤ maxLen) (ht : token.size ≤ maxLen) :
    Calls Tryz.prog 3 #[.string secret, sessV i n u, .string other, .string token, .int .i64 clock] w fun e w' => e = .returned (.bool true) ∧ Below w.heap.size w w' := by
  have HW := Lib.hid hw
  have HB0 : Hid (BoxS w i n u (w.alloc (sessO i n u))) := BoxS.start w i n u
  have HG1 := Lib.hid (fun (W : World) => great_walk (.slice (some ⟨W.heap.size, 0, none⟩) 4 4) [secret, n, other, token] (W.heap.size + 1) (W.alloc (.cells #[.string secret, .string n, .string other, .string token] 9)) (by unfold maxLen; simp) (by simp; exact ⟨hs, hn, ho, ht⟩) (strs_new W [secret, n, other, token] 9 4 rfl))
  have hor : greatB [secret, n, other, token] = true ∨ greatB [secret, n, other, token] = false := by cases greatB [secret, n, other, token] <;> simp
  rcases hor with hg | hg
  · rw [hg] at HG1
    clear hg hw hs hn ho ht
    go_enter Tryz.func3, Tryz.ntmps3
    go_wp2_with (go_at_call 4; have hg := HG1.out (w.alloc (sessO i n u)); rw [show (w.alloc (sessO i n u)).heap.size = w.heap.size + 1 by simp] at hg; refine hg.mono ?_; rintro e w2 ⟨rfl, rfl⟩)
    go_ret
    exact ⟨rfl, (HB0.out.alloc _).below⟩
  obtain ⟨-, q1⟩ := greatB_no hg
  rw [hg] at HG1
  have hn1 : n.size ≤ 3000 := q1 _ (by simp)
  have ht1 : token.size ≤ 3000 := q1 _ (by simp)
  have HT := Lib.hid (fun (W : World) (h : BoxS w i n u W) => (Token_walk secret n i u W (h.tokW HW.out) (by omega) hs).mono (fun e W' (q : e = .returned (.tuple #[.string ⟨(tokenT secret.data.toList ⟨i, n.data.toList, u⟩).1.toArray⟩, .int .i64 (tokenT secret.data.toList ⟨i, n.data.toList, u⟩).2]) ∧ Below W.heap.size W W') => (⟨q.1, h.next q.2⟩ : _ ∧ BoxS w i n u W')))
  have HRT := Lib.hid (fun (W : World) (h : BoxS w i n u W) => (refToken_walk secret n i u W (by omega)).mono (fun e W' (q : e = .returned (.tuple #[.string ⟨(tokenT secret.data.toList ⟨i, n.data.toList, u⟩).1.toArray⟩, .int .i64 (tokenT secret.data.toList ⟨i, n.data.toList, u⟩).2]) ∧ Below W.heap.size W W') => (⟨q.1, h.next q.2⟩ : _ ∧ BoxS w i n u W')))
  have HR := Lib.hid (fun (W : World) (h : BoxS w i n u W) => Read_walk other token clock W (h.tokW HW.out) ho)
  have HRR := Lib.hid (fun (W : World) => refRead_walk other token clock W (by omega))
  generalize tokenT secret.data.toList ⟨i, n.data.toList, u⟩ = TT at *
  obtain ⟨T, E⟩ := TT
  simp only at HT HRT
  clear hg hw hs hn ho ht q1 hn1 ht1
  go_enter Tryz.func3, Tryz.ntmps3
  go_wp2_with (go_at_call 4; have hg := HG1.out (w.alloc (sessO i n u)); rw [show (w.alloc (sessO i n u)).heap.size = w.heap.size + 1 by simp] at hg; refine hg.mono ?_; rintro e w2 ⟨rfl, rfl⟩; have HB2 := Lib.hid (HB0.out.alloc (.cells #[.string secret, .string n, .string other, .string token] 9)))
  refine (HT.out _ HB2.out).mono ?_
  rintro e w3 ⟨rfl, hB3⟩
  obtain ⟨-, x0, x1, x2⟩ := id hB3
  have HB3 := Lib.hid hB3
  clear hB3 HB2 HB0 HT
  go_wp2_with fail
  refine (HRT.out _ HB3.out).mono ?_
  rintro e w4 ⟨rfl, hB4⟩
  have HB4 := Lib.hid hB4
  clear hB4 HB3 HRT x0 x1 x2
  go_wp2_with fail
  refine (HR.out _ HB4.out).mono ?_
  rintro e w5 ⟨⟨s, x, hri, rfl⟩, hb5⟩
  have HRI := Lib.hid hri
  have HB5 := Lib.hid (HB4.out.next hb5)
  have HC5 : Hid (BoxS w5 s.id ⟨s.user.toArray⟩ s.untl (w5.alloc (sessO s.id ⟨s.user.toArray⟩ s.untl))) := BoxS.start _ _ _ _
  have HZ5 : Hid ((w5.alloc (sessO s.id ⟨s.user.toArray⟩ s.untl)).heap.size = w5.heap.size + 1) := by show _ = _; simp
  clear hri hb5 HB4 HR
  go_wp2_with fail
  refine (HRR.out _).mono ?_
  rintro e w6 ⟨⟨s', x', hri, rfl⟩, hb6⟩
  obtain ⟨rfl, rfl⟩ := HRI.out.unique hri
  have hC6 := HC5.out.next hb6
  have HB6 := Lib.hid (((HB5.out.alloc (sessO s.id ⟨s.user.toArray⟩ s.untl)).next hb6).alloc (sessO s.id ⟨s.user.toArray⟩ s.untl)).below
  have hz6 : w5.heap.size < w6.heap.size := by have := hC6.size; omega
  obtain ⟨-, y0, y1, y2⟩ := hC6
  clear hri hb6 HC5 HZ5 HRR HRI HB5
  generalize s.id = a0 at *
  generalize (⟨s.user.toArray⟩ : ByteArray) = a1 at *
  generalize s.untl = a2 at *
  go_wp2_with fail
  go_ret
  exact ⟨rfl, HB6.out⟩
end Go.Proofs.YtflckjabjhmnfaaGreatDoor
