/- docketlaw21.PassBack, PassOnly return true. -/
import Derived.Test.YtflckjabjhmnfaaDoorAlive21
import Derived.Test.YtflckjabjhmnfaaDoorRead
namespace Go.Proofs.YtflckjabjhmnfaaDoor
open Go.RowKit

theorem tokenT_empty {k : List UInt8} {s : Sess} (h : (tokenT k s).2 ≠ 0) : (tokenT k s).1 = [] := by
  unfold tokenT at *
  split
  · rfl
  · split
    · rename_i h1 h2
      rw [if_neg h1, if_pos h2] at h
      exact absurd rfl h
    · rfl
set_option maxHeartbeats 8000000 in
set_option maxRecDepth 100000 in
theorem passBack_walk (secret n : ByteArray) (i u clock : Int) (w : World) (hw : TokW w) (hs : secret.size ≤ maxLen) (hn : n.size ≤ maxLen) :
    Calls Tryd.prog 4 #[.string secret, sessV i n u, .int .i64 clock] w fun e w' => e = .returned (.bool true) ∧ Below w.heap.size w w' := by
  have HW := Lib.hid hw
  have HB0 : Hid (BoxS w i n u (w.alloc (sessO i n u))) := BoxS.start w i n u
  have HA := Lib.hid (fun (W : World) (h : BoxS w i n u W) => (alive21_walk W).mono (fun e W' (q : e = .returned (.bool true) ∧ Below W.heap.size W W') => (⟨q.1, h.next q.2⟩ : e = .returned (.bool true) ∧ BoxS w i n u W')))
  have HG1 := Lib.hid (fun (W : World) => great_walk (.slice (some ⟨W.heap.size, 0, none⟩) 2 2) [secret, n] (W.heap.size + 1) (W.alloc (.cells #[.string secret, .string n] 9)) (by unfold maxLen; simp) (by simp; exact ⟨hs, hn⟩) (strs_new W [secret, n] 9 2 rfl))
  have HT := Lib.hid (fun (W : World) (h : BoxS w i n u W) (hn : n.size ≤ 10000) => (Token_walk secret n i u W (h.tokW HW.out) hn hs).mono (fun e W' (q : e = .returned (.tuple #[.string ⟨(tokenT secret.data.toList ⟨i, n.data.toList, u⟩).1.toArray⟩, .int .i64 (tokenT secret.data.toList ⟨i, n.data.toList, u⟩).2]) ∧ Below W.heap.size W W') => (⟨q.1, h.next q.2⟩ : _ ∧ BoxS w i n u W')))
  have HTE := Lib.hid (tokenT_empty (k := secret.data.toList) (s := ⟨i, n.data.toList, u⟩))
  have HBK := Lib.hid (fun (a : Sess) (f : Int) => back (k := secret.data.toList) (s := ⟨i, n.data.toList, u⟩) (a := a) (c := clock) (f := f))
  have HR := Lib.hid (fun (tk : ByteArray) (W : World) (hW : BoxS w i n u W) => (Read_walk secret tk clock W (hW.tokW HW.out) hs).mono (fun e W' (q : ReadEnd secret tk clock W e W') => (⟨q.1, hW.next q.2⟩ : _ ∧ BoxS w i n u W')))
  clear hw hs hn
  generalize htt : tokenT secret.data.toList ⟨i, n.data.toList, u⟩ = TT at *
  obtain ⟨T, E⟩ := TT
  have HTT := Lib.hid htt
  clear htt
  simp only at HT HTE HBK
  cases g1 : greatB [secret, n]
  · rw [g1] at HG1
    obtain ⟨-, q1⟩ := greatB_no g1
    have hn1 : n.size ≤ 3000 := q1 _ (by simp)
    clear g1 q1
    by_cases hc1 : clock < 0
    · go_enter Tryd.func4, Tryd.ntmps4
      go_wp2_with fail
      refine (HA.out _ HB0.out).mono ?_
      rintro e w1 ⟨rfl, hB1⟩
      obtain ⟨-, x0, x1, x2⟩ := id hB1
      have HB1 := Lib.hid hB1
      clear hB1
      go_wp2_with fail
      refine (HG1.out _).mono ?_
      rintro e w2 ⟨rfl, rfl⟩
      go_wp2_with fail
      go_ret
      exact ⟨rfl, (HB1.out.alloc _).below⟩
    by_cases hc2 : 1099511627776 < clock
    · go_enter Tryd.func4, Tryd.ntmps4
      go_wp2_with fail
      refine (HA.out _ HB0.out).mono ?_
      rintro e w1 ⟨rfl, hB1⟩
      obtain ⟨-, x0, x1, x2⟩ := id hB1
      have HB1 := Lib.hid hB1
      clear hB1
      go_wp2_with fail
      refine (HG1.out _).mono ?_
      rintro e w2 ⟨rfl, rfl⟩
      go_wp2_with fail
      go_ret
      exact ⟨rfl, (HB1.out.alloc _).below⟩
    go_enter Tryd.func4, Tryd.ntmps4
    go_wp2_with fail
    refine (HA.out _ HB0.out).mono ?_
    rintro e w1 ⟨rfl, hB1⟩
    obtain ⟨-, x0, x1, x2⟩ := id hB1
    have HB1 := Lib.hid hB1
    clear hB1
    go_wp2_with fail
    refine (HG1.out _).mono ?_
    rintro e w2 ⟨rfl, rfl⟩
    have HB2 := Lib.hid (HB1.out.alloc (.cells #[.string secret, .string n] 9))
    clear HB1 x0 x1 x2
    generalize w1.alloc (.cells #[.string secret, .string n] 9) = w2 at HB2 ⊢
    obtain ⟨-, x0, x1, x2⟩ := id HB2.out
    have e1 : decide (clock < 0) = false := decide_eq_false (by omega)
    have e2 : decide (1099511627776 < clock) = false := decide_eq_false (by omega)
    go_wp2_with fail
    refine (HT.out _ HB2.out (by omega)).mono ?_
    rintro e w3 ⟨rfl, hB3⟩
    obtain ⟨-, y0, y1, y2⟩ := id hB3
    have HB3 := Lib.hid hB3
    clear hB3 x0 x1 x2
    by_cases hE : E = 0
    · have HBK2 := Lib.hid (fun (a : Sess) (f : Int) => HBK.out a f hE)
      clear HBK HTE
      subst hE
      go_wp2_with fail
      refine (HR.out ⟨T.toArray⟩ w3 HB3.out).mono ?_
      rintro e w4 ⟨⟨s, x, hri, rfl⟩, hB4⟩
      obtain ⟨-, z0, z1, z2⟩ := id hB4
      have HB4 := Lib.hid hB4
      have hz4 : w.heap.size < w4.heap.size := by have := HB4.out.size; omega
      have hbk := HBK2.out s x (by omega) (by omega) hri
      clear hB4 hri y0 y1 y2
      by_cases hl : u < clock
      · rw [if_pos hl] at hbk
        obtain ⟨rfl, rfl⟩ := hbk
        have d1 : decide (u < clock) = true := decide_eq_true hl
        go_wp2_with fail
        go_ret
        exact ⟨rfl, (HB4.out.alloc _).below⟩
      · rw [if_neg hl] at hbk
        obtain ⟨rfl, rfl⟩ := hbk
        have d1 : decide (u < clock) = false := decide_eq_false hl
        have hm := ba_mk2 n
        go_wp2_with fail
        go_ret
        exact ⟨rfl, (HB4.out.alloc _).below⟩
    · have hT : T = [] := HTE.out hE
      subst hT
      have hE2 : (E != 0) = true := by simpa using hE
      go_wp2_with fail
      go_ret
      exact ⟨rfl, HB3.out.below⟩
  · rw [g1] at HG1
    clear g1
    go_enter Tryd.func4, Tryd.ntmps4
    go_wp2_with fail
    refine (HA.out _ HB0.out).mono ?_
    rintro e w1 ⟨rfl, hB1⟩
    obtain ⟨-, x0, x1, x2⟩ := id hB1
    have HB1 := Lib.hid hB1
    clear hB1
    go_wp2_with fail
    refine (HG1.out _).mono ?_
    rintro e w2 ⟨rfl, rfl⟩
    go_wp2_with fail
    go_ret
    exact ⟨rfl, (HB1.out.alloc _).below⟩

theorem token_user {k tk : List UInt8} {s : Sess} (h : tokenT k s = (tk, 0)) : s.user.length ≤ 32 := by
  unfold tokenT at h
  split at h
  · cases h
  · split at h
    · rename_i hs
      exact named_len hs.2.2.1
    · cases h

set_option maxHeartbeats 8000000 in
set_option maxRecDepth 100000 in
theorem passOnly_walk (secret token : ByteArray) (clock : Int) (w : World) (hw : TokW w) (hs : secret.size ≤ maxLen) (ht : token.size ≤ maxLen) :
    Calls Tryd.prog 5 #[.string secret, .string token, .int .i64 clock] w fun e w' => e = .returned (.bool true) ∧ Below w.heap.size w w' := by
  have HA := Lib.hid (alive21_walk w)
  have HG1 := Lib.hid (fun (W : World) => great_walk (.slice (some ⟨W.heap.size, 0, none⟩) 2 2) [secret, token] (W.heap.size + 1) (W.alloc (.cells #[.string secret, .string token] 9)) (by unfold maxLen; simp) (by simp; exact ⟨hs, ht⟩) (strs_new W [secret, token] 9 2 rfl))
  have HR := Lib.hid (fun (W : World) (hW : Below w.heap.size w W) => Read_walk secret token clock W (hw.below hW) hs)
  have HT := Lib.hid (fun (n : ByteArray) (i u : Int) (W : World) (hW : Below w.heap.size w W) (hn : n.size ≤ 10000) => Token_walk secret n i u W (hw.below hW) hn hs)
  have hor : greatB [secret, token] = true ∨ greatB [secret, token] = false := by cases greatB [secret, token] <;> simp
  generalize greatB [secret, token] = gb at *
  clear hw hs ht
  rcases hor with rfl | rfl
  · go_enter Tryd.func5, Tryd.ntmps5
    go_wp2_with fail
    refine HA.out.mono ?_
    rintro e w1 ⟨rfl, hb1⟩
    have HB1 := Lib.hid hb1
    clear hb1
    go_wp2_with fail
    refine (HG1.out _).mono ?_
    rintro e w2 ⟨rfl, rfl⟩
    go_wp2_with fail
    go_ret
    exact ⟨rfl, HB1.out.alloc HB1.out.size _⟩
  go_enter Tryd.func5, Tryd.ntmps5
  go_wp2_with fail
  refine HA.out.mono ?_
  rintro e w1 ⟨rfl, hb1⟩
  have HB1 := Lib.hid hb1
  clear hb1
  go_wp2_with fail
  refine (HG1.out _).mono ?_
  rintro e w2 ⟨rfl, rfl⟩
  have HB2 : Hid (Below w.heap.size w (w1.alloc (.cells #[.string secret, .string token] 9))) := HB1.out.alloc HB1.out.size _
  clear HB1
  go_wp2_with fail
  refine (HR.out _ HB2.out).mono ?_
  rintro e w3 ⟨⟨s, x, hri, rfl⟩, hb3⟩
  obtain ⟨ho1, ho2⟩ := only hri
  have HB3 := Lib.hid (HB2.out.trans (hb3.mono HB2.out.size))
  have HB4 : Hid (Below w.heap.size w (w3.alloc (sessO s.id ⟨s.user.toArray⟩ s.untl))) := HB3.out.alloc HB3.out.size _
  clear hri hb3 HB2
  by_cases hx : x = 0
  · obtain ⟨t1, t2, t3⟩ := ho2 hx
    have hul := token_user t1
    have HTk := Lib.hid (HT.out ⟨s.user.toArray⟩ s.id s.untl _ HB4.out (by show s.user.length ≤ _; omega))
    rw [show (⟨s.id, (⟨s.user.toArray⟩ : ByteArray).data.toList, s.untl⟩ : Sess) = s from rfl, t1] at HTk
    simp only [ba_mk2] at HTk
    have d1 : decide (clock ≤ s.untl) = true := decide_eq_true t2
    have d2 : decide (0 ≤ clock) = true := decide_eq_true t3
    have HZ4 : Hid ((w3.alloc (sessO s.id ⟨s.user.toArray⟩ s.untl)).heap.size = w3.heap.size + 1) := by show _ = _; simp
    have HX4 := Lib.hid (box3 w3 s.id ⟨s.user.toArray⟩ s.untl)
    clear ho1 ho2 t1 t2 t3 hul HT HR HG1
    subst hx
    go_wp2_with fail
    refine HTk.out.mono ?_
    rintro e w5 ⟨rfl, hb5⟩
    rw [HZ4.out] at hb5
    obtain ⟨x0, x1, x2⟩ := HX4.out w5 hb5
    have HB5 := Lib.hid (HB4.out.trans (hb5.mono (by have := HB3.out.size; omega)))
    clear hb5
    go_wp2_with fail
    go_ret
    exact ⟨rfl, HB5.out⟩
  · obtain rfl := ho1 hx
    have hx2 : (x != 0) = true := by simpa using hx
    clear ho1 ho2
    go_wp2_with fail
    go_ret
    exact ⟨rfl, HB4.out⟩
end Go.Proofs.YtflckjabjhmnfaaDoor
