/- pass.sealer, pass.Token. -/
import Derived.Test.YtflckjabjhmnfaaGreatDoorSealer
namespace Go.Proofs.YtflckjabjhmnfaaGreatDoor
open Go.RowKit

set_option maxRecDepth 100000 in
theorem sealer_walk (secret : ByteArray) (w : World) : Calls Tryz.prog 11 #[.string secret] w fun e w' => e = .returned (.func (.func 22) #[] #[.pointer (some ⟨w.heap.size, 0, none⟩)]) ∧ w' = w.alloc (.cells #[.string secret] 9) := by
  have hmf : ∀ (fn : Fn) (first cap : Array Value) (w : World), (Instr.makeFunc fn first cap).run Tryz.prog w = .ok (.func fn first cap) w := fun _ _ _ _ => rfl
  go_enter Tryz.func11, Tryz.ntmps11
  go_wp2
  go_ret
  exact ⟨rfl, rfl⟩
theorem token_bad {k : List UInt8} {s : Sess} (h : ¬ (0 < k.length ∧ k.length ≤ 64)) : tokenT k s = ([], 3) := by rw [tokenT, if_pos h]
theorem token_yes {k : List UInt8} {s : Sess} (h : 0 < k.length ∧ k.length ≤ 64) (hs : sessB s) : tokenT k s = (madeT k s, 0) := by rw [tokenT, if_neg (fun q => q h), if_pos hs]
theorem token_no {k : List UInt8} {s : Sess} (h : 0 < k.length ∧ k.length ≤ 64) (hs : ¬ sessB s) : tokenT k s = ([], 8) := by rw [tokenT, if_neg (fun q => q h), if_neg hs]
theorem word_iff (s : ByteArray) : wordN s.size = true ↔ (0 < s.data.toList.length ∧ s.data.toList.length ≤ 64) := by
  rw [ba_len]
  simp [wordN]

set_option maxHeartbeats 4000000 in
set_option maxRecDepth 100000 in
theorem Token_walk (secret n : ByteArray) (i u : Int) (w : World) (hw : TokW w) (hn : n.size ≤ 10000) (hs : secret.size ≤ maxLen) :
    Calls Tryz.prog 5 #[.string secret, sessV i n u] w fun e w' => e = .returned (.tuple #[.string ⟨(tokenT secret.data.toList ⟨i, n.data.toList, u⟩).1.toArray⟩, .int .i64 (tokenT secret.data.toList ⟨i, n.data.toList, u⟩).2]) ∧ Below w.heap.size w w' := by
  have HWD := Lib.hid (fun W => pass_word secret W hs)
  have HB0 : Hid (BoxS w i n u (w.alloc (sessO i n u))) := BoxS.start w i n u
  have HZ0 : Hid ((w.alloc (sessO i n u)).heap.size = w.heap.size + 1) := by show _ = _; simp
  by_cases hwd : wordN secret.size = true
  · have hk := (word_iff secret).1 hwd
    rw [hwd] at HWD
    by_cases hse : sessB ⟨i, n.data.toList, u⟩
    · rw [token_yes hk hse]
      have HS := Lib.hid (session_walk i n u (w.alloc (sessO i n u)) (by unfold maxLen; omega))
      rw [decide_eq_true hse] at HS
      obtain ⟨q1, q2, -, q4, q5⟩ := hse
      replace q2 : i ≤ 2147483647 := q2
      replace q5 : u ≤ 1099511627776 := q5
      have HC : Hid (∀ W : World, BoxS w i n u W → Calls Tryz.prog 22 #[sessV i n u, .pointer (some ⟨W.heap.size, 0, none⟩)] (W.alloc (.cells #[.string secret] 9)) fun e W' => e = .returned (.string ⟨(madeT secret.data.toList ⟨i, n.data.toList, u⟩).toArray⟩) ∧ BoxS w i n u W') := by
        intro W h
        refine (sealed_walk W.heap.size secret n i u (W.alloc (.cells #[.string secret] 9)) ((h.alloc _).tokW hw) (by go_simp) (by simp) q1 (by omega) q4 (by omega) hn (by rw [ba_len] at hk; omega)).mono ?_
        rintro e W' ⟨rfl, hb⟩
        exact ⟨rfl, (h.alloc _).next hb⟩
      clear hw hn hs hwd hk q1 q2 q4 q5
      go_enter Tryz.func5, Tryz.ntmps5
      go_wp2_with fail
      refine (HWD.out _).mono ?_
      rintro e w1 ⟨rfl, rfl⟩
      go_wp2_with fail
      refine HS.out.mono ?_
      rintro e w1 ⟨rfl, hb1⟩
      have hB1 := HB0.out.next hb1
      obtain ⟨-, x0, x1, x2⟩ := id hB1
      have HB1 := Lib.hid hB1
      clear hb1 hB1 HB0 HS
      go_upto_region 5 with fail
      go_region_held3 (fun W => Below (w.heap.size + 1) (w.alloc (sessO i n u)) W ∧ W.cell? ⟨w.heap.size, 0, none⟩ = some (.int .i64 i) ∧ W.cell? ⟨w.heap.size, 1, none⟩ = some (.string n) ∧ W.cell? ⟨w.heap.size, 2, none⟩ = some (.int .i64 u))
        (first | exact HB1.out | exact HB1.out.drew | exact hS2 | exact hS3)
        (first
          | (go_at_call 11; refine (sealer_walk secret _).mono ?_; rintro e W' ⟨rfl, rfl⟩; have hS2 := HB1.out.drew.alloc (.cells #[.string secret] 9))
          | (go_at_call 22; refine (HC.out _ HB1.out.drew).mono ?_; rintro e W' ⟨rfl, hS3⟩))
      go_wp2_with fail
      go_ret2
      exact ⟨rfl, hS3.below⟩
    · rw [token_no hk hse]
      have HS := Lib.hid (session_walk i n u (w.alloc (sessO i n u)) (by unfold maxLen; omega))
      rw [decide_eq_false hse] at HS
      clear hw hn hs hwd hk hse
      go_enter Tryz.func5, Tryz.ntmps5
      go_wp2_with fail
      refine (HWD.out _).mono ?_
      rintro e w1 ⟨rfl, rfl⟩
      go_wp2_with fail
      refine HS.out.mono ?_
      rintro e w1 ⟨rfl, hb1⟩
      have HB1 := Lib.hid (HB0.out.next hb1)
      clear hb1
      go_wp2_with fail
      go_ret2
      exact ⟨rfl, HB1.out.below⟩
  · have hk : ¬ (0 < secret.data.toList.length ∧ secret.data.toList.length ≤ 64) := fun h => hwd ((word_iff secret).2 h)
    rw [token_bad hk]
    have hwd' : wordN secret.size = false := by simpa using hwd
    rw [hwd'] at HWD
    clear hw hn hs hwd hk hwd'
    go_enter Tryz.func5, Tryz.ntmps5
    go_wp2_with fail
    refine (HWD.out _).mono ?_
    rintro e w1 ⟨rfl, rfl⟩
    go_wp2_with fail
    go_ret2
    exact ⟨rfl, HB0.out.below⟩
end Go.Proofs.YtflckjabjhmnfaaGreatDoor
