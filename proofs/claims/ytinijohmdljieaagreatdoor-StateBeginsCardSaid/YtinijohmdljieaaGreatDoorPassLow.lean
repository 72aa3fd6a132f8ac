/- slices.ContainsFunc at texts, and the closures of pass. -/
import Derived.Test.YtinijohmdljieaaGreatDoorNamedLow
namespace Go.Proofs.YtinijohmdljieaaGreatDoor
open Go.RowKit

theorem pass_may1 (s : ByteArray) (w : World) (hs : s.size ≤ maxLen) :
    Calls Tryz.prog 144 #[.string s] w fun e w' => e = .returned (.bool (!named s.data.toList)) ∧ Below w.heap.size w w' := by
  have h := pass_named s w hs
  go_enter Tryz.func144, Tryz.ntmps144
  go_wp2_with (go_at_call 122; refine h.mono ?_; rintro e w1 ⟨rfl, hb⟩)
  go_ret
  exact ⟨rfl, hb⟩

def AnyAt (p : ByteArray → Bool) (xs : List ByteArray) (e : Ending) : Prop := ∃ z : Int, e = .returned (.int .i64 z) ∧ decide (0 ≤ z) = xs.any p
set_option maxHeartbeats 2000000 in
theorem indexStrs (v : Value) (xs : List ByteArray) (p : ByteArray → Bool) (g : Nat) (eg : ∀ args w, (callFunc g args).run Tryz.prog w = .ok (.enter g args) w)
    (w : World) (hl : xs.length ≤ 1000000) (hp : ∀ s ∈ xs, ∀ W, Calls Tryz.prog g #[.string s] W fun e w' => e = .returned (.bool (p s)) ∧ Below W.heap.size W w') (h : Strs w.heap.size w v xs) :
    Calls Tryz.prog 178 #[v, .func (.func g) #[] #[]] w fun e w' => AnyAt p xs e ∧ Below w.heap.size w w' := by
  obtain ⟨a, c, b, o, rfl, -, ha, hc⟩ := h.cells
  have HA := Lib.hid ha; have HC := Lib.hid hc; have HP := Lib.hid hp
  clear h ha hc hp
  go_enter Tryz.func178, Tryz.ntmps178
  go_wp2
  go_loopw [8] (fun i wr => ∃ k : Nat, k ≤ xs.length ∧ i = .int .i64 k ∧ Hid (Below w.heap.size w wr) ∧ Hid ((xs.take k).any p = false)) (fun i _ => xs.length - (intOf i).toNat)
  case atStart => exact ⟨0, by omega, rfl, Below.refl _ _, by simp [Hid]⟩
  case round =>
    obtain ⟨k, hk, rfl, hB, hno⟩ := hrel
    by_cases hlt : k < xs.length
    · obtain ⟨rfl, hbl⟩ := HA.out (by omega)
      have x0 := (hB.out.cell (p := ⟨b, o + k, none⟩) hbl).trans (HC.out k hlt)
      have HK := Lib.hid (HP.out xs[k] (List.getElem_mem hlt))
      have i1 : (k : Int) < (xs.length : Int) := by omega
      have hz := hB.out.size
      cases hq : p xs[k]
      · rw [hq] at HK
        have HN : Hid ((xs.take (k + 1)).any p = false) := by
          show _ = _
          rw [List.take_succ_eq_append_getElem hlt, List.any_append, hno.out]; simp [hq]
        obtain ⟨s, hs⟩ : ∃ s, xs[k] = s := ⟨_, rfl⟩
        rw [hs] at x0 HK
        clear hq hno hs
        go_wp2_with fail
        refine (HK.out _).mono ?_
        rintro e w2 ⟨rfl, hb2⟩
        have HB2 := Lib.hid (hB.out.trans (hb2.mono hz))
        clear hb2
        go_wp2
        go_roundw
        case rel => exact ⟨k + 1, by omega, by go_num, HB2, HN⟩
        case measure => simp [intOf]; omega
      · rw [hq] at HK
        have HN : Hid (xs.any p = true) := by
          show _ = _
          exact List.any_eq_true.2 ⟨xs[k], List.getElem_mem hlt, hq⟩
        obtain ⟨s, hs⟩ : ∃ s, xs[k] = s := ⟨_, rfl⟩
        rw [hs] at x0 HK
        clear hq hno hs
        go_wp2_with fail
        refine (HK.out _).mono ?_
        rintro e w2 ⟨rfl, hb2⟩
        have HB2 := Lib.hid (hB.out.trans (hb2.mono hz))
        clear hb2
        go_wp2
        go_ret
        exact ⟨⟨_, rfl, by rw [HN.out]; simp⟩, HB2.out⟩
    · obtain rfl : k = xs.length := by omega
      have HN : Hid (xs.any p = false) := by
        have := hno.out
        rwa [List.take_length] at this
      clear hno
      go_wp2
      go_ret
      exact ⟨⟨_, rfl, by rw [HN.out]; rfl⟩, hB.out⟩
theorem containsStrs (v : Value) (xs : List ByteArray) (p : ByteArray → Bool) (g : Nat) (eg : ∀ args w, (callFunc g args).run Tryz.prog w = .ok (.enter g args) w)
    (w : World) (hl : xs.length ≤ 1000000) (hp : ∀ s ∈ xs, ∀ W, Calls Tryz.prog g #[.string s] W fun e w' => e = .returned (.bool (p s)) ∧ Below W.heap.size W w') (h : Strs w.heap.size w v xs) :
    Calls Tryz.prog 143 #[v, .func (.func g) #[] #[]] w fun e w' => e = .returned (.bool (xs.any p)) ∧ Below w.heap.size w w' := by
  have HI := Lib.hid (indexStrs v xs p g eg w hl hp h)
  obtain ⟨a, c, b, o, rfl, -, -, -⟩ := h.cells
  clear h hp
  go_enter Tryz.func143, Tryz.ntmps143
  go_wp2_with fail
  refine HI.out.mono ?_
  rintro e w1 ⟨⟨z, rfl, hz⟩, hb⟩
  have HZ := Lib.hid hz; have HB := Lib.hid hb
  clear hz hb HI
  go_wp2
  go_ret
  exact ⟨ret_bool (by rw [← HZ.out]), HB.out⟩
end Go.Proofs.YtinijohmdljieaaGreatDoor
