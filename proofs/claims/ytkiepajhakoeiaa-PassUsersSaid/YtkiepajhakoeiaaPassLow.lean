/- package pass: named, word, the closures that ask for names; slices.ContainsFunc of strings. -/
import Derived.Test.YtkiepajhakoeiaaRune
import Derived.Test.YtkiepajhakoeiaaName
namespace Go.Proofs.Ytkiepajhakoeiaa
open Go.RowKit

set_option maxHeartbeats 1000000 in
theorem pass_named1 (w : World) : PredGrows Try.prog 27 #[] (fun r => !nmR r) w := fun W r hr _ => by
  have hs := ContainsRune_signs r W
  show Calls Try.prog 27 #[.int .i32 r] W fun e w' => e = .returned (.bool (!nmR r)) ∧ Below W.heap.size W w'
  by_cases h1 : (97 ≤ r ∧ r ≤ 122) ∨ (48 ≤ r ∧ r ≤ 57)
  · have hn : nmR r = true := by simp [nmR]; omega
    rw [hn]
    clear hs hn hr
    go_enter Try.func27, Try.ntmps27
    go_wp2_with fail
    all_goals first
      | (exfalso; omega)
      | (go_ret; exact ⟨ret_bool (by simp <;> omega), Below.refl _ _⟩)
  · have hn : nmR r = sign r := by rw [Bool.eq_iff_iff]; simp [nmR, sign]; omega
    rw [hn]
    clear hn hr
    generalize sign r = b at hs
    go_enter Try.func27, Try.ntmps27
    go_wp2_with (go_at_call 28; refine hs.mono ?_; rintro e w1 ⟨rfl, hb⟩)
    all_goals first
      | (exfalso; omega)
      | (go_ret; exact ⟨ret_bool (by simp <;> omega), by assumption⟩)

set_option maxHeartbeats 1000000 in
theorem pass_named (s : ByteArray) (w : World) (hs : s.size ≤ maxLen) :
    Calls Try.prog 13 #[.string s] w fun e w' => e = .returned (.bool (named s.data.toList)) ∧ Below w.heap.size w w' := by
  unfold maxLen at hs
  have cF := fun W => Try.strings_ContainsFunc_grows 27 #[] (enters_of Try.func27 (by kernel_rfl) rfl) _ s W (pass_named1 W)
  simp only [idx_named_all] at cF
  by_cases h0 : 0 < s.size
  · by_cases h1 : s.size ≤ 32
    · rw [named_mid h0 h1]
      generalize s.data.toList.all nmB = b at *
      have g0 : decide (0 < (s.size : Int)) = true := decide_eq_true (by omega)
      have g1 : decide ((s.size : Int) ≤ 32) = true := decide_eq_true (by omega)
      go_enter Try.func13, Try.ntmps13
      go_wp2_with (go_at_call 26; refine (cF _).mono ?_; rintro e w2 ⟨rfl, hb2⟩)
      go_ret
      exact ⟨ret_bool (by simp), hb2⟩
    · rw [named_long h1]
      have g0 : decide (0 < (s.size : Int)) = true := decide_eq_true (by omega)
      have g1 : decide ((s.size : Int) ≤ 32) = false := decide_eq_false (by omega)
      clear cF
      go_enter Try.func13, Try.ntmps13
      go_wp2_with fail
      go_ret
      exact ⟨rfl, Below.refl _ _⟩
  · rw [named_zero h0]
    have g0 : decide (0 < (s.size : Int)) = false := decide_eq_false (by omega)
    clear cF
    go_enter Try.func13, Try.ntmps13
    go_wp2_with fail
    go_ret
    exact ⟨rfl, Below.refl _ _⟩
def wordN (n : Nat) : Bool := decide (0 < n) && decide (n ≤ 64)
theorem pass_word (s : ByteArray) (w : World) (hs : s.size ≤ maxLen) :
    Calls Try.prog 14 #[.string s] w fun e w' => e = .returned (.bool (wordN s.size)) ∧ w = w' := by
  unfold maxLen at hs
  by_cases h0 : 0 < s.size
  · by_cases h1 : s.size ≤ 64
    · have g0 : decide (0 < (s.size : Int)) = true := decide_eq_true (by omega)
      have g1 : decide ((s.size : Int) ≤ 64) = true := decide_eq_true (by omega)
      go_enter Try.func14, Try.ntmps14
      go_wp2_with fail
      go_ret
      exact ⟨ret_bool (by simp [wordN, h0, h1]), rfl⟩
    · have g0 : decide (0 < (s.size : Int)) = true := decide_eq_true (by omega)
      have g1 : decide ((s.size : Int) ≤ 64) = false := decide_eq_false (by omega)
      go_enter Try.func14, Try.ntmps14
      go_wp2_with fail
      go_ret
      exact ⟨ret_bool (by simp [wordN, h0]; omega), rfl⟩
  · have g0 : decide (0 < (s.size : Int)) = false := decide_eq_false (by omega)
    go_enter Try.func14, Try.ntmps14
    go_wp2_with fail
    go_ret
    exact ⟨ret_bool (by simp [wordN, h0]), rfl⟩
theorem pass_make1 (s : ByteArray) (w : World) (hs : s.size ≤ maxLen) :
    Calls Try.prog 16 #[.string s] w fun e w' => e = .returned (.bool (!named s.data.toList)) ∧ Below w.heap.size w w' := by
  have h := pass_named s w hs
  go_enter Try.func16, Try.ntmps16
  go_wp2_with (go_at_call 13; refine h.mono ?_; rintro e w1 ⟨rfl, hb⟩)
  go_ret
  exact ⟨rfl, hb⟩
theorem pass_may1 (s : ByteArray) (w : World) (hs : s.size ≤ maxLen) :
    Calls Try.prog 33 #[.string s] w fun e w' => e = .returned (.bool (!named s.data.toList)) ∧ Below w.heap.size w w' := by
  have h := pass_named s w hs
  go_enter Try.func33, Try.ntmps33
  go_wp2_with (go_at_call 13; refine h.mono ?_; rintro e w1 ⟨rfl, hb⟩)
  go_ret
  exact ⟨rfl, hb⟩

def AnyAt (p : ByteArray → Bool) (xs : List ByteArray) (e : Ending) : Prop := ∃ z : Int, e = .returned (.int .i64 z) ∧ decide (0 ≤ z) = xs.any p
set_option maxHeartbeats 2000000 in
theorem indexStrs (v : Value) (xs : List ByteArray) (p : ByteArray → Bool) (g : Nat) (eg : ∀ args w, (callFunc g args).run Try.prog w = .ok (.enter g args) w)
    (w : World) (hl : xs.length ≤ 1000000) (hp : ∀ s ∈ xs, ∀ W, Calls Try.prog g #[.string s] W fun e w' => e = .returned (.bool (p s)) ∧ Below W.heap.size W w') (h : Strs w.heap.size w v xs) :
    Calls Try.prog 29 #[v, .func (.func g) #[] #[]] w fun e w' => AnyAt p xs e ∧ Below w.heap.size w w' := by
  obtain ⟨a, c, b, o, rfl, -, ha, hc⟩ := h.cells
  have HA := Lib.hid ha; have HC := Lib.hid hc; have HP := Lib.hid hp
  clear h ha hc hp
  go_enter Try.func29, Try.ntmps29
  go_wp2
  go_loopw [8] (fun i wr => ∃ k : Nat, k ≤ xs.length ∧ i = .int .i64 k ∧ Hid (Below w.heap.size w wr) ∧ Hid ((xs.take k).any p = false)) (fun i _ => xs.length - (intOf i).toNat)
  case atStart => exact ⟨0, by omega, rfl, Below.refl _ _, by simp [Hid]⟩
  case round =>
    obtain ⟨k, hk, rfl, hB, hno⟩ := hrel
    by_cases hlt : k < xs.length
    · obtain ⟨rfl, hbl⟩ := HA.out (by omega)
      have x0 := (hB.out.cell (p := ⟨b, o + k, none⟩) hbl).trans (HC.out k hlt)
      have HK := Lib.hid (HP.out xs[k] (List.getElem_mem hlt))
      have i1 : (k : Int) < (xs.length : Int) := by omega
      have hz := hB.out.size
      cases hq : p xs[k]
      · rw [hq] at HK
        have HN : Hid ((xs.take (k + 1)).any p = false) := by
          show _ = _
          rw [List.take_succ_eq_append_getElem hlt, List.any_append, hno.out]; simp [hq]
        obtain ⟨s, hs⟩ : ∃ s, xs[k] = s := ⟨_, rfl⟩
        rw [hs] at x0 HK
        clear hq hno hs
        go_wp2_with fail
        refine (HK.out _).mono ?_
        rintro e w2 ⟨rfl, hb2⟩
        have HB2 := Lib.hid (hB.out.trans (hb2.mono hz))
        clear hb2
        go_wp2
        go_roundw
        case rel => exact ⟨k + 1, by omega, by go_num, HB2, HN⟩
        case measure => simp [intOf]; omega
      · rw [hq] at HK
        have HN : Hid (xs.any p = true) := by
          show _ = _
          exact List.any_eq_true.2 ⟨xs[k], List.getElem_mem hlt, hq⟩
        obtain ⟨s, hs⟩ : ∃ s, xs[k] = s := ⟨_, rfl⟩
        rw [hs] at x0 HK
        clear hq hno hs
        go_wp2_with fail
        refine (HK.out _).mono ?_
        rintro e w2 ⟨rfl, hb2⟩
        have HB2 := Lib.hid (hB.out.trans (hb2.mono hz))
        clear hb2
        go_wp2
        go_ret
        exact ⟨⟨_, rfl, by rw [HN.out]; simp⟩, HB2.out⟩
    · obtain rfl : k = xs.length := by omega
      have HN : Hid (xs.any p = false) := by
        have := hno.out
        rwa [List.take_length] at this
      clear hno
      go_wp2
      go_ret
      exact ⟨⟨_, rfl, by rw [HN.out]; rfl⟩, hB.out⟩
theorem containsStrs (v : Value) (xs : List ByteArray) (p : ByteArray → Bool) (g : Nat) (eg : ∀ args w, (callFunc g args).run Try.prog w = .ok (.enter g args) w)
    (w : World) (hl : xs.length ≤ 1000000) (hp : ∀ s ∈ xs, ∀ W, Calls Try.prog g #[.string s] W fun e w' => e = .returned (.bool (p s)) ∧ Below W.heap.size W w') (h : Strs w.heap.size w v xs) :
    Calls Try.prog 15 #[v, .func (.func g) #[] #[]] w fun e w' => e = .returned (.bool (xs.any p)) ∧ Below w.heap.size w w' := by
  have HI := Lib.hid (indexStrs v xs p g eg w hl hp h)
  obtain ⟨a, c, b, o, rfl, -, -, -⟩ := h.cells
  clear h hp
  go_enter Try.func15, Try.ntmps15
  go_wp2_with fail
  refine HI.out.mono ?_
  rintro e w1 ⟨⟨z, rfl, hz⟩, hb⟩
  have HZ := Lib.hid hz; have HB := Lib.hid hb
  clear hz hb HI
  go_wp2
  go_ret
  exact ⟨ret_bool (by rw [← HZ.out]), HB.out⟩
end Go.Proofs.Ytkiepajhakoeiaa
