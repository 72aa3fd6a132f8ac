/- docketref20.May and Closed. -/
import Derived.Test.YtkiepajhakoeiaaDoorAsked
import Derived.Test.YtkiepajhakoeiaaDoorRolesMay
namespace Go.Proofs.YtkiepajhakoeiaaDoor
open Go.RowKit

def MayEnd (l : List Rl) (names : List ByteArray) (deed : ByteArray) (w : World) (x : Int) (e : Ending) (w' : World) : Prop := ∃ bo, e = .returned (.tuple #[.bool bo, .int .i64 x]) ∧ MayIs l names deed bo ∧ Below w.heap.size w w'
theorem mayEnd {l : List Rl} {names : List ByteArray} {deed : ByteArray} {w : World} {x : Int} {w' : World} {bo : Bool} (h : MayIs l names deed bo) (hb : Below w.heap.size w w') : MayEnd l names deed w x (.returned (.tuple #[.bool bo, .int .i64 x])) w' := ⟨bo, rfl, h, hb⟩

set_option maxHeartbeats 8000000 in
set_option maxRecDepth 100000 in
theorem ref_May (v vn : Value) (l : List Rl) (names : List ByteArray) (deed : ByteArray) (w : World) (h : Rls w.heap.size w v l) (hl : l.length ≤ maxLen) (hn : Strs w.heap.size w vn names) (hnl : names.length ≤ maxLen) (hd : deed.size ≤ maxLen) :
    Calls Tryd.prog 18 #[v, vn, .string deed] w (MayEnd l names deed w (mayE l names deed)) := by
  have cC := ref_asked w.heap.size v vn l names w (Nat.le_refl _) h hl hn hnl
  obtain ⟨a, c, b, o, rfl, hle, hC⟩ := h.cells
  obtain ⟨an, cn, bn, on, rfl, hlen, -, -⟩ := hn.cells
  have HC := Lib.hid hC
  have cN := fun W => refNamed deed W hd
  clear h hn hC
  unfold maxLen at hl
  by_cases he : closedE l names = 0
  · have cC2 := cC.mono (R' := fun e w' => Below w.heap.size w w' ∧ ∃ g is, e = .returned (.tuple #[.slice (some ⟨g, 0, none⟩) l.length l.length, .int .i64 0]) ∧ w.heap.size ≤ g ∧ Marked w' g l.length is ∧ AskedIs l names is) (by
      rintro e w' ⟨hb, ⟨h1, -⟩ | ⟨-, h2⟩⟩
      · exact absurd he h1
      · exact ⟨hb, h2⟩)
    clear cC
    cases hnm : named deed.data.toList
    · have hE : mayE l names deed = 5 := by simp [mayE, he, hnm]
      have hF : MayIs l names deed false := by simp [MayIs, hE]
      rw [hE]
      simp only [hnm] at cN
      have HF := Lib.hid hF
      clear he hnm hE hF
      go_enter Tryd.func18, Tryd.ntmps18
      go_wp2_with (first | (go_at_call 30; refine cC2.mono ?_; rintro e w1 ⟨hb, g, is, rfl, hg, hM, hA⟩) | (go_at_call 26; refine (cN _).mono ?_; rintro e w2 ⟨rfl, rfl⟩))
      go_ret2
      exact mayEnd HF.out hb
    · have hE : mayE l names deed = 0 := by simp [mayE, he, hnm]
      obtain ⟨-, -, h32, hok⟩ := nodup_byName (l := l) (by
        unfold closedE at he
        split at he
        · assumption
        · rename_i hne; simpa using hne)
      have hml : ∀ r ∈ l, r.may.length ≤ 1024 := fun r hr => by
        have := hok r hr
        simp only [okRole, Bool.and_eq_true, decide_eq_true_eq] at this
        exact this.1.1.2
      have HML := Lib.hid hml
      have HE := Lib.hid hE
      rw [hE]
      simp only [hnm] at cN
      clear he hnm hE hok hml
      go_enter Tryd.func18, Tryd.ntmps18
      go_wp2_with (first | (go_at_call 30; refine cC2.mono ?_; rintro e w1 ⟨hb, g, is, rfl, hg, hM, hA⟩) | (go_at_call 26; refine (cN _).mono ?_; rintro e w2 ⟨rfl, rfl⟩))
      have HA := Lib.hid hA
      clear hA cN cC2
      go_loop [10] (fun i => ∃ k : Nat, k ≤ l.length ∧ i = .int .i64 k ∧ Hid (∀ j (h : j < l.length), j < k → mkd is j = true → deed ∉ l[j].may)) (fun i => l.length - (intOf i).toNat)
      case atStart => exact ⟨0, by omega, rfl, fun j _ hj => by omega⟩
      case round =>
        obtain ⟨k, hk, rfl, hno⟩ := hrel
        by_cases hlt : k < l.length
        · obtain ⟨rfl, hbl⟩ := HC.out.at0 (by omega)
          have x2 := (hb.cell (p := ⟨b, o + k * 3 + 2, none⟩) hbl).trans (HC.out.c2 k hlt)
          simp only [Rl.mv] at x2
          obtain ⟨y1, -⟩ := hM.cell hlt
          have hb24 : l[k].may.length ≤ 1024 := HML.out l[k] (List.getElem_mem hlt)
          obtain ⟨ah, ch, bh, oh, hve, -, hah, hch⟩ := (HC.out.ms k hlt).cells
          injection hve with hva hvn hvc
          subst hva
          have Hah := Lib.hid hah; have Hch := Lib.hid hch; clear hah hch hvn hvc
          have hstep : (mkd is k = true → deed ∉ l[k].may) → ∀ j (h : j < l.length), j < k + 1 → mkd is j = true → deed ∉ l[j].may := fun h0 j h hj hm => by
            by_cases e : j = k
            · subst e; exact h0 hm
            · exact hno.out j h (by omega) hm
          have HS := Lib.hid hstep
          clear hstep
          cases hmk : mkd is k
          · rw [hmk] at y1
            have HN := Lib.hid (HS.out (fun h => by rw [hmk] at h; cases h))
            clear hmk
            go_wp2
            go_loop [11] (fun i => ∃ m : Nat, m ≤ l[k].may.length ∧ i = .int .i64 m) (fun i => l[k].may.length - (intOf i).toNat)
            case atStart => exact ⟨0, by omega, rfl⟩
            case round =>
              obtain ⟨m, hm, rfl⟩ := hrel
              go_wp2
              go_round
              case rel => exact ⟨k + 1, by omega, by go_num, HN.out⟩
              case measure => simp [intOf]; omega
          · rw [hmk] at y1
            have Hmk := Lib.hid hmk
            clear hmk
            go_wp2
            go_loop [11] (fun i => ∃ m : Nat, m ≤ l[k].may.length ∧ i = .int .i64 m ∧ Hid (∀ q (h : q < l[k].may.length), q < m → l[k].may[q] ≠ deed)) (fun i => l[k].may.length - (intOf i).toNat)
            case atStart => exact ⟨0, by omega, rfl, fun j _ hj => by omega⟩
            case round =>
              obtain ⟨m, hm, rfl, hno2⟩ := hrel
              by_cases hlt2 : m < l[k].may.length
              · obtain ⟨e1, hbl4⟩ := Hah.out (by omega)
                have z0 := (hb.cell (p := ⟨bh, oh + m, none⟩) hbl4).trans (Hch.out m hlt2)
                have g9 : decide ((m : Int) < (l[k].may.length : Int)) = true := decide_eq_true (by omega)
                obtain ⟨d, hdm⟩ : ∃ d, l[k].may[m] = d := ⟨_, rfl⟩
                rw [hdm] at z0
                have Hdm := Lib.hid hdm
                clear hdm
                have hq := ba_eq d deed
                by_cases hde : d = deed
                · rw [decide_eq_true hde] at hq
                  have HY : Hid (MayIs l names deed true) := ⟨fun _ => ⟨HE.out, l[k], (HA.out.2 k hlt).1 Hmk.out, by rw [← hde, ← Hdm.out]; exact List.getElem_mem hlt2⟩, fun _ => rfl⟩
                  clear hde
                  go_wp2
                  go_ret2
                  exact mayEnd HY.out hb
                · rw [decide_eq_false hde] at hq
                  have HN2 : Hid (∀ q (h : q < l[k].may.length), q < m + 1 → l[k].may[q] ≠ deed) := fun q h hqm => by
                    by_cases e : q = m
                    · subst e; rw [Hdm.out]; exact hde
                    · exact hno2.out q h (by omega)
                  clear hde
                  go_wp2
                  go_round
                  case rel => exact ⟨m + 1, by omega, by go_num, HN2⟩
                  case measure => simp [intOf]; omega
              · have g9 : decide ((m : Int) < (l[k].may.length : Int)) = false := decide_eq_false (by omega)
                have HN := Lib.hid (HS.out (fun _ hmem => by
                  obtain ⟨q, hq, hqe⟩ := List.mem_iff_getElem.1 hmem
                  exact hno2.out q hq (by omega) hqe))
                go_wp2
                go_round
                case rel => exact ⟨k + 1, by omega, by go_num, HN.out⟩
                case measure => simp [intOf]; omega
        · have HF : Hid (MayIs l names deed false) := by
            refine ⟨(fun h => by cases h), ?_⟩
            rintro ⟨-, r, hr, hm⟩
            exfalso
            have hml : r ∈ l := by
              cases hr with
              | start _ h => exact (findR_name h).2
              | more _ _ h => exact (findR_name h).2
            obtain ⟨j, hj, rfl⟩ := List.mem_iff_getElem.1 hml
            exact hno.out j hj (by omega) ((HA.out.2 j hj).2 hr) hm
          go_wp2
          go_ret2
          exact mayEnd HF.out hb
  · have cC2 := cC.mono (R' := fun e w' => Below w.heap.size w w' ∧ e = .returned (.tuple #[.slice none 0 0, .int .i64 (closedE l names)])) (by
      rintro e w' ⟨hb, ⟨-, h1⟩ | ⟨h2, -⟩⟩
      · exact ⟨hb, h1⟩
      · exact absurd h2 he)
    have hne : (closedE l names != 0) = true := by simpa using he
    have hE : mayE l names deed = closedE l names := by simp [mayE, he]
    have hF : MayIs l names deed false := by simp [MayIs, hE, he]
    have HF := Lib.hid hF
    rw [hE]
    clear cC hE hF he cN
    generalize closedE l names = x at *
    go_enter Tryd.func18, Tryd.ntmps18
    go_wp2_with (go_at_call 30; refine cC2.mono ?_; rintro e w1 ⟨hb, rfl⟩)
    go_ret2
    exact mayEnd HF.out hb
end Go.Proofs.YtkiepajhakoeiaaDoor
