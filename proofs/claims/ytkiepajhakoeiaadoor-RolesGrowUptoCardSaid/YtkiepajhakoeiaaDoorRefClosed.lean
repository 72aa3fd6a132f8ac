/- docketref20.Closed. -/
import Derived.Test.YtkiepajhakoeiaaDoorNext
namespace Go.Proofs.YtkiepajhakoeiaaDoor
open Go.RowKit

def ClosedEnd (l : List Rl) (names : List ByteArray) (w : World) (x : Int) (e : Ending) (w' : World) : Prop := ∃ va vc ns, e = .returned (.tuple #[.slice va ns.length vc, .int .i64 x]) ∧ Own w' w.heap.size 9 1 va vc ns.length (ns.map Value.string) ∧ ClosedTo l names ns ∧ Below w.heap.size w w'

set_option maxHeartbeats 2500000 in
set_option maxRecDepth 100000 in
theorem ref_Closed (v vn : Value) (l : List Rl) (names : List ByteArray) (w : World) (h : Rls w.heap.size w v l) (hl : l.length ≤ maxLen) (hn : Strs w.heap.size w vn names) (hnl : names.length ≤ maxLen) :
    Calls Tryd.prog 16 #[v, vn] w (ClosedEnd l names w (closedE l names)) := by
  have cC := ref_asked w.heap.size v vn l names w (Nat.le_refl _) h hl hn hnl
  obtain ⟨a, c, b, o, rfl, hle, hC⟩ := h.cells
  obtain ⟨an, cn, bn, on, rfl, hlen, -, -⟩ := hn.cells
  have HC := Lib.hid hC
  clear h hn hC
  unfold maxLen at hl
  by_cases he : closedE l names = 0
  · have cC2 := cC.mono (R' := fun e w' => Below w.heap.size w w' ∧ ∃ g is, e = .returned (.tuple #[.slice (some ⟨g, 0, none⟩) l.length l.length, .int .i64 0]) ∧ w.heap.size ≤ g ∧ Marked w' g l.length is ∧ AskedIs l names is) (by
      rintro e w' ⟨hb, ⟨h1, -⟩ | ⟨-, h2⟩⟩
      · exact absurd he h1
      · exact ⟨hb, h2⟩)
    clear cC
    obtain ⟨-, -, h32, hok⟩ := nodup_byName (l := l) (by
      unfold closedE at he
      split at he
      · assumption
      · rename_i hne; simpa using hne)
    have hne : ∀ r ∈ l, r.name ≠ emptyB := fun r hr e => by
      have := hok r hr
      simp only [okRole, Bool.and_eq_true, decide_eq_true_eq, nmOk] at this
      have h5 := this.1.1.1.1
      rw [e] at h5
      cases h5
    have HNE := Lib.hid hne
    have HE := Lib.hid he
    rw [he]
    clear he hok hne
    go_enter Tryd.func16, Tryd.ntmps16
    go_wp2_with (go_at_call 30; refine cC2.mono ?_; rintro e w1 ⟨hb, g, is, rfl, hg, hM, hA⟩)
    have HA := Lib.hid hA
    clear hA cC2
    have hMl := hM.lt
    generalize hB1 : w1.heap.size = B1 at *
    go_loopg [8] 33 (fun gf t wr => ∃ (out : List ByteArray) (va : Option Addr) (vc N : Nat), t = .slice va N vc ∧ Hid (N = out.length) ∧ N + gf = 33 ∧ N ≤ 32 ∧ Hid (Told l is out) ∧ Own wr B1 9 1 va vc N (out.map Value.string) ∧ Below B1 w1 wr ∧ B1 ≤ wr.heap.size)
    case atStart => exact ⟨[], none, 0, 0, rfl, rfl, by omega, by omega, Told.begin l is, Own.nil _ _ _ _, hB1 ▸ Below.refl _ _, by omega⟩
    case round =>
      obtain ⟨out, va, vc, N, rfl, hN, hgf, hNle, hT, hOwn, hbw, hws⟩ := hrel
      have hM2 : Marked wr g l.length is := hM.below (hB1 ▸ hbw) 
      have hvc : N ≤ vc := hOwn.cap.1
      have hbw0 : Below w.heap.size w wr := hb.trans (hbw.mono (by have := hb.size; omega))
      go_wp2
      have HM2 := Lib.hid hM2
      go_loopw [9, 10] (fun nx i wx => ∃ (k : Nat) (next : ByteArray) (q : Nat), k ≤ l.length ∧ i = .int .i64 k ∧ nx = .string next ∧ wx = wr.drewN q ∧ Hid (Nx l is out k next)) (fun _ i _ => l.length - (intOf i).toNat)
      case atStart => exact ⟨0, _, 0, by omega, rfl, rfl, rfl, Nx.begin l is out⟩
      case round =>
        obtain ⟨k, next, q, hk, rfl, rfl, rfl, hX⟩ := hrel
        by_cases hlt : k < l.length
        · obtain ⟨y1, -⟩ := HM2.out.cell hlt
          obtain ⟨rfl, hbl⟩ := HC.out.at0 (by omega)
          have x0 := (hbw0.cell (p := ⟨b, o + k * 3, none⟩) hbl).trans (HC.out.c0 k hlt)
          have HNX := Lib.hid (hX.out.skip hlt)
          have HTK := Lib.hid (hX.out.take hlt (HNE.out _ (List.getElem_mem hlt)))
          cases hmk : mkd is k
          · rw [hmk] at y1
            have HN := Lib.hid (HNX.out (fun h => by rw [hmk] at h; cases h))
            clear hmk
            go_wp2
            go_quiet (fail)
            go_wp2
            go_roundw
            case rel => exact ⟨k + 1, next, _, by omega, by go_num, rfl, rfl, HN.out⟩
            case measure => simp [intOf]; omega
          · rw [hmk] at y1
            by_cases hz : next = emptyB ∨ ltB l[k].name next
            · have HT2 := Lib.hid (fun ha => HTK.out hmk ha hz)
              by_cases h0 : 0 < N
              · obtain ⟨m, rfl⟩ : ∃ m, N = m + 1 := ⟨N - 1, by omega⟩
                obtain ⟨go, rfl, hg1, hg2, hcell, -⟩ := hOwn.cell (by omega)
                have z0 := hcell m (.string (out[m]'(by have := hN.out; omega))) (by simp [hN.out.symm])
                have HAB := Lib.hid (hT.out.abv (by have := hN.out; omega) l[k].name)
                obtain ⟨last, hlast⟩ : ∃ last, out[m]'(by have := hN.out; omega) = last := ⟨_, rfl⟩
                rw [hlast] at z0
                have hAB : Hid (Abv out l[k].name ↔ ltB last l[k].name) := by
                  rw [← hlast]
                  have e : out.length - 1 = m := by have := hN.out; omega
                  have := HAB.out
                  simp only [e] at this
                  exact this
                have gz : ((m : Int) + 1 == 0) = false := by rw [beq_eq_false_iff_ne]; omega
                have HZ := Lib.hid hz
                clear hlast HAB hcell hz
                by_cases hgt : ltB last l[k].name
                · obtain ⟨hqg1, hqg2⟩ := gt_yes hgt
                  have HN := Lib.hid (HT2.out (hAB.out.2 hgt))
                  clear hgt hmk
                  rcases HZ.out with hz | hz
                  · subst hz
                    go_wp2
                    go_quiet (fail)
                    go_wp2
                    go_roundw
                    case rel => exact ⟨k + 1, l[k].name, _, by omega, by go_num, rfl, rfl, HN.out⟩
                    case measure => simp [intOf]; omega
                  · by_cases hne : next = emptyB
                    · subst hne
                      go_wp2
                      go_quiet (fail)
                      go_wp2
                      go_roundw
                      case rel => exact ⟨k + 1, l[k].name, _, by omega, by go_num, rfl, rfl, HN.out⟩
                      case measure => simp [intOf]; omega
                    · have hq1 := ne_isEmpty hne
                      have hq2 := lt_bytes l[k].name next
                      rw [decide_eq_true hz] at hq2
                      clear hz hne
                      go_wp2
                      go_quiet (fail)
                      go_wp2
                      go_roundw
                      case rel => exact ⟨k + 1, l[k].name, _, by omega, by go_num, rfl, rfl, HN.out⟩
                      case measure => simp [intOf]; omega
                · have hqg := gt_no hgt
                  have HN := Lib.hid (HNX.out (fun _ ha => absurd (hAB.out.1 ha) hgt))
                  clear hgt hmk
                  rcases hqg with ⟨hqg1, hqg2⟩ | ⟨hqg1, hqg2⟩
                  all_goals
                    rcases HZ.out with hz | hz
                    · subst hz
                      go_wp2
                      go_quiet (fail)
                      go_wp2
                      go_roundw
                      case rel => exact ⟨k + 1, emptyB, _, by omega, by go_num, rfl, rfl, HN.out⟩
                      case measure => simp [intOf]; omega
                    · by_cases hne : next = emptyB
                      · subst hne
                        go_wp2
                        go_quiet (fail)
                        go_wp2
                        go_roundw
                        case rel => exact ⟨k + 1, emptyB, _, by omega, by go_num, rfl, rfl, HN.out⟩
                        case measure => simp [intOf]; omega
                      · have hq1 := ne_isEmpty hne
                        have hq2 := lt_bytes l[k].name next
                        rw [decide_eq_true hz] at hq2
                        clear hz hne
                        go_wp2
                        go_quiet (fail)
                        go_wp2
                        go_roundw
                        case rel => exact ⟨k + 1, next, _, by omega, by go_num, rfl, rfl, HN.out⟩
                        case measure => simp [intOf]; omega
              · obtain rfl : N = 0 := by omega
                have HN := Lib.hid (HT2.out (by rw [List.eq_nil_of_length_eq_zero hN.out.symm]; simp [Abv]))
                clear hmk
                by_cases hne : next = emptyB
                · subst hne
                  clear hz
                  go_wp2
                  go_quiet (fail)
                  go_wp2
                  go_roundw
                  case rel => exact ⟨k + 1, l[k].name, _, by omega, by go_num, rfl, rfl, HN.out⟩
                  case measure => simp [intOf]; omega
                · have hq1 := ne_isEmpty hne
                  have hq2 := lt_bytes l[k].name next
                  rw [decide_eq_true (hz.resolve_left hne)] at hq2
                  clear hz hne
                  go_wp2
                  go_quiet (fail)
                  go_wp2
                  go_roundw
                  case rel => exact ⟨k + 1, l[k].name, _, by omega, by go_num, rfl, rfl, HN.out⟩
                  case measure => simp [intOf]; omega
            · have hz1 : next ≠ emptyB := fun e => hz (.inl e)
              have hz2 : ¬ ltB l[k].name next := fun e => hz (.inr e)
              have HN := Lib.hid (HNX.out (fun _ _ => ⟨hz1, hz2⟩))
              have hq1 := ne_isEmpty hz1
              have hq2 := lt_bytes l[k].name next
              rw [decide_eq_false hz2] at hq2
              clear hz hz1 hz2 hmk
              go_wp2
              go_quiet (fail)
              go_wp2
              go_roundw
              case rel => exact ⟨k + 1, next, _, by omega, by go_num, rfl, rfl, HN.out⟩
              case measure => simp [intOf]; omega
        · obtain rfl : k = l.length := by omega
          by_cases hne : next = emptyB
          · subst hne
            have HCT := Lib.hid (hT.out.end hX.out HA.out HE.out)
            have hbe : Below w.heap.size w (wr.drewN q) := below_drewN hbw0 q
            have hOe := (hOwn.drewN q).base_le (b2 := w.heap.size) (by have := hb.size; omega)
            have Hend := Lib.hid (And.intro hbe hOe)
            clear hbe hOe
            go_wp2
            go_ret2
            obtain ⟨h1, h2⟩ := Hend.out
            rw [hN.out] at h2
            exact ⟨va, vc, out, by rw [← hN.out]; rfl, h2, HCT.out, h1⟩
          · have hq1 := ne_isEmpty hne
            have HMO := Lib.hid (hT.out.more hX.out hne)
            have hcnt := HMO.out.count
            rw [List.length_append, ← hN.out] at hcnt
            simp only [List.length_singleton] at hcnt
            obtain ⟨g', rfl⟩ : ∃ g', gk = g' + 1 := ⟨gk - 1, by omega⟩
            have hbq : Below B1 w1 (wr.drewN q) := below_drewN hbw q
            have hba := hbq.alloc (by simpa using hws) (.cells #[.string next] 9)
            have hOa := (hOwn.drewN q).alloc (.cells #[.string next] 9)
            obtain ⟨va', vc', w6, hap, hO6, hg6⟩ := Own.app elemStr 31 hOa (by simp; omega) (some ⟨wr.heap.size, 0, none⟩) 1 1 wr.heap.size 0 [.string next] (by simp) (fun _ => rfl)
              (by intro j u hj; cases j with
                  | zero => injection hj with hj; subst hj; first | (simp [World.cell?, World.alloc]; done) | (rw [show wr.heap.size = (wr.drewN q).heap.size from by simp]; go_simp)
                  | succ j => simp at hj) (by intro u hu; simp at hu; subst hu; rfl) (by unfold maxLen; omega) (by omega)
            have hb6 : Below B1 w1 w6 := hba.grown hg6 (by simp; omega) (fun j hj => by
              cases va with
              | none => cases hj
              | some x =>
                injection hj with hj; subst hj
                rcases hOwn.block with ⟨h1, -⟩ | ⟨x', h1, h2, -⟩
                · cases h1
                · cases h1; exact h2)
            have hs6 := hg6.size
            have HAP := Lib.hid hap
            have HM6 := Lib.hid (And.intro hO6 hb6)
            clear hne hap hO6 hb6 hg6 hOa hba hbq
            go_wp2_with (at_builtin; refine wpList_append_run rfl _ _ _ rfl rfl rfl HAP.out ?_)
            go_roundg g'
            case measure => omega
            case rel =>
              obtain ⟨hO6, hb6⟩ := HM6.out
              refine ⟨out ++ [next], va', vc', N + 1, rfl, ?_, by omega, by omega, HMO, by rw [List.map_append]; exact hO6, hb6, by simp at hs6; omega⟩
              show _ = _
              simp [hN.out]
  · have cC2 := cC.mono (R' := fun e w' => Below w.heap.size w w' ∧ e = .returned (.tuple #[.slice none 0 0, .int .i64 (closedE l names)])) (by
      rintro e w' ⟨hb, ⟨-, h1⟩ | ⟨h2, -⟩⟩
      · exact ⟨hb, h1⟩
      · exact absurd h2 he)
    have hne : (closedE l names != 0) = true := by simpa using he
    have hcl : ClosedTo l names [] := ⟨fun _ => rfl, fun h => absurd h he⟩
    have HF := Lib.hid hcl
    clear cC hcl he
    generalize closedE l names = x at *
    go_enter Tryd.func16, Tryd.ntmps16
    go_wp2_with (go_at_call 30; refine cC2.mono ?_; rintro e w1 ⟨hb, rfl⟩)
    go_ret2
    exact ⟨none, 0, [], rfl, Own.nil _ _ _ _, HF.out, hb⟩
end Go.Proofs.YtkiepajhakoeiaaDoor
