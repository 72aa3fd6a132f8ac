/- roles.closed's walk. -/
import Derived.Test.YtkiepajhakoeiaaDoorRolesClosed0
import Derived.Test.YtkiepajhakoeiaaDoorShelf
import Derived.Deep.LoopGhost
namespace Go.Proofs.YtkiepajhakoeiaaDoor
open Go.RowKit

theorem elemStr : Elem Tryd.prog 31 9 1 16 := ⟨Tryd.underlying31, ⟨.string ⟨#[]⟩, by kernel_rfl, rfl⟩, by omega, Tryd.sizeOf9⟩

theorem getD_strs {xs : List ByteArray} {w : World} {b off : Nat} (h : ∀ j (hj : j < xs.length), w.cell? ⟨b, off + j, none⟩ = some (.string xs[j])) :
    ∀ j, j < xs.length → w.cell? ⟨b, off + j, none⟩ = some (.string (xs.getD j ByteArray.empty)) := by
  intro j hj
  rw [h j hj, List.getD_eq_getElem?_getD, List.getElem?_eq_getElem hj]; rfl

/-- slices.Clone of texts -/
theorem cloneStrs (v : Value) (xs : List ByteArray) (w : World) (hl : xs.length ≤ 1048576) (h : Strs w.heap.size w v xs) :
    Calls Tryd.prog 40 #[v] w fun e w' => ∃ va vc, e = .returned (.slice va xs.length vc) ∧ Own w' w.heap.size 9 1 va vc xs.length (xs.map Value.string) ∧ Below w.heap.size w w' := by
  obtain ⟨a, c, b, o, rfl, hle, ha, hc⟩ := h.cells
  have fin : ∀ (v' : Value) (w' : World), w'.ownsRow w.heap.size 9 1 v' xs.length (xs.map Value.string) → ∃ va vc, v' = .slice va xs.length vc ∧ Own w' w.heap.size 9 1 va vc xs.length (xs.map Value.string) := by
    intro v' w' hr
    rcases hr.2 with ⟨hv, h0⟩ | ⟨g, cap, _, hv, _⟩
    · exact ⟨none, 0, by rw [hv, h0], ⟨by rw [h0] at hr ⊢; rw [hv] at hr; exact hr⟩⟩
    · exact ⟨_, _, hv, ⟨by rw [hv] at hr; exact hr⟩⟩
  by_cases h0 : 0 < xs.length
  · obtain ⟨rfl, hb⟩ := ha h0
    refine (Tryd.slices_Clone_string b o xs.length c xs w (Nat.le_refl _) (by omega) (getD_strs hc)).mono ?_
    rintro e w' ⟨v', rfl, hr, -, hbw⟩
    rw [List.take_length] at hr
    obtain ⟨va, vc, rfl, hO⟩ := fin v' w' hr
    exact ⟨va, vc, rfl, hO, hbw⟩
  · have : xs = [] := List.eq_nil_of_length_eq_zero (by omega)
    subst this
    cases a with
    | none =>
      refine (Tryd.slices_Clone_string_nil 0 c w).mono ?_
      rintro e w' ⟨rfl, rfl⟩
      exact ⟨none, 0, rfl, Own.nil _ _ _ _, Below.refl _ _⟩
    | some a =>
      refine (Tryd.slices_Clone_string_zero a c w).mono ?_
      rintro e w' ⟨v', rfl, hr, -, hbw⟩
      obtain ⟨va, vc, rfl, hO⟩ := fin v' w' hr
      exact ⟨va, vc, rfl, hO, hbw⟩

def closedE (l : List Rl) (names : List ByteArray) : Int := if chkP l ≠ 0 then chkP l else if 1024 < names.length then 4 else 0

theorem nodup_byName {l : List Rl} (h : chkP l = 0) : byNameL l = l ∧ (l.map Rl.name).Nodup ∧ l.length ≤ 32 ∧ ∀ r ∈ l, okRole l r = true := by
  unfold chkP at h
  split at h
  · cases h
  rename_i h1
  split at h
  · cases h
  rename_i h2
  split at h
  · rename_i h3
    have key : ∀ (l acc : List Rl), (l.foldl putR acc).length ≤ acc.length + l.length ∧ ((l.foldl putR acc).length = acc.length + l.length → (acc.map Rl.name).Nodup → l.foldl putR acc = acc ++ l ∧ ((acc ++ l).map Rl.name).Nodup) := by
      intro l
      induction l with
      | nil => intro acc; simp
      | cons r l ih =>
        intro acc
        obtain ⟨i1, i2⟩ := ih (putR acc r)
        have hp := putR_length acc r
        simp only [List.foldl_cons, List.length_cons]
        refine ⟨by omega, fun he hn => ?_⟩
        cases hf : findR acc r.name with
        | none =>
          rw [putR_none hf] at i1 i2 he ⊢
          have hn2 : ((acc ++ [r]).map Rl.name).Nodup := by
            rw [List.map_append, List.nodup_append]
            refine ⟨hn, by simp, fun a ha c hc => ?_⟩
            simp at hc
            obtain ⟨x, hx, rfl⟩ := List.mem_map.1 ha
            rw [hc]
            exact findR_none hf x hx
          have := i2 (by simp at he ⊢; omega) hn2
          simpa using this
        | some r0 =>
          exfalso
          have hl : (putR acc r).length = acc.length := by
            have h5 : ∀ acc : List Rl, findR acc r.name = some r0 → (putR acc r).length = acc.length := by
              intro acc
              induction acc with
              | nil => intro h; cases h
              | cons x acc ih2 =>
                intro h
                simp only [findR] at h
                simp only [putR]
                split
                · simp
                · rename_i hne
                  rw [if_neg hne] at h
                  simp [ih2 h]
            exact h5 acc hf
          omega
    obtain ⟨k1, k2⟩ := key l []
    have := k2 (by unfold byNameL at h2; simp at k1 ⊢; omega) (by simp)
    simp only [List.nil_append] at this
    have e : byNameL l = l := this.1
    rw [e] at h3
    exact ⟨e, this.2, by omega, fun r hr => List.all_eq_true.1 h3 r hr⟩
  · cases h

set_option maxHeartbeats 8000000 in
set_option maxRecDepth 100000 in
theorem roles_closed (v vn : Value) (l : List Rl) (names : List ByteArray) (w : World) (h : Rls w.heap.size w v l) (hl : l.length ≤ maxLen) (hn : Strs w.heap.size w vn names) (hnl : names.length ≤ maxLen) (hns : ∀ s ∈ names, s.size ≤ maxLen) :
    Calls Tryd.prog 27 #[v, vn] w fun e w' => Below w.heap.size w w' ∧ ((closedE l names ≠ 0 ∧ e = .returned (.tuple #[.map none, .int .i64 (closedE l names)])) ∨
      (closedE l names = 0 ∧ ∃ out b, e = .returned (.tuple #[.map (some b), .int .i64 0]) ∧ w.heap.size ≤ b ∧ MapIs w' b (entsR out) ∧ (out.map Rl.name).Nodup ∧ ∀ r, r ∈ out ↔ Reach l names r)) := by
  have cC := roles_Check v l w h hl
  have cB := fun W (hb : Below w.heap.size w W) => roles_byName v l W ((Rls.below h hb).mono hb.size) hl
  obtain ⟨a, c, b, o, rfl, hle, hC⟩ := h.cells
  obtain ⟨an, cn, bn, on, rfl, hlen, han, hcn⟩ := hn.cells
  unfold maxLen at hnl
  by_cases hk : chkP l = 0
  · obtain ⟨hM, hnd, h32, hok⟩ := nodup_byName hk
    rw [hM] at cB
    rw [hk] at cC
    by_cases h1024 : 1024 < names.length
    · have e1 : closedE l names = 4 := by simp [closedE, hk, h1024]
      rw [e1]
      have g : decide (1024 < (names.length : Int)) = true := decide_eq_true (by omega)
      clear hC hcn han h hn cB e1
      go_enter Tryd.func27, Tryd.ntmps27
      go_wp2_with (go_at_call 19; refine cC.mono ?_; rintro e w1 ⟨rfl, hb⟩)
      go_ret2
      exact ⟨hb, .inl ⟨by decide, rfl⟩⟩
    have e1 : closedE l names = 0 := by simp [closedE, hk, h1024]
    rw [e1]
    have g : decide (1024 < (names.length : Int)) = false := decide_eq_false (by omega)
    have cK := fun W (hb : Below w.heap.size w W) => cloneStrs _ names W (by omega) ((Strs.below hn hb).mono hb.size)
    have HC := Lib.hid hC
    have HN := Lib.hid hns
    have HD := Lib.hid hnd
    have HO := Lib.hid hok
    have hmm := @run_makeMap Tryd.prog
    clear hC hcn han h hn e1 hns hok hnd hM
    go_enter Tryd.func27, Tryd.ntmps27
    go_wp2_with (go_at_call 19; refine cC.mono ?_; rintro e w1 ⟨rfl, hb⟩)
    refine (cB _ hb).mono ?_
    rintro e w2 ⟨mb, rfl, hmb, hMI, hb2⟩
    have hbw2 : Below w.heap.size w w2 := hb.trans (hb2.mono hb.size)
    clear hb hb2 cC cB
    go_wp2_with fail
    refine (cK _ (hbw2.alloc hbw2.size _)).mono ?_
    rintro e w3 ⟨va, vc, rfl, hOwn, hb3⟩
    have hMA : MapIs w3 mb (entsR l) := (hMI.alloc _).below hb3 (by have := hMI.lt; simp; omega)
    have hMO : MapIs w3 w2.heap.size (entsR []) := (MapIs.made w2).below hb3 (by simp)
    have hbw3 : Below w.heap.size w w3 := (hbw2.alloc hbw2.size _).trans (hb3.mono (by have := hbw2.size; simp; omega))
    have hmbl := hMI.lt
    have hB0 : (w2.alloc (.map #[] 0)).heap.size = w2.heap.size + 1 := by simp
    rw [hB0] at hOwn
    have hw2s := hbw2.size
    have hw3s : w2.heap.size + 1 ≤ w3.heap.size := by have := hb3.size; simp at this; omega
    clear hb3 hbw2 hMI hB0 cK
    generalize hB1 : w2.heap.size = B1 at *
    clear hB1
    go_wp2
    go_loopg [9] 2080 (fun gf t wr => ∃ (out : List Rl) (todo : List ByteArray) (va : Option Addr) (vc N : Nat), t = .slice va N vc ∧ Hid (N = todo.length) ∧ N + 33 * (32 - out.length) ≤ gf ∧ N ≤ 2048 ∧ Hid (Work l names out todo) ∧ MapIs wr mb (entsR l) ∧ MapIs wr B1 (entsR out) ∧ Own wr (B1 + 1) 9 1 va vc N (todo.map Value.string) ∧ Below w.heap.size w wr ∧ B1 + 1 ≤ wr.heap.size)
    case atStart => exact ⟨[], names, va, vc, names.length, rfl, rfl, by simp; omega, by omega, Work.begin l names, hMA, hMO, hOwn, hbw3, hw3s⟩
    case round =>
      obtain ⟨out, todo, va, vc, N, rfl, hN, hgf, hNle, hW, hMA, hMO, hOwn, hbw, hws⟩ := hrel
      by_cases hN0 : 0 < N
      · obtain ⟨m, rfl⟩ : ∃ m, N = m + 1 := ⟨N - 1, by omega⟩
        obtain ⟨g', rfl⟩ : ∃ g', gk = g' + 1 := ⟨gk - 1, by omega⟩
        obtain ⟨g, rfl, hg1, hg2, hcell, -⟩ := hOwn.cell (by omega)
        obtain ⟨rest, n, hrn⟩ : ∃ rest n, todo = rest ++ [n] := ⟨todo.dropLast, todo.getLast (by intro h; have := hN.out; simp [h] at this), (List.dropLast_concat_getLast _).symm⟩
        have hrl : rest.length = m := by have := hN.out; rw [hrn] at this; simp at this; omega
        have x0 := hcell m (.string n) (by rw [hrn, List.map_append, List.getElem?_append_right (by simp [hrl])]; simp [hrl])
        have hOwn2 : Own wr (B1 + 1) 9 1 (some ⟨g, 0, none⟩) vc m (rest.map Value.string) := Own.pop (last := [.string n]) (by simp [hrl]) (by rw [hrn, List.map_append] at hOwn; exact hOwn)
        have hsz : n.size ≤ maxLen := by
          rcases hW.out.from' n (by simp [hrn]) with h1 | ⟨r0, h1, h2⟩
          · exact HN.out n h1
          · obtain ⟨i, hi, hir⟩ := List.mem_iff_getElem.1 (hW.out.sub r0 h1)
            exact (HC.out.ok i hi).holds n (by rw [hir]; exact h2)
        have hcap : m ≤ vc := hOwn2.cap.1
        have hend : ∀ W : World, Below wr.heap.size wr W → Below w.heap.size w W := fun W h => hbw.trans (h.mono hbw.size)
        have Hend := Lib.hid hend
        clear hend
        have Hsz := Lib.hid hsz
        have Hrl := Lib.hid hrl
        have Hrn := Lib.hid hrn
        clear hcell hrl hrn hOwn hsz hN
        have hlk := hMA.lookup Tryd.underlying57 Tryd.underlying9 zeroRole Hsz.out
        rw [getM_entsR] at hlk
        cases hf : findR l n with
        | none =>
          have Hf := Lib.hid hf
          simp only [hf, Option.map_none, Option.getD_none, Option.isSome_none] at hlk
          have hlk2 := (hMO.alloc (.cells #[.string ⟨#[]⟩, .slice none 0 0, .slice none 0 0] 39)).lookup Tryd.underlying57 Tryd.underlying9 zeroRole Hsz.out
          rw [getM_entsR] at hlk2
          clear hf
          cases hf2 : findR out n with
          | none =>
            simp only [hf2, Option.map_none, Option.getD_none, Option.isSome_none] at hlk2
            clear hf2
            have HSK := Lib.hid (show findR l n = none ∨ (findR out n).isSome = true from .inl Hf.out)
            go_wp2
            go_roundg g'
            case measure => omega
            case rel =>
              refine ⟨out, rest, some ⟨g, 0, none⟩, vc, m, rfl, Hrl.out.symm, by omega, by omega, Work.skip (by rw [← Hrn.out]; exact hW.out) HSK.out HD.out, (hMA.alloc _).alloc _, (hMO.alloc _).alloc _, (hOwn2.alloc _).alloc _, Hend.out _ (((Below.refl _ _).alloc (Nat.le_refl _) _).alloc (by simp) _), by simp; omega⟩
          | some r2 =>
            simp only [hf2, Option.map_some, Option.getD_some, Option.isSome_some, Rl.val] at hlk2
            clear hf2
            have HSK := Lib.hid (show findR l n = none ∨ (findR out n).isSome = true from .inl Hf.out)
            go_wp2
            go_roundg g'
            case measure => omega
            case rel =>
              refine ⟨out, rest, some ⟨g, 0, none⟩, vc, m, rfl, Hrl.out.symm, by omega, by omega, Work.skip (by rw [← Hrn.out]; exact hW.out) HSK.out HD.out, (hMA.alloc _).alloc _, (hMO.alloc _).alloc _, (hOwn2.alloc _).alloc _, Hend.out _ (((Below.refl _ _).alloc (Nat.le_refl _) _).alloc (by simp) _), by simp; omega⟩
        | some r =>
          have Hf := Lib.hid hf
          simp only [hf, Option.map_some, Option.getD_some, Option.isSome_some, Rl.val] at hlk
          have hlk2 := (hMO.alloc (.cells #[.string r.name, .slice r.ha r.holds.length r.hc, .slice r.ma r.may.length r.mc] 39)).lookup Tryd.underlying57 Tryd.underlying9 zeroRole Hsz.out
          rw [getM_entsR] at hlk2
          clear hf
          cases hf2 : findR out n with
          | some r2 =>
            have HSK := Lib.hid (show findR l n = none ∨ (findR out n).isSome = true from .inr (by rw [hf2]; rfl))
            simp only [hf2, Option.map_some, Option.getD_some, Option.isSome_some, Rl.val] at hlk2
            clear hf2
            go_wp2
            go_roundg g'
            case measure => omega
            case rel =>
              refine ⟨out, rest, some ⟨g, 0, none⟩, vc, m, rfl, Hrl.out.symm, by omega, by omega, Work.skip (by rw [← Hrn.out]; exact hW.out) HSK.out HD.out, (hMA.alloc _).alloc _, (hMO.alloc _).alloc _, (hOwn2.alloc _).alloc _, Hend.out _ (((Below.refl _ _).alloc (Nat.le_refl _) _).alloc (by simp) _), by simp; omega⟩
          | none =>
            have HSK := Lib.hid hf2
            simp only [hf2, Option.map_none, Option.getD_none, Option.isSome_none] at hlk2
            clear hf2
            obtain ⟨hrname, hrmem⟩ := findR_name Hf.out
            obtain ⟨ix, hix, hixr⟩ := List.mem_iff_getElem.1 hrmem
            have hS := HC.out.hs ix hix
            rw [hixr] at hS
            obtain ⟨ah, ch, bh, oh, hve, -, hah, hch⟩ := hS.cells
            injection hve with hva hvn hvc
            subst hva
            clear hvn hvc hS hixr
            have hr32 : r.holds.length ≤ 32 := by
              have := HO.out r hrmem
              simp only [okRole, Bool.and_eq_true, decide_eq_true_eq] at this
              exact this.1.1.1.2
            have hA1 := Below.alloc (Below.refl wr.heap.size wr) (Nat.le_refl _) (.cells #[.string r.name, .slice r.ha r.holds.length r.hc, .slice r.ma r.may.length r.mc] 39)
            have hA2 := hA1.alloc (by simp) (.cells #[.string ⟨#[]⟩, .slice none 0 0, .slice none 0 0] 39)
            have y0 : ((wr.alloc (.cells #[.string r.name, .slice r.ha r.holds.length r.hc, .slice r.ma r.may.length r.mc] 39)).alloc (.cells #[.string ⟨#[]⟩, .slice none 0 0, .slice none 0 0] 39)).cell? ⟨wr.heap.size, 1, none⟩ = some (.slice r.ha r.holds.length r.hc) := by go_simp
            obtain ⟨w5, hu, hM5, hg5, hz5⟩ := ((hMO.alloc (.cells #[.string r.name, .slice r.ha r.holds.length r.hc, .slice r.ma r.may.length r.mc] 39)).alloc (.cells #[.string ⟨#[]⟩, .slice none 0 0, .slice none 0 0] 39)).update Tryd.underlying57 Tryd.underlying9 Hsz.out r.val
            have hM5' : MapIs w5 B1 (entsR (out ++ [r])) := by
              have e9 : putR out r = out ++ [r] := putR_none (by rw [hrname]; exact HSK.out)
              rw [← e9, ← putM_entsR, hrname]; exact hM5
            have y1 := hg5.cell y0 (by simp; omega)
            have hO5 := ((hOwn2.alloc (.cells #[.string r.name, .slice r.ha r.holds.length r.hc, .slice r.ma r.may.length r.mc] 39)).alloc (.cells #[.string ⟨#[]⟩, .slice none 0 0, .slice none 0 0] 39)).grown hg5 (fun g' hg' => by simp at hg'; subst hg'; simp; omega)
            have hMA5 : MapIs w5 mb (entsR l) := ((hMA.alloc _).alloc _).kept (hg5.block mb (by have := hMA.lt; simp; omega) (by simp; omega))
            have hb5 : Below w.heap.size w w5 := (Hend.out _ hA2).grown hg5 (by have := hbw.size; simp; omega) (fun j hj => by cases hj; omega)
            have hs5 : wr.heap.size + 2 = w5.heap.size := by rw [hz5]; simp
            have hz6 : ∀ j u, (r.holds.map Value.string)[j]? = some u → w5.cell? ⟨bh, oh + j, none⟩ = some u := by
              intro j u hj
              have hjl : j < r.holds.length := by
                rcases Nat.lt_or_ge j r.holds.length with h | h
                · exact h
                · rw [List.getElem?_eq_none (by simpa using h)] at hj; cases hj
              rw [hb5.cell (p := ⟨bh, oh + j, none⟩) (hah (by omega)).2, hch j hjl, ← hj]
              simp [hjl]
            obtain ⟨va', vc', w6, hap, hO6, hg6⟩ := Own.app elemStr 31 hO5 (by omega) r.ha r.holds.length r.hc bh oh (r.holds.map Value.string) (by simp) (fun h => (hah h).1) hz6 (by intro u hu; obtain ⟨s, -, rfl⟩ := List.mem_map.1 hu; rfl) (by unfold maxLen; omega) (by omega)
            have hMA6 : MapIs w6 mb (entsR l) := hMA5.kept (hg6.block mb (by have := hMA5.lt; omega) (by simp [blockOf]; omega))
            have hMO6 : MapIs w6 B1 (entsR (out ++ [r])) := hM5'.kept (hg6.block B1 (by have := hM5'.lt; omega) (by simp [blockOf]; omega))
            have hb6 : Below w.heap.size w w6 := hb5.grown hg6 (by have := hbw.size; omega) (fun j hj => by simp [blockOf] at hj; have := hbw.size; omega)
            have hs6 := hg6.size
            have HW6 := Lib.hid (Work.add (by rw [← Hrn.out]; exact hW.out) Hf.out HSK.out hr32)
            have hcount := HW6.out.count
            have hsize := HW6.out.size
            simp only [List.length_append, List.length_singleton, Hrl.out] at hcount hsize
            simp only [Rl.val] at hu
            have HM6 := Lib.hid (And.intro hO6 (And.intro hMA6 (And.intro hMO6 hb6)))
            clear hM5 hM5' hg5 hg6 hO5 hMA5 hb5 hz6 hch hah hMA6 hMO6 hb6 hO6 hA1 hA2 y0 hrname
            have HAP := Lib.hid hap; clear hap
            go_wp2_with (at_builtin; refine wpList_append_run rfl _ _ _ rfl rfl rfl HAP.out ?_)
            go_roundg g'
            case measure => omega
            case rel =>
              obtain ⟨hO6, hMA6, hMO6, hb6⟩ := HM6.out
              refine ⟨out ++ [r], rest ++ r.holds, va', vc', m + r.holds.length, rfl, ?_, ?_, ?_, HW6, hMA6, hMO6, by rw [List.map_append]; exact hO6, hb6, by omega⟩
              · show _ = _
                simp [Hrl.out]
              · simp; omega
              · omega
      · have ht : todo = [] := List.eq_nil_of_length_eq_zero (by have := hN.out; omega)
        subst ht
        have hfin := hW.out.done
        go_wp2
        go_ret2
        exact ⟨hbw, .inr ⟨by simp, out, B1, rfl, by have := hw2s; omega, hMO, hW.out.nodup, hfin⟩⟩
  · have e1 : closedE l names = chkP l := by simp [closedE, hk]
    have e2 : closedE l names ≠ 0 := by rw [e1]; exact hk
    rw [e1] at e2 ⊢
    generalize chkP l = x at *
    have hx : (x != 0) = true := by simpa using hk
    clear hC hcn han h hn cB e1
    go_enter Tryd.func27, Tryd.ntmps27
    go_wp2_with (go_at_call 19; refine cC.mono ?_; rintro e w1 ⟨rfl, hb⟩)
    go_ret2
    exact ⟨hb, .inl ⟨e2, rfl⟩⟩
end Go.Proofs.YtkiepajhakoeiaaDoor
