/- roles.Closed and roles.May. -/
import Derived.Test.YtkiepajhakoeiaaDoorRolesClosed
import Derived.Test.YtkiepajhakoeiaaDoorSorted
import Derived.Test.YtkiepajhakoeiaaDoorIter
import Derived.Deep.DeepMust
namespace Go.Proofs.YtkiepajhakoeiaaDoor
open Go.RowKit

/-- what names come to, told: rising; nothing beside an error -/
def ClosedTo (l : List Rl) (names ns : List ByteArray) : Prop := (closedE l names ≠ 0 → ns = []) ∧ (closedE l names = 0 → Rising ns ∧ ∀ n, n ∈ ns ↔ ∃ r, Reach l names r ∧ r.name = n)

theorem keysOf (mb : Option Nat) (W : World) : Calls Tryd.prog 29 #[.map mb] W fun e w' => e = .returned (.func (.func 43) #[] #[.pointer (some ⟨W.heap.size, 0, none⟩)]) ∧ w' = W.alloc (.cells #[.map mb] 57) :=
  callsIn_wide.1 (Tryd.maps_Keys_29 mb W)

/-- slices.Sorted of a map's keys -/
theorem sortedKeys (b : Nat) (ents : Ents) (w : World) (h : MapIs w b ents) (hl : ents.length ≤ 1048576) :
    Calls Tryd.prog 28 #[.func (.func 43) #[] #[.pointer (some ⟨w.heap.size, 0, none⟩)]] (w.alloc (.cells #[.map (some b)] 57)) fun e w' =>
      ∃ va vc ns, e = .returned (.slice va ns.length vc) ∧ Own w' (w.heap.size + 1) 9 1 va vc ns.length (ns.map Value.string) ∧ Rising ns ∧ (∀ n, n ∈ ns ↔ ∃ x ∈ ents, x.1 = n) ∧ Below (w.heap.size + 1) (w.alloc (.cells #[.map (some b)] 57)) w' := by
  have hown := h.owns Tryd.underlying9 (by unfold maxLen; omega)
  have hc := callsIn_wide.1 (Tryd.slices_Sorted_keys_28_29 b ents.length _ anyR w hown (by rw [mapD_size]; unfold maxLen; omega) (by rw [mapD_size]; omega))
  refine hc.mono ?_
  rintro e w' ⟨v, ss, rfl, hperm, hrow, -, hb⟩
  have hp : ss.Perm (ents.map fun x => x.1.data.toList) := hperm.trans (mapD_keys Tryd.underlying9 h.short)
  have hnd : ss.Nodup := by
    refine hp.nodup_iff.2 ?_
    have e : (ents.map fun x => x.1.data.toList) = (ents.map (·.1)).map fun k => k.data.toList := by simp
    rw [e]
    refine List.Pairwise.map _ (fun a c hac he => hac ?_) h.nodup
    cases a; cases c; simp at he; simp [he]
  rw [asTexts_cells] at hrow
  have hlen : (asTexts ss).length = ss.length := by simp [asTexts]
  have hsz : (w.alloc (.cells #[.map (some b)] 57)).heap.size = w.heap.size + 1 := by simp
  rw [hsz, ← hlen] at hrow
  rw [hsz] at hb
  have hv : ∃ va vc, v = .slice va (asTexts ss).length vc := by
    rcases hrow.2 with ⟨hv, h0⟩ | ⟨g, cap, _, hv, _⟩
    · exact ⟨none, 0, by rw [hv, h0]⟩
    · exact ⟨_, _, hv⟩
  obtain ⟨va, vc, rfl⟩ := hv
  refine ⟨va, vc, asTexts ss, rfl, ⟨hrow⟩, asTexts_rising hnd, fun n => ?_, hb⟩
  rw [asTexts_mem, hp.mem_iff, List.mem_map]
  constructor
  · rintro ⟨x, hx, he⟩
    refine ⟨x, hx, ?_⟩
    obtain ⟨⟨⟨l⟩⟩, u⟩ := x
    obtain ⟨⟨m⟩⟩ := n
    simp at he; simp [he]
  · rintro ⟨x, hx, rfl⟩
    exact ⟨x, hx, rfl⟩

set_option maxHeartbeats 2000000 in
set_option maxRecDepth 100000 in
theorem roles_Closed (v vn : Value) (l : List Rl) (names : List ByteArray) (w : World) (h : Rls w.heap.size w v l) (hl : l.length ≤ maxLen) (hn : Strs w.heap.size w vn names) (hnl : names.length ≤ maxLen) (hns : ∀ s ∈ names, s.size ≤ maxLen) :
    Calls Tryd.prog 13 #[v, vn] w fun e w' => ∃ va vc ns, e = .returned (.tuple #[.slice va ns.length vc, .int .i64 (closedE l names)]) ∧ Own w' w.heap.size 9 1 va vc ns.length (ns.map Value.string) ∧ ClosedTo l names ns ∧ Below w.heap.size w w' := by
  have cC := roles_closed v vn l names w h hl hn hnl hns
  obtain ⟨a, c, b, o, rfl, hle, -⟩ := h.cells
  obtain ⟨an, cn, bn, on, rfl, hlen, -, -⟩ := hn.cells
  clear h hn
  by_cases he : closedE l names = 0
  · have cC2 := cC.mono (R' := fun e w' => Below w.heap.size w w' ∧ ∃ out b, e = .returned (.tuple #[.map (some b), .int .i64 0]) ∧ w.heap.size ≤ b ∧ MapIs w' b (entsR out) ∧ (out.map Rl.name).Nodup ∧ ∀ r, r ∈ out ↔ Reach l names r) (by
      rintro e w' ⟨hb, ⟨h1, -⟩ | ⟨-, h2⟩⟩
      · exact absurd he h1
      · exact ⟨hb, h2⟩)
    rw [he]
    clear cC
    have hcount : ∀ out : List Rl, (out.map Rl.name).Nodup → (∀ r, r ∈ out ↔ Reach l names r) → out.length ≤ 32 := by
      intro out h1 h2
      have hk : chkP l = 0 := by
        unfold closedE at he
        split at he
        · assumption
        · rename_i hne; simpa using hne
      obtain ⟨-, h3, h4, -⟩ := nodup_byName hk
      have h5 : (out.map Rl.name).length ≤ (l.map Rl.name).length := by
        refine nodup_len _ _ h1 fun x hx => ?_
        obtain ⟨r, hr, rfl⟩ := List.mem_map.1 hx
        have : Reach l names r := (h2 r).1 hr
        refine List.mem_map_of_mem ?_
        cases this with
        | start _ h => exact (findR_name h).2
        | more _ _ h => exact (findR_name h).2
      simp at h5; omega
    have Hcount := Lib.hid hcount
    have HE := Lib.hid he
    clear hcount he
    go_enter Tryd.func13, Tryd.ntmps13
    go_wp2_with (go_at_call 27; refine cC2.mono ?_; rintro e w1 ⟨hb, out, mb, rfl, hmb, hM, hnd, hout⟩)
    refine (keysOf _ _).mono ?_
    rintro e w2 ⟨rfl, rfl⟩
    go_wp2_with fail
    refine (sortedKeys mb _ w1 hM (by simp only [entsR, List.length_map]; have := Hcount.out out hnd hout; omega)).mono ?_
    rintro e w3 ⟨va, vc, ns, rfl, hO, hris, hmem, hb3⟩
    have hOk := hO.base_le (b2 := w.heap.size) (by have := hb.size; omega)
    have hfin : Below w.heap.size w w3 := (hb.alloc hb.size _).trans (hb3.mono (by have := hb.size; omega))
    have hcl : ClosedTo l names ns := ⟨fun h => absurd HE.out h, fun _ => ⟨hris, fun n => by
      rw [hmem]
      constructor
      · rintro ⟨x, hx, rfl⟩
        obtain ⟨r, hr, rfl⟩ := List.mem_map.1 hx
        exact ⟨r, (hout r).1 hr, rfl⟩
      · rintro ⟨r, hr, rfl⟩
        exact ⟨(r.name, r.val), List.mem_map.2 ⟨r, (hout r).2 hr, rfl⟩, rfl⟩⟩⟩
    have HF := Lib.hid (And.intro hOk (And.intro hcl hfin))
    clear hO hris hmem hb3 hOk hcl hfin hout hnd hM
    go_wp2
    go_ret2
    obtain ⟨h1, h2, h3⟩ := HF.out
    exact ⟨va, vc, ns, rfl, h1, h2, h3⟩
  · have cC2 := cC.mono (R' := fun e w' => Below w.heap.size w w' ∧ e = .returned (.tuple #[.map none, .int .i64 (closedE l names)])) (by
      rintro e w' ⟨hb, ⟨-, h1⟩ | ⟨h2, -⟩⟩
      · exact ⟨hb, h1⟩
      · exact absurd h2 he)
    have hne : (closedE l names != 0) = true := by simpa using he
    have hcl : ClosedTo l names [] := ⟨fun _ => rfl, fun h => absurd h he⟩
    have HF := Lib.hid hcl
    clear cC hcl he
    generalize closedE l names = x at *
    go_enter Tryd.func13, Tryd.ntmps13
    go_wp2_with (go_at_call 27; refine cC2.mono ?_; rintro e w1 ⟨hb, rfl⟩)
    go_ret2
    exact ⟨none, 0, [], rfl, Own.nil _ _ _ _, HF.out, hb⟩

/-- slices.Contains of texts -/
theorem containsStrs (B : Nat) (v : Value) (xs : List ByteArray) (x : ByteArray) (w : World) (hl : xs.length ≤ 9223372036854775807) (h : Strs B w v xs) :
    Calls Tryd.prog 31 #[v, .string x] w fun e w' => e = .returned (.bool (Lib.containsS xs x)) ∧ w' = w := by
  obtain ⟨a, c, b, o, rfl, hle, ha, hc⟩ := h.cells
  by_cases h0 : 0 < xs.length
  · obtain ⟨rfl, hb⟩ := ha h0
    refine (Tryd.slices_Contains_string b o xs.length c xs x w (Nat.le_refl _) hl (getD_strs hc)).mono ?_
    rintro e w' ⟨rfl, rfl⟩
    exact ⟨by rw [List.take_length], rfl⟩
  · have : xs = [] := List.eq_nil_of_length_eq_zero (by omega)
    subst this
    refine (Tryd.slices_Contains_string_empty a c x w).mono ?_
    rintro e w' ⟨rfl, rfl⟩
    refine ⟨ret_bool ?_, rfl⟩
    cases hcs : Lib.containsS [] x
    · rfl
    · have := (Lib.containsS_iff [] x).1 hcs; cases this

def mayE (l : List Rl) (names : List ByteArray) (deed : ByteArray) : Int := if closedE l names ≠ 0 then closedE l names else if named deed.data.toList then 0 else 5
def MayIs (l : List Rl) (names : List ByteArray) (deed : ByteArray) (bo : Bool) : Prop := bo = true ↔ mayE l names deed = 0 ∧ ∃ r, Reach l names r ∧ deed ∈ r.may

set_option maxHeartbeats 2000000 in
set_option maxRecDepth 100000 in
theorem roles_May (v vn : Value) (l : List Rl) (names : List ByteArray) (deed : ByteArray) (w : World) (h : Rls w.heap.size w v l) (hl : l.length ≤ maxLen) (hn : Strs w.heap.size w vn names) (hnl : names.length ≤ maxLen) (hns : ∀ s ∈ names, s.size ≤ maxLen) (hd : deed.size ≤ maxLen) :
    Calls Tryd.prog 17 #[v, vn, .string deed] w fun e w' => ∃ bo, e = .returned (.tuple #[.bool bo, .int .i64 (mayE l names deed)]) ∧ MayIs l names deed bo ∧ Below w.heap.size w w' := by
  have cC := roles_closed v vn l names w h hl hn hnl hns
  obtain ⟨a, c, b, o, rfl, hle, hC⟩ := h.cells
  obtain ⟨an, cn, bn, on, rfl, hlen, -, -⟩ := hn.cells
  have HC := Lib.hid hC
  have cN := fun W => roles_named deed W hd
  clear h hn hC
  by_cases he : closedE l names = 0
  · have cC2 := cC.mono (R' := fun e w' => Below w.heap.size w w' ∧ ∃ out b, e = .returned (.tuple #[.map (some b), .int .i64 0]) ∧ w.heap.size ≤ b ∧ MapIs w' b (entsR out) ∧ (out.map Rl.name).Nodup ∧ ∀ r, r ∈ out ↔ Reach l names r) (by
      rintro e w' ⟨hb, ⟨h1, -⟩ | ⟨-, h2⟩⟩
      · exact absurd he h1
      · exact ⟨hb, h2⟩)
    clear cC
    cases hnm : named deed.data.toList
    · have hE : mayE l names deed = 5 := by simp [mayE, he, hnm]
      have hF : MayIs l names deed false := by simp [MayIs, hE]
      rw [hE]
      simp only [hnm] at cN
      have HF := Lib.hid hF
      clear he hnm hE hF
      go_enter Tryd.func17, Tryd.ntmps17
      go_wp2_with (first | (go_at_call 27; refine cC2.mono ?_; rintro e w1 ⟨hb, out, mb, rfl, hmb, hM, hnd, hout⟩) | (go_at_call 22; refine (cN _).mono ?_; rintro e w2 ⟨rfl, hb2⟩))
      go_ret2
      exact ⟨false, rfl, HF.out, hb.trans (hb2.mono hb.size)⟩
    · have hE : mayE l names deed = 0 := by simp [mayE, he, hnm]
      obtain ⟨E, hEE⟩ : ∃ E, mayE l names deed = E := ⟨_, rfl⟩
      have HE := Lib.hid hE
      rw [hE]
      simp only [hnm] at cN
      clear he hnm hE hEE
      go_enter Tryd.func17, Tryd.ntmps17
      go_wp2_with (first | (go_at_call 27; refine cC2.mono ?_; rintro e w1 ⟨hb, out, mb, rfl, hmb, hM, hnd, hout⟩) | (go_at_call 22; refine (cN _).mono ?_; rintro e w2 ⟨rfl, hb2⟩; have hM2 := hM.below hb2 hM.lt; have hrg := hM2.range Tryd.underlying57))
      have hM3 := hM2.alloc (.mapIter (some mb) (entsR out).length #[] (entsR out).length)
      have hI0 := IterIs.made w2 mb (entsR out).length
      have hb3 : Below w.heap.size w (w2.alloc (.mapIter (some mb) (entsR out).length #[] (entsR out).length)) := (hb.trans (hb2.mono hb.size)).alloc (by have := hb.size; have := hb2.size; omega) _
      have hrs : w2.heap.size < (w2.alloc (.mapIter (some mb) (entsR out).length #[] (entsR out).length)).heap.size := by simp
      have hrw : w.heap.size ≤ w2.heap.size := by have := hb.size; have := hb2.size; omega
      clear hrg hM2 hM hb hb2 cN cC2
      generalize hw3 : w2.alloc (.mapIter (some mb) (entsR out).length #[] (entsR out).length) = w3 at *
      generalize hr0 : w2.heap.size = r0 at *
      have Hout := Lib.hid hout
      clear hout hw3 hr0
      go_loopg [] out.length (fun gf wr => ∃ seen : List Nat, IterIs wr r0 mb (entsR out).length seen ∧ MapIs wr mb (entsR out) ∧ Below w.heap.size w wr ∧ r0 < wr.heap.size ∧ out.length ≤ seen.length + gf ∧ Hid (∀ i, i ∈ seen → ∀ h : i < out.length, Lib.containsS out[i].may deed = false))
      case atStart => exact ⟨[], hI0, hM3, hb3, hrs, by simp, by intro i hi; cases hi⟩
      case round =>
        obtain ⟨seen, hI, hM, hb, hrs, hgf, hseen⟩ := hrel
        rcases hM.next (P := Tryd.prog) hI 0 with ⟨hall, hnx⟩ | ⟨i, hi, hni, w4, hnx, hM4, hI4, hg4, hz4, hen⟩
        · have hF : MayIs l names deed false := by
            refine ⟨(fun h => by cases h), ?_⟩
            rintro ⟨-, r, hr, hm⟩
            exfalso
            obtain ⟨j, hj, hjr⟩ := List.mem_iff_getElem.1 ((Hout.out r).2 hr)
            have h1 := hseen.out j (hall j (by simpa [entsR] using hj)) hj
            rw [hjr] at h1
            have := (Lib.containsS_iff r.may deed).2 hm
            rw [h1] at this; cases this
          have HF := Lib.hid hF
          clear hall hF
          go_wp2
          go_ret2
          exact ⟨false, rfl, HF.out, hb⟩
        · have hi' : i < out.length := by simpa [entsR] using hi
          have hx : (entsR out)[i] = (out[i].name, out[i].val) := by simp [entsR]
          simp only [hx, Rl.val] at hnx hen
          have hb4 : Below w.heap.size w w4 := hb.grown hg4 hb.size (fun j hj => by cases hj; exact hrw)
          have hmem := (Hout.out out[i]).1 (List.getElem_mem hi')
          have hml : out[i] ∈ l := by
            cases hmem with
            | start _ h => exact (findR_name h).2
            | more _ _ h => exact (findR_name h).2
          obtain ⟨ix, hix, hixr⟩ := List.mem_iff_getElem.1 hml
          have hms := HC.out.ms ix hix
          have hmk := (HC.out.ok ix hix).ml
          rw [hixr] at hms hmk
          have cK := fun W (hW : Below w.heap.size w W) => containsStrs w.heap.size _ out[i].may deed W (by unfold maxLen at hmk; omega) (hms.below hW)
          simp only [Rl.mv] at cK
          have hgk : out.length ≤ (seen ++ [i]).length + (gk - 1) ∧ 0 < gk := by
            have h1 := nodup_len (seen ++ [i]) (List.range (entsR out).length) hI4.nodup (fun y hy => List.mem_range.2 (hI4.inB y hy))
            simp [entsR] at h1 ⊢
            omega
          obtain ⟨g', rfl⟩ : ∃ g', gk = g' + 1 := ⟨gk - 1, by omega⟩
          have hstep : Hid (Lib.containsS out[i].may deed = false → ∀ j, j ∈ seen ++ [i] → ∀ h : j < out.length, Lib.containsS out[j].may deed = false) := by
            intro h0 j hj hjl
            rcases List.mem_append.1 hj with hj | hj
            · exact hseen.out j hj hjl
            · simp at hj; subst hj; exact h0
          have hyes : Hid (Lib.containsS out[i].may deed = true → MayIs l names deed true) := by
            intro h0
            exact ⟨fun _ => ⟨HE.out, out[i], hmem, (Lib.containsS_iff _ _).1 h0⟩, fun _ => rfl⟩
          have HB := Lib.hid hb4
          have HG := Lib.hid hgk.1
          clear hx hmem hml hixr hms hmk hg4 hb hgf hgk hI hM hb4 hni
          cases hcs : Lib.containsS out[i].may deed
          · have hst := Lib.hid (hstep.out hcs)
            simp only [hcs] at cK
            clear hcs hstep hyes
            go_wp2_with (go_at_call 31; refine (cK _ (HB.out.alloc HB.out.size _)).mono ?_; rintro e w5 ⟨rfl, rfl⟩)
            go_roundg g'
            case measure => omega
            case rel => exact ⟨seen ++ [i], hI4.below (Below.alloc (Below.refl w4.heap.size w4) (Nat.le_refl _) _) (by omega), hM4.alloc _, HB.out.alloc HB.out.size _, by simp; omega, HG.out, hst⟩
          · have hye := Lib.hid (hyes.out hcs)
            simp only [hcs] at cK
            clear hcs hstep hyes
            go_wp2_with (go_at_call 31; refine (cK _ (HB.out.alloc HB.out.size _)).mono ?_; rintro e w5 ⟨rfl, rfl⟩)
            go_ret2
            exact ⟨true, rfl, hye.out, HB.out.alloc HB.out.size _⟩
  · have cC2 := cC.mono (R' := fun e w' => Below w.heap.size w w' ∧ e = .returned (.tuple #[.map none, .int .i64 (closedE l names)])) (by
      rintro e w' ⟨hb, ⟨-, h1⟩ | ⟨h2, -⟩⟩
      · exact ⟨hb, h1⟩
      · exact absurd h2 he)
    have hne : (closedE l names != 0) = true := by simpa using he
    have hE : mayE l names deed = closedE l names := by simp [mayE, he]
    have hF : MayIs l names deed false := by simp [MayIs, hE, he]
    have HF := Lib.hid hF
    rw [hE]
    clear cC hE hF he cN
    generalize closedE l names = x at *
    go_enter Tryd.func17, Tryd.ntmps17
    go_wp2_with (go_at_call 27; refine cC2.mono ?_; rintro e w1 ⟨hb, rfl⟩)
    go_ret2
    exact ⟨false, rfl, HF.out, hb⟩
end Go.Proofs.YtkiepajhakoeiaaDoor
