/- roles.Check tells whether roles may be. -/
import Derived.Test.YtinijohmdljieaaGreatDoorByName
import Derived.Test.YtinijohmdljieaaGreatDoorRolesNamed
namespace Go.Proofs.YtinijohmdljieaaGreatDoor
open Go.RowKit

def holdsOk (m : List Rl) (h : ByteArray) : Bool := (findR m h).isSome
def nmOk (s : ByteArray) : Bool := named s.data.toList
def okRole (m : List Rl) (r : Rl) : Bool := nmOk r.name && decide (r.holds.length ≤ 32) && decide (r.may.length ≤ 1024) && r.holds.all (holdsOk m) && r.may.all nmOk
def chkP (l : List Rl) : Int := if 32 < l.length then 4 else if (byNameL l).length < l.length then 200 else if l.all (okRole (byNameL l)) then 0 else 200

theorem take_all_snoc {α : Type} {p : α → Bool} {l : List α} {k : Nat} (h : k < l.length) (h0 : Hid ((l.take k).all p = true)) (h1 : p l[k] = true) : Hid ((l.take (k + 1)).all p = true) := by
  show _ = true
  rw [List.take_succ_eq_append_getElem h, List.all_append, h0.out]; simp [h1]
theorem take_all_end {α : Type} {p : α → Bool} {l : List α} {k : Nat} (h : l.length ≤ k) (h0 : Hid ((l.take k).all p = true)) : l.all p = true := by
  have := h0.out
  rwa [List.take_of_length_le h] at this
theorem all_bad {α : Type} {p : α → Bool} {l : List α} {k : Nat} (h : k < l.length) (h1 : p l[k] = false) : l.all p = false :=
  List.all_eq_false.2 ⟨l[k], List.getElem_mem h, by simp [h1]⟩

theorem okRole_holds {m : List Rl} {r : Rl} (h : r.holds.all (holdsOk m) = false) : okRole m r = false := by
  simp only [okRole]; rw [h]; simp
theorem okRole_may {m : List Rl} {r : Rl} (h : r.may.all nmOk = false) : okRole m r = false := by
  simp only [okRole]; rw [h]; simp
theorem okRole_yes {m : List Rl} {r : Rl} (h1 : named r.name.data.toList = true) (h2 : ¬ 32 < r.holds.length) (h3 : ¬ 1024 < r.may.length) (h4 : r.holds.all (holdsOk m) = true) (h5 : r.may.all nmOk = true) : okRole m r = true := by
  have e2 : decide (r.holds.length ≤ 32) = true := decide_eq_true (by omega)
  have e3 : decide (r.may.length ≤ 1024) = true := decide_eq_true (by omega)
  simp only [okRole, nmOk]; rw [h1, e2, e3, h4]; simpa [nmOk] using h5

set_option maxHeartbeats 8000000 in
set_option maxRecDepth 100000 in
theorem roles_Check (v : Value) (l : List Rl) (w : World) (h : Rls w.heap.size w v l) (hl : l.length ≤ maxLen) :
    Calls Tryz.prog 22 #[v] w fun e w' => e = .returned (.int .i64 (chkP l)) ∧ Below w.heap.size w w' := by
  have cB := roles_byName v l w h hl
  obtain ⟨a, c, b, o, rfl, hle, hC⟩ := h.cells
  have HC := Lib.hid hC
  clear h hC hle
  unfold maxLen at hl
  by_cases h32 : 32 < l.length
  · have g : decide (32 < (l.length : Int)) = true := decide_eq_true (by omega)
    have e : chkP l = 4 := by simp [chkP, h32]
    rw [e]
    clear cB e
    go_enter Tryz.func22, Tryz.ntmps22
    go_wp2_with fail
    go_ret
    exact ⟨rfl, Below.refl _ _⟩
  have g : decide (32 < (l.length : Int)) = false := decide_eq_false (by omega)
  have cN := fun (s : ByteArray) (hs : s.size ≤ maxLen) W => roles_named s W hs
  obtain ⟨M, hM0⟩ : ∃ M, byNameL l = M := ⟨_, rfl⟩
  rw [hM0] at cB
  have HM0 := Lib.hid hM0
  clear hM0
  by_cases hlen : M.length < l.length
  · have e : chkP l = 200 := by simp [chkP, h32, HM0.out, hlen]
    rw [e]
    have g2 : decide ((M.length : Int) < (l.length : Int)) = true := decide_eq_true (by omega)
    go_enter Tryz.func22, Tryz.ntmps22
    go_wp2_with (go_at_call 52; refine cB.mono ?_; rintro e w1 ⟨mb, rfl, hmb, hM, hb⟩; have hln := hM.len Tryz.underlying128 3; simp only [entsR, List.length_map] at hln)
    go_ret
    exact ⟨rfl, hb⟩
  have g2 : decide ((M.length : Int) < (l.length : Int)) = false := decide_eq_false (by omega)
  obtain ⟨R, hR⟩ : ∃ R, chkP l = R := ⟨_, rfl⟩
  have e : R = if l.all (okRole M) then 0 else 200 := by rw [← hR]; simp [chkP, h32, HM0.out, hlen]
  have HR := Lib.hid e
  rw [hR]
  clear hR e
  go_enter Tryz.func22, Tryz.ntmps22
  go_wp2_with (go_at_call 52; refine cB.mono ?_; rintro e w1 ⟨mb, rfl, hmb, hM, hb⟩; have hln := hM.len Tryz.underlying128 3; simp only [entsR, List.length_map] at hln)
  clear hln
  go_loopw [24] (fun i wr => ∃ k : Nat, k ≤ l.length ∧ i = .int .i64 k ∧ MapIs wr mb (entsR M) ∧ Below w.heap.size w wr ∧ Hid ((l.take k).all (okRole M) = true)) (fun i _ => l.length - (intOf i).toNat)
  case atStart => exact ⟨0, by omega, rfl, hM, hb, by simp [Hid]⟩
  case round =>
    obtain ⟨k, hk, rfl, hM, hb, hall⟩ := hrel
    by_cases hlt : k < l.length
    · obtain ⟨rfl, hbl⟩ := HC.out.at0 (by omega)
      have x0 := (hb.cell (p := ⟨b, o + k * 3, none⟩) hbl).trans (HC.out.c0 k hlt)
      have x1 := (hb.cell (p := ⟨b, o + k * 3 + 1, none⟩) hbl).trans (HC.out.c1 k hlt)
      have x2 := (hb.cell (p := ⟨b, o + k * 3 + 2, none⟩) hbl).trans (HC.out.c2 k hlt)
      simp only [Rl.hv, Rl.mv] at x1 x2
      have cN1 := fun W => cN l[k].name (HC.out.ok k hlt).name W
      have hMl := hM.lt
      cases hn : named l[k].name.data.toList
      · simp only [hn] at cN1
        go_wp2_with (go_at_call 53; refine (cN1 _).mono ?_; rintro e w2 ⟨rfl, hb2⟩)
        go_ret
        exact ⟨ret_int (by rw [HR.out, all_bad hlt (by simp [okRole, nmOk, hn])]; rfl), (hb.alloc hb.size _).trans (hb2.mono (by have := hb.size; simp; omega))⟩
      · simp only [hn] at cN1
        by_cases hh : 32 < l[k].holds.length
        · have g3 : decide (32 < (l[k].holds.length : Int)) = true := decide_eq_true (by omega)
          go_wp2_with (go_at_call 53; refine (cN1 _).mono ?_; rintro e w2 ⟨rfl, hb2⟩; obtain ⟨k1, -⟩ := bcell hb2)
          go_ret
          exact ⟨ret_int (by rw [HR.out, all_bad hlt (by simp [okRole]; omega)]; rfl), (hb.alloc hb.size _).trans (hb2.mono (by have := hb.size; simp; omega))⟩
        have g3 : decide (32 < (l[k].holds.length : Int)) = false := decide_eq_false (by omega)
        by_cases hmm : 1024 < l[k].may.length
        · have g4 : decide (1024 < (l[k].may.length : Int)) = true := decide_eq_true (by omega)
          go_wp2_with (go_at_call 53; refine (cN1 _).mono ?_; rintro e w2 ⟨rfl, hb2⟩; obtain ⟨k1, -⟩ := bcell hb2)
          go_ret
          exact ⟨ret_int (by rw [HR.out, all_bad hlt (by simp [okRole]; omega)]; rfl), (hb.alloc hb.size _).trans (hb2.mono (by have := hb.size; simp; omega))⟩
        have g4 : decide (1024 < (l[k].may.length : Int)) = false := decide_eq_false (by omega)
        go_wp2_with (go_at_call 53; refine (cN1 _).mono ?_; rintro e w2 ⟨rfl, hb2⟩; obtain ⟨k1, -⟩ := bcell hb2)
        have hbw : Below w.heap.size w w2 := (hb.alloc hb.size _).trans (hb2.mono (by have := hb.size; simp; omega))
        have hM2 : MapIs w2 mb (entsR M) := (hM.alloc _).below hb2 (by simp; omega)
        have y2 : w2.cell? ⟨wr.heap.size, 2, none⟩ = some (.slice l[k].ma l[k].may.length l[k].mc) := by rw [k1 _ _ (by simp)]; go_simp
        have hsz : wr.heap.size < w2.heap.size := by have := hb2.size; simp at this; omega
        clear hM x0 x1 x2 k1 hb2 cN1
        obtain ⟨ah, ch, bh, oh, hve, -, hah, hch⟩ := (HC.out.hs k hlt).cells
        injection hve with hva hvn hvc
        subst hva
        have Hah := Lib.hid hah; have Hch := Lib.hid hch; clear hah hch hvn hvc
        have hbs := hb.size
        clear hb
        obtain ⟨wo, rfl⟩ : ∃ wo : World, wo = wr := ⟨_, rfl⟩
        go_loopw [47] (fun i wx => ∃ m : Nat, m ≤ l[k].holds.length ∧ i = .int .i64 m ∧ MapIs wx mb (entsR M) ∧ Below w2.heap.size w2 wx ∧ Hid ((l[k].holds.take m).all (holdsOk M) = true)) (fun i _ => l[k].holds.length - (intOf i).toNat)
        case atStart => exact ⟨0, by omega, rfl, hM2, Below.refl _ _, by simp [Hid]⟩
        case round =>
          obtain ⟨m, hm, rfl, hM3, hb3, hall3⟩ := hrel
          have hb4 : Below w.heap.size w wr := hbw.trans (hb3.mono hbw.size)
          by_cases hlt3 : m < l[k].holds.length
          · obtain ⟨e1, hbl3⟩ := Hah.out (by omega)
            have z0 := (hb4.cell (p := ⟨bh, oh + m, none⟩) hbl3).trans (Hch.out m hlt3)
            have hsz3 := Lib.hid ((HC.out.ok k hlt).holds _ (List.getElem_mem hlt3))
            have hlk := hM3.lookup Tryz.underlying128 Tryz.underlying9 zeroRole hsz3.out
            rw [getM_entsR] at hlk
            have hMl3 := hM3.lt
            cases hf : findR M l[k].holds[m] with
            | none =>
              simp only [hf, Option.map_none, Option.getD_none, Option.isSome_none] at hlk
              have Hf := Lib.hid hf; clear hf
              go_wp2
              go_ret
              exact ⟨ret_int (by rw [HR.out, all_bad hlt (okRole_holds (all_bad hlt3 (by simp [holdsOk, Hf.out])))]; rfl), hb4.alloc hb4.size _⟩
            | some rr =>
              simp only [hf, Option.map_some, Option.getD_some, Option.isSome_some, Rl.val] at hlk
              have Hf := Lib.hid hf; clear hf
              go_wp2
              go_roundw
              case rel => exact ⟨m + 1, by omega, by go_num, hM3.alloc _, hb3.alloc hb3.size _, take_all_snoc hlt3 hall3 (by simp [holdsOk, Hf.out])⟩
              case measure => simp [intOf]; omega
          · have hfin3 := take_all_end (by omega) hall3
            have HF := Lib.hid hfin3
            have y3 := (hb3.cell (p := ⟨wo.heap.size, 2, none⟩) hsz).trans y2
            clear hfin3
            go_wp2
            obtain ⟨am, cm, bm, om, hvm, -, ham, hcm⟩ := (HC.out.ms k hlt).cells
            injection hvm with hva hvn hvc
            subst hva
            have Ham := Lib.hid ham; have Hcm := Lib.hid hcm; clear ham hcm hvn hvc
            obtain ⟨w3, rfl⟩ : ∃ w3 : World, w3 = wr := ⟨_, rfl⟩
            go_loopw [63] (fun i wx => ∃ m : Nat, m ≤ l[k].may.length ∧ i = .int .i64 m ∧ MapIs wx mb (entsR M) ∧ Below w.heap.size w wx ∧ Hid ((l[k].may.take m).all nmOk = true)) (fun i _ => l[k].may.length - (intOf i).toNat)
            case atStart => exact ⟨0, by omega, rfl, hM3, hb4, by simp [Hid]⟩
            case round =>
              obtain ⟨q, hq, rfl, hM5, hb5, hall5⟩ := hrel
              by_cases hlt5 : q < l[k].may.length
              · obtain ⟨e2, hbl5⟩ := Ham.out (by omega)
                have z0 := (hb5.cell (p := ⟨bm, om + q, none⟩) hbl5).trans (Hcm.out q hlt5)
                have cN5 := fun W => cN l[k].may[q] ((HC.out.ok k hlt).may _ (List.getElem_mem hlt5)) W
                have hMl5 := hM5.lt
                cases hn5 : named l[k].may[q].data.toList
                · simp only [hn5] at cN5
                  go_wp2_with (go_at_call 53; clear e2; refine (cN5 _).mono ?_; rintro e w6 ⟨rfl, hb6⟩)
                  go_ret
                  exact ⟨ret_int (by rw [HR.out, all_bad hlt (okRole_may (all_bad hlt5 hn5))]; rfl), hb5.trans (hb6.mono hb5.size)⟩
                · simp only [hn5] at cN5
                  go_wp2_with (go_at_call 53; clear e2; refine (cN5 _).mono ?_; rintro e w6 ⟨rfl, hb6⟩)
                  go_roundw
                  case rel => exact ⟨q + 1, by omega, by go_num, hM5.below hb6 hMl5, hb5.trans (hb6.mono hb5.size), take_all_snoc hlt5 hall5 hn5⟩
                  case measure => simp [intOf]; omega
              · have HF5 := Lib.hid (take_all_end (by omega) hall5)
                go_wp2
                go_roundw
                case rel => exact ⟨k + 1, by omega, by go_num, hM5, hb5, take_all_snoc hlt hall (okRole_yes hn hh hmm HF.out HF5.out)⟩
                case measure => simp [intOf]; omega
    · go_wp2
      go_ret
      exact ⟨ret_int (by rw [HR.out, take_all_end (by omega) hall]; rfl), hb⟩
end Go.Proofs.YtinijohmdljieaaGreatDoor
