/- docketref19.Same at cases that are the same. two pairs of texts that are the same -/
import Derived.Test.YtinijohmdljieaaGreatDoorSTwin
import Derived.ChangeKeysEq
namespace Go.Proofs.YtinijohmdljieaaGreatDoor
open Go.RowKit

set_option maxHeartbeats 8000000 in
set_option maxRecDepth 100000 in
theorem caseSame (cd : CaseD) (hok : cd.Ok) (us vs : List Value) (w : World) (hm : MemL false (From 0) w cd.ds us) (hm2 : MemL false (From 0) w cd.ds vs) : Calls Tryz.prog 18 #[.agg us.toArray, .agg vs.toArray] w fun e w' => e = .returned (.bool true) ∧ Below w.heap.size w w' := by
  obtain ⟨a1, c1, a2, c2, a3, c3, a4, c4, rfl, hM⟩ := CaseD.cells hm
  obtain ⟨d1, e1, d2, e2, d3, e3, d4, e4, rfl, hN⟩ := CaseD.cells hm2
  obtain ⟨_, _, b1, o1, vs0, hv1, -, hC⟩ := hM.v.listInv
  obtain ⟨_, _, b2, o2, vs1, hv2, -, hC2⟩ := hN.v.listInv
  obtain ⟨_, _, b3, o3, hv3, -, hA⟩ := flat_open hM.a
  obtain ⟨_, _, b4, o4, hv4, -, hA2⟩ := flat_open hN.a
  injection hv1 with h1 h1' h1''
  injection hv2 with h2 h2' h2''
  injection hv3 with h3 h3' h3''
  injection hv4 with h4 h4' h4''
  subst h1 h1'' h2 h2'' h3 h3'' h4 h4''
  have HC := Lib.hid hC
  have HC2 := Lib.hid hC2
  have HA := Lib.hid hA
  have HA2 := Lib.hid hA2
  have HJA := Lib.hid hok.vj
  have HLE := Lib.hid hok.vl
  have HAL := Lib.hid hok.al
  have HO1 := Lib.hid (fun W (hb : Below w.heap.size w W) => boolsSame cd.opn a2 d2 c2 e2 W hok.ol (hM.op.grow hb) (hN.op.grow hb))
  have HO2 := Lib.hid (fun W (hb : Below w.heap.size w W) => boolsSame cd.done a3 d3 c3 e3 W hok.dl (hM.d.grow hb) (hN.d.grow hb))
  have HB0 := Lib.hid (B2.start w 64 7 #[.int .i64 cd.id, .string cd.model, .int .i64 cd.version, .slice a1 cd.values.length c1, .slice a2 cd.opn.length c2, .slice a3 cd.done.length c3, .slice a4 cd.acted.length c4] #[.int .i64 cd.id, .string cd.model, .int .i64 cd.version, .slice d1 cd.values.length e1, .slice d2 cd.opn.length e2, .slice d3 cd.done.length e3, .slice d4 cd.acted.length e4] rfl rfl)
  clear hm hm2 hM hN hC hC2 hA hA2 hok h1' h2' h3' h4'
  go_enter Tryz.func18, Tryz.ntmps18
  go_upto_region 1 with fail
  revert HB0
  generalize ((w.alloc (.cells #[.int .i64 cd.id, .string cd.model, .int .i64 cd.version, .slice a1 cd.values.length c1, .slice a2 cd.opn.length c2, .slice a3 cd.done.length c3, .slice a4 cd.acted.length c4] 64)).alloc (.cells #[.int .i64 cd.id, .string cd.model, .int .i64 cd.version, .slice d1 cd.values.length e1, .slice d2 cd.opn.length e2, .slice d3 cd.done.length e3, .slice d4 cd.acted.length e4] 64)) = W0
  intro HB0
  have k0 := HB0.out.cp 0 _ rfl
  have k1 := HB0.out.cp 1 _ rfl
  have k2 := HB0.out.cp 2 _ rfl
  have k4 := HB0.out.cp 4 _ rfl
  have q0 := HB0.out.cq 0 _ rfl
  have q1 := HB0.out.cq 1 _ rfl
  have q2 := HB0.out.cq 2 _ rfl
  have q4 := HB0.out.cq 4 _ rfl
  go_wp2_with fail
  refine (HO1.out _ HB0.out.below).mono ?_
  rintro e w1 ⟨rfl, hb1⟩
  have HB1 := Lib.hid (HB0.out.call hb1)
  clear k0 k1 k2 k4 q0 q1 q2 q4 hb1 HO1 HB0
  have k5 := HB1.out.cp 5 _ rfl
  have q5 := HB1.out.cq 5 _ rfl
  go_wp2_with fail
  refine (HO2.out _ HB1.out.below).mono ?_
  rintro e w2 ⟨rfl, hb2⟩
  have HB2 := Lib.hid (HB1.out.call hb2)
  clear k5 q5 hb2 HO2 HB1
  have k3 := HB2.out.cp 3 _ rfl
  have q3 := HB2.out.cq 3 _ rfl
  have k6 := HB2.out.cp 6 _ rfl
  have q6 := HB2.out.cq 6 _ rfl
  go_wp2_with fail
  clear k3 q3 k6 q6
  go_loopw [5] (fun j wx => ∃ m : Nat, m ≤ cd.values.length ∧ j = .int .i64 m ∧ Hid (B2 64 7 w wx (caseC cd (.slice a1 cd.values.length c1) (.slice a2 cd.opn.length c2) (.slice a3 cd.done.length c3) (.slice a4 cd.acted.length c4)) (caseC cd (.slice d1 cd.values.length e1) (.slice d2 cd.opn.length e2) (.slice d3 cd.done.length e3) (.slice d4 cd.acted.length e4)))) (fun j _ => cd.values.length - (intOf j).toNat)
  case atStart => exact ⟨0, Nat.zero_le _, rfl, HB2.out⟩
  case round =>
    clear HB2
    obtain ⟨m, hml, rfl, HS⟩ := hrel
    have k3 := HS.out.cp 3 _ rfl
    have q3 := HS.out.cq 3 _ rfl
    by_cases hlt : m < cd.values.length
    · obtain ⟨rfl, -, -⟩ := HC.out.at0 (by omega)
      obtain ⟨rfl, -, -⟩ := HC2.out.at0 (by omega)
      have hj1 := HJA.out _ (List.getElem_mem hlt)
      have hv0 : m < vs0.length := by rw [HC.out.len]; exact hlt
      have hv1 : m < vs1.length := by rw [HC2.out.len]; exact hlt
      have hr := HC.out.row m hlt hv0
      have hr2 := HC2.out.row m hlt hv1
      have HIH := Lib.hid (fun W (hb : Below w.heap.size w W) => jsonSame hj1 _ _ W (hr.grow hb) (hr2.grow hb))
      obtain ⟨jk, jb, ji, jt, jn, je, ja, jc, ja2, jc2, -, hvs, -⟩ := IsJson.cells hj1 hr
      obtain ⟨lk, lb, li, lt, ln, le, la, lc, la2, lc2, -, hvs2, -⟩ := IsJson.cells hj1 hr2
      have key : ∀ (q : Nat) u, vs0[m][q]? = some u → w.cell? ⟨b1, o1 + m * 6 + q, none⟩ = some u := fun q u hq => HC.out.cell m hv0 q u hq
      have key2 : ∀ (q : Nat) u, vs1[m][q]? = some u → w.cell? ⟨b2, o2 + m * 6 + q, none⟩ = some u := fun q u hq => HC2.out.cell m hv1 q u hq
      rw [hvs] at key HIH
      rw [hvs2] at key2 HIH
      have HP : Hid (∀ W, (B2 64 7 w W (caseC cd (.slice (some ⟨b1, o1, none⟩) cd.values.length c1) (.slice a2 cd.opn.length c2) (.slice a3 cd.done.length c3) (.slice a4 cd.acted.length c4)) (caseC cd (.slice (some ⟨b2, o2, none⟩) cd.values.length e1) (.slice d2 cd.opn.length e2) (.slice d3 cd.done.length e3) (.slice d4 cd.acted.length e4))) → W.cell? ⟨w.heap.size, 3, none⟩ = some (.slice (some ⟨b1, o1, none⟩) cd.values.length c1) ∧ W.cell? ⟨w.heap.size + 1, 3, none⟩ = some (.slice (some ⟨b2, o2, none⟩) cd.values.length e1) ∧ W.cell? ⟨b1, o1 + m * 6, none⟩ = some (.int .u8 jk) ∧ W.cell? ⟨b1, o1 + m * 6 + 1, none⟩ = some (.bool jb) ∧ W.cell? ⟨b1, o1 + m * 6 + 2, none⟩ = some (.int .i64 ji) ∧ W.cell? ⟨b1, o1 + m * 6 + 3, none⟩ = some (.string jt) ∧ W.cell? ⟨b1, o1 + m * 6 + 4, none⟩ = some (.slice ja jn.length jc) ∧ W.cell? ⟨b1, o1 + m * 6 + 5, none⟩ = some (.slice ja2 je.length jc2) ∧ W.cell? ⟨b2, o2 + m * 6, none⟩ = some (.int .u8 lk) ∧ W.cell? ⟨b2, o2 + m * 6 + 1, none⟩ = some (.bool lb) ∧ W.cell? ⟨b2, o2 + m * 6 + 2, none⟩ = some (.int .i64 li) ∧ W.cell? ⟨b2, o2 + m * 6 + 3, none⟩ = some (.string lt) ∧ W.cell? ⟨b2, o2 + m * 6 + 4, none⟩ = some (.slice la ln.length lc) ∧ W.cell? ⟨b2, o2 + m * 6 + 5, none⟩ = some (.slice la2 le.length lc2)) := by
        intro W hW
        exact ⟨hW.cp 3 _ rfl, hW.cq 3 _ rfl, cellBelow2 hW.below (key 0 _ rfl), cellBelow2 hW.below (key 1 _ rfl), cellBelow2 hW.below (key 2 _ rfl), cellBelow2 hW.below (key 3 _ rfl), cellBelow2 hW.below (key 4 _ rfl), cellBelow2 hW.below (key 5 _ rfl), cellBelow2 hW.below (key2 0 _ rfl), cellBelow2 hW.below (key2 1 _ rfl), cellBelow2 hW.below (key2 2 _ rfl), cellBelow2 hW.below (key2 3 _ rfl), cellBelow2 hW.below (key2 4 _ rfl), cellBelow2 hW.below (key2 5 _ rfl)⟩
      have i1 : (0 : Int) ≤ (m : Int) := by omega
      have i2 : (m : Int) < (cd.values.length : Int) := by omega
      clear hj1 hr hr2 hvs hvs2 hv0 hv1 key key2 HC HC2 HJA HA HA2
      go_upto_region 6 with fail
      clear k3 q3
      go_region_held3 (fun W => (B2 64 7 w W (caseC cd (.slice (some ⟨b1, o1, none⟩) cd.values.length c1) (.slice a2 cd.opn.length c2) (.slice a3 cd.done.length c3) (.slice a4 cd.acted.length c4)) (caseC cd (.slice (some ⟨b2, o2, none⟩) cd.values.length e1) (.slice d2 cd.opn.length e2) (.slice d3 cd.done.length e3) (.slice d4 cd.acted.length e4))) ∧ W.cell? ⟨w.heap.size, 3, none⟩ = some (.slice (some ⟨b1, o1, none⟩) cd.values.length c1) ∧ W.cell? ⟨w.heap.size + 1, 3, none⟩ = some (.slice (some ⟨b2, o2, none⟩) cd.values.length e1) ∧ W.cell? ⟨b1, o1 + m * 6, none⟩ = some (.int .u8 jk) ∧ W.cell? ⟨b1, o1 + m * 6 + 1, none⟩ = some (.bool jb) ∧ W.cell? ⟨b1, o1 + m * 6 + 2, none⟩ = some (.int .i64 ji) ∧ W.cell? ⟨b1, o1 + m * 6 + 3, none⟩ = some (.string jt) ∧ W.cell? ⟨b1, o1 + m * 6 + 4, none⟩ = some (.slice ja jn.length jc) ∧ W.cell? ⟨b1, o1 + m * 6 + 5, none⟩ = some (.slice ja2 je.length jc2) ∧ W.cell? ⟨b2, o2 + m * 6, none⟩ = some (.int .u8 lk) ∧ W.cell? ⟨b2, o2 + m * 6 + 1, none⟩ = some (.bool lb) ∧ W.cell? ⟨b2, o2 + m * 6 + 2, none⟩ = some (.int .i64 li) ∧ W.cell? ⟨b2, o2 + m * 6 + 3, none⟩ = some (.string lt) ∧ W.cell? ⟨b2, o2 + m * 6 + 4, none⟩ = some (.slice la ln.length lc) ∧ W.cell? ⟨b2, o2 + m * 6 + 5, none⟩ = some (.slice la2 le.length lc2))
        (first | exact ⟨HS.out.drew, HP.out _ HS.out.drew⟩ | exact (fun h => ⟨h, HP.out _ h⟩) (by assumption))
        ((go_at_call 50; refine (HIH.out _ (B2.below (And.left (by assumption)))).mono ?_; rintro e W' ⟨rfl, hbw⟩; have hsw := B2.call (And.left (by assumption)) hbw))
      all_goals
        rename_i hS
        have hS1 := Lib.hid hS.1
        have wr1 : IntKind.i64.wrap ((m : Int) + 1) = (m : Int) + 1 := wrap_i64 (by omega) (by have := HLE.out; omega)
        clear hS HS HP HIH
        go_wp2_with fail
        go_roundw
        case rel => exact ⟨m + 1, by omega, by go_num, hS1⟩
        case measure => simp [intOf]; omega
    · have i1 : ¬ (m : Int) < (cd.values.length : Int) := by omega
      clear HC HC2 HJA
      go_wp2_with fail
      clear k3 q3 i1 hml hlt
      have k6 := HS.out.cp 6 _ rfl
      have q6 := HS.out.cq 6 _ rfl
      go_loopw [6] (fun j wx => ∃ p n : Nat, p ≤ cd.acted.length ∧ j = .int .i64 p ∧ wx = wr.drewN n) (fun j _ => cd.acted.length - (intOf j).toNat)
      case atStart => exact ⟨0, 0, Nat.zero_le _, rfl, rfl⟩
      case round =>
        obtain ⟨p, n, hpl, rfl, hwx⟩ := hrel
        subst hwx
        by_cases hlt : p < cd.acted.length
        · obtain ⟨rfl, -, -⟩ := HA.out.at0 (by omega)
          obtain ⟨rfl, -, -⟩ := HA2.out.at0 (by omega)
          have x0 := cellBelow2 HS.out.below (HA.out.cell p hlt 0 _ rfl)
          have x1 := cellBelow2 HS.out.below (HA.out.cell p hlt 1 _ rfl)
          have y0 := cellBelow2 HS.out.below (HA2.out.cell p hlt 0 _ rfl)
          have y1 := cellBelow2 HS.out.below (HA2.out.cell p hlt 1 _ rfl)
          simp only [Nat.add_zero] at x0 y0
          obtain ⟨⟨s, t⟩, hs⟩ : ∃ s, cd.acted[p] = s := ⟨_, rfl⟩
          rw [hs] at x0 x1 y0 y1
          have i1 : (0 : Int) ≤ (p : Int) := by omega
          have i2 : (p : Int) < (cd.acted.length : Int) := by omega
          have wr1 : IntKind.i64.wrap ((p : Int) + 1) = (p : Int) + 1 := wrap_i64 (by omega) (by have := HAL.out; omega)
          clear hs
          go_wp2_with fail
          go_quiet (fail)
          go_wp2_with fail
          go_roundw
          case rel => exact ⟨p + 1, _, by omega, by go_num, rfl⟩
          case measure => simp [intOf]; omega
        · have i1 : ¬ (p : Int) < (cd.acted.length : Int) := by omega
          have HBz := Lib.hid (HS.out.drewN n)
          go_wp2_with fail
          go_ret
          exact ⟨rfl, HBz.out.below⟩
end Go.Proofs.YtinijohmdljieaaGreatDoor

namespace Go.Proofs.YtinijohmdljieaaGreatDoor
open Go.RowKit

theorem pair_guard : Tryz.prog.eqGuardType Tryz.prog.depth 110 = false := by kernel_rfl
theorem pair_eqD (d : Nat) (s t : ByteArray) (w : World) : (Op.equalIn (d + 1 + 1) 110 (.agg #[.string s, .string t]) (.agg #[.string s, .string t])).run Tryz.prog w = .ok true w := by
  obtain ⟨z, hz, hzs⟩ := elemStr.info
  obtain ⟨i, hi, hz0, hz1, hz2⟩ := info_parts hz
  have hc : Tryz.prog.cellsOf 9 = 1 := by kernel_rfl
  have h1 := run_equalIn_array w (d + 1) #[.string s, .string t] #[.string s, .string t] Tryz.underlying110 hi
  rw [h1, hc, show List.range 2 = [0, 1] from rfl]
  have hs : ∀ (a : ByteArray) (w : World), (Op.equalIn (d + 1) 9 (.string a) (.string a)).run Tryz.prog w = .ok true w := fun a w => by
    rw [run_equalIn_string w d 9 a a Tryz.underlying9]
    simp
  have hp0 : ∀ w : World, (part 9 #[.string s, .string t] 0).run Tryz.prog w = .ok (.string s) w := fun w => by go_simp
  have hp1 : ∀ w : World, (part 9 #[.string s, .string t] 1).run Tryz.prog w = .ok (.string t) w := fun w => by go_simp
  simp [Op.eqItems, hp0, hp1, hs, Result.andThen]
theorem pair_eq (s t : ByteArray) (w : World) : (Op.equalIn 10000 110 (.agg #[.string s, .string t]) (.agg #[.string s, .string t])).run Tryz.prog w = .ok true w := pair_eqD 9998 s t w
theorem pair_ne (s t : ByteArray) (w : World) : (binOp .neq 110 (.agg #[.string s, .string t]) (.agg #[.string s, .string t])).run Tryz.prog w = .ok (.bool false) w := by
  rw [run_neq_struct, pair_eq]; rfl
end Go.Proofs.YtinijohmdljieaaGreatDoor
