/- docketref17: how long a token is; docketref16.Int at digits. -/
import Derived.Deep.DeepCutAuto
import Derived.Deep.CutBlock
import Derived.Test.YtkmgbkcpjlilpaaDoorRfMem
import Derived.Test.YtkmgbkcpjlilpaaDoorGDig
namespace Go.Proofs.YtkmgbkcpjlilpaaDoor
open Go.RowKit

/-- how Int of digits ends -/
def IntEnd (V : Nat) (w : World) (e : Ending) (w' : World) : Prop :=
  (∃ n b, e = .returned (.tuple #[.int .i64 n, .bool b]) ∧ b = decide (V ≤ 9223372036854775807) ∧ (b = true → n = (V : Int))) ∧ w = w'
set_option maxHeartbeats 4000000 in
set_option maxRecDepth 100000 in
theorem rfInt_walk (D : ByteArray) (w : World) (hs : D.size ≤ 17000) (hne : D.data.toList ≠ []) (hd : D.data.toList.all digitB = true) (hgt : 19 < D.size → 9223372036854775807 < spell 0 D.data.toList) :
    Calls Tryd.prog 45 #[.string D] w (IntEnd (spell 0 D.data.toList) w) := by
  have h0 : 0 < D.size := by rw [← ba_len]; exact List.length_pos_iff.2 hne
  have i0 : (0 : Int) < (D.size : Int) := by omega
  have hc0 : digitB (D[0]'h0) = true := List.all_eq_true.1 hd _ (by simp [ByteArray.getElem_eq_getElem_data])
  have d0 : (((D[0]'h0).toNat : Int) == 45) = false := by
    simp only [digitB, decide_eq_true_eq] at hc0
    rw [beq_eq_false_iff_ne]; omega
  have HD := Lib.hid hd
  obtain ⟨V, hV⟩ : ∃ V, spell 0 D.data.toList = V := ⟨_, rfl⟩
  rw [hV] at hgt ⊢
  have HV := Lib.hid hV
  by_cases hbig : 19 < D.size
  · have i1 : (19 : Int) < (D.size : Int) := by omega
    have HF := Lib.hid (hgt hbig)
    clear hbig hgt hV hd hne hc0
    go_enter Tryd.func45, Tryd.ntmps45
    go_wp2_with fail
    go_ret2
    exact ⟨⟨_, _, rfl, by have := HF.out; symm; rw [decide_eq_false_iff_not]; omega, fun h => absurd h (by decide)⟩, rfl⟩
  have i1 : ¬ (19 : Int) < (D.size : Int) := by omega
  have hdg : ∀ (k : Nat) (h : k < D.size), 48 ≤ (D[k]'h).toNat ∧ (D[k]'h).toNat ≤ 57 := fun k h => by
    have := List.all_eq_true.1 HD.out (D[k]'h) (by simp [ByteArray.getElem_eq_getElem_data])
    simpa [digitB] using this
  have HDG := Lib.hid hdg
  clear hdg hc0 hne hgt hbig
  by_cases hle : V ≤ 9223372036854775807
  · have HL := Lib.hid hle
    clear hle
    have HSN := Lib.hid (fun (k : Nat) (h : k < D.size) => spell_snocG h)
    have HMO := Lib.hid (fun (k : Nat) => (show spell 0 (D.data.toList.take k) ≤ V by have := spell_mono D k; rw [HV.out] at this; exact this))
    have hcase : (((D.size : Int) == 19) = true ∧ (Op.bytesLess D.toList leastS || D.toList == leastS) = true) ∨ ((D.size : Int) == 19) = false := by
      by_cases h19 : D.size = 19
      · have hgt := least_gt (l := D.toList) (by rw [Go.ByteArray.toList_eq, ba_len]; exact h19) (by rw [Go.ByteArray.toList_eq]; exact hd)
        refine .inl ⟨by rw [h19]; rfl, ?_⟩
        rw [hgt, decide_eq_true_eq, Go.ByteArray.toList_eq, HV.out]; exact HL.out
      · exact .inr (by rw [beq_eq_false_iff_ne]; omega)
    have HT : Hid (spell 0 (D.data.toList.take D.size) = V) := by show _ = _; rw [List.take_of_length_le (by rw [ba_len]; exact Nat.le_refl _)]; exact HV.out
    have H0 : Hid (spell 0 (D.data.toList.take 0) = 0) := id rfl
    clear hV hd
    rcases hcase with ⟨g19, e⟩ | g19
    all_goals
      go_enter Tryd.func45, Tryd.ntmps45
      go_wp2_with fail
      go_loop [7, 8] (fun n i => ∃ k : Nat, k ≤ D.size ∧ n = .int .i64 (-(spell 0 (D.data.toList.take k) : Int)) ∧ i = .int .i64 (k : Int)) (fun _ i => D.size - (intOf i).toNat)
      case atStart => exact ⟨0, Nat.zero_le _, by rw [H0.out]; rfl, rfl⟩
      case round =>
        obtain ⟨k, hk, rfl, rfl⟩ := hrel
        by_cases hlt : k < D.size
        · have hsn := HSN.out k hlt
          have hmo := HMO.out (k + 1)
          have hdgk := HDG.out k hlt
          obtain ⟨c, hc⟩ : ∃ c, (D[k]'hlt).toNat = c := ⟨_, rfl⟩
          rw [hc] at hsn hdgk
          have HC := Lib.hid hc
          have hl := HL.out
          rw [hsn] at hmo
          have HS := Lib.hid hsn
          clear hsn hc
          generalize spell 0 (D.data.toList.take k) = p at *
          have wr1 : wrap64 (10 * -(p : Int)) = -(10 * (p : Int)) := by rw [IntWalk.wrap64_in _ (by omega)]; omega
          have wr2 : wrap64 (-(10 * (p : Int)) - ((c : Int) - 48) % 256) = -((p * 10 + (c - 48) : Nat) : Int) := by rw [IntWalk.wrap64_in _ (by omega)]; omega
          have wr3 : IntKind.i64.wrap ((k : Int) + 1) = (k : Int) + 1 := wrap_i64 (by omega) (by omega)
          clear hl hmo
          go_wp2_with fail
          rw [HC.out]
          go_wp2_with fail
          go_round
          case rel => exact ⟨k + 1, by omega, by rw [HS.out, wr2], rfl⟩
          case measure => simp only [intOf]; omega
        · obtain rfl : k = D.size := by omega
          have ht := HT.out
          rw [ht]
          have hl := HL.out
          have wr0 : wrap64 (V : Int) = (V : Int) := IntWalk.wrap64_in _ (by omega)
          clear ht hl
          go_wp2_with fail
          go_ret2
          exact ⟨⟨_, _, rfl, (decide_eq_true HL.out).symm, fun _ => rfl⟩, rfl⟩
  · have h19 : D.size = 19 := by
      by_cases h : D.size = 19
      · exact h
      · exact absurd (hV ▸ spell_small hd (by rw [ba_len]; omega)) hle
    have g19 : ((D.size : Int) == 19) = true := by rw [h19]; rfl
    have hgt := least_gt (l := D.toList) (by rw [Go.ByteArray.toList_eq, ba_len]; exact h19) (by rw [Go.ByteArray.toList_eq]; exact hd)
    have e : (Op.bytesLess D.toList leastS || D.toList == leastS) = false := by rw [hgt, decide_eq_false_iff_not, Go.ByteArray.toList_eq, HV.out]; exact hle
    have HL := Lib.hid hle
    clear hgt hV hd h19 hle
    go_enter Tryd.func45, Tryd.ntmps45
    go_wp2_with fail
    go_ret2
    exact ⟨⟨_, _, rfl, (decide_eq_false HL.out).symm, fun h => absurd h (by decide)⟩, rfl⟩

/-- how far the bytes of a kind go behind a place -/
theorem tw_s {p : UInt8 → Bool} (s : ByteArray) (f k : Nat) (h : f < s.size) (hk : ((s.data.toList.drop (f + 1)).takeWhile p).length + 1 = k) :
    f + k ≤ s.size ∧ (∀ (j : Nat) (_ : 1 ≤ j) (_ : j < k) (h2 : f + j < s.size), p (s[f + j]'h2) = true) ∧ (∀ (h2 : f + k < s.size), p (s[f + k]'h2) = false) := by
  have h1 := takeWhile_le (p := p) (s.data.toList.drop (f + 1))
  rw [List.length_drop, ba_len] at h1
  refine ⟨by omega, fun j h1 h2 h3 => ?_, fun h3 => ?_⟩
  · have := tw_lt (p := p) (s.data.toList.drop (f + 1)) (j - 1) (by omega) (by rw [List.length_drop, ba_len]; omega)
    rw [List.getElem_drop] at this
    have e : f + 1 + (j - 1) = f + j := by omega
    simp only [e] at this
    exact this
  · have := tw_at (p := p) (s.data.toList.drop (f + 1)) (by rw [List.length_drop, ba_len]; omega)
    rw [List.getElem_drop] at this
    have e : f + 1 + ((s.data.toList.drop (f + 1)).takeWhile p).length = f + k := by omega
    simp only [e] at this
    exact this
theorem drop_cons (s : ByteArray) (f : Nat) (h : f < s.size) : s.data.toList.drop f = s[f] :: s.data.toList.drop (f + 1) := by
  rw [List.drop_eq_getElem_cons (by rw [ba_len]; exact h)]; rfl
theorem ext_tw {p : UInt8 → Bool} (s : ByteArray) (f k : Nat) (hk : ((s.data.toList.drop (f + 1)).takeWhile p).length + 1 = k) : (s.extract (f + 1) (f + k)).data.toList = (s.data.toList.drop (f + 1)).takeWhile p := by
  rw [ByteArray.data_extract, Array.toList_extract]
  show (s.data.toList.drop (f + 1)).take (f + k - (f + 1)) = _
  rw [show f + k - (f + 1) = ((s.data.toList.drop (f + 1)).takeWhile p).length by omega, take_takeWhile]
theorem ext_tw0 {p : UInt8 → Bool} (s : ByteArray) (f k : Nat) (h : f < s.size) (hk : ((s.data.toList.drop (f + 1)).takeWhile p).length + 1 = k) : (s.extract f (f + k)).data.toList = s[f] :: (s.data.toList.drop (f + 1)).takeWhile p := by
  rw [ByteArray.data_extract, Array.toList_extract]
  show (s.data.toList.drop f).take (f + k - f) = _
  rw [drop_cons s f h, show f + k - f = ((s.data.toList.drop (f + 1)).takeWhile p).length + 1 by omega, List.take_succ_cons, take_takeWhile]
set_option maxHeartbeats 8000000 in
set_option maxRecDepth 100000 in
theorem rfLong_walk (R : Nat) (s : ByteArray) (v1 v2 v3 v4 v5 : Value) (f : Nat) (w : World) (hs : s.size ≤ 17000) (hf : f < s.size) (h : Arr w R 47 [.string s, v1, v2, v3, v4, v5]) :
    Calls Tryd.prog 29 #[.pointer (some ⟨R, 0, none⟩), .int .i64 (f : Int)] w fun e w' => e = .returned (.int .i64 (longB (s.data.toList.drop f) : Int)) ∧ w = w' := by
  obtain ⟨x0, -, -, -, -, -⟩ := rf_cells h
  obtain ⟨m, hm⟩ : ∃ m, longB (s.data.toList.drop f) = m := ⟨_, rfl⟩
  rw [hm]
  rw [drop_cons s f hf] at hm
  clear h
  have i0 : (0 : Int) ≤ (f : Int) := by omega
  have i1 : (f : Int) < (s.size : Int) := by omega
  go_enter Tryd.func29, Tryd.ntmps29
  go_upto_block 0 with fail
  obtain ⟨c, hc⟩ : ∃ c, s[f]'hf = c := ⟨_, rfl⟩
  rw [hc] at hm ⊢
  by_cases hs1 : signsB.contains c = true
  · have hm1 : m = 1 := by rw [← hm, longB, if_pos hs1]
    subst hm1
    have hmem : c ∈ signsB := by simpa using hs1
    clear hm hs1 hc
    simp only [signsB, List.mem_cons, List.not_mem_nil, or_false] at hmem
    rcases hmem with rfl | rfl | rfl | rfl | rfl | rfl | rfl | rfl
    all_goals
      go_wp2_with fail
      go_ret
      exact ⟨rfl, rfl⟩
  · rw [longB, if_neg hs1] at hm
    have hne : ∀ k : UInt8, k ∈ signsB → ((c.toNat : Int) == (k.toNat : Int)) = false := fun k hk => by
      rw [beq_eq_false_iff_ne]
      intro he
      refine hs1 ?_
      rw [UInt8.toNat_inj.1 (show c.toNat = k.toNat by omega)]
      simpa using hk
    have n1 : ((c.toNat : Int) == 61) = false := hne 61 (by decide)
    have n2 : ((c.toNat : Int) == 60) = false := hne 60 (by decide)
    have n3 : ((c.toNat : Int) == 43) = false := hne 43 (by decide)
    have n4 : ((c.toNat : Int) == 45) = false := hne 45 (by decide)
    have n5 : ((c.toNat : Int) == 42) = false := hne 42 (by decide)
    have n6 : ((c.toNat : Int) == 40) = false := hne 40 (by decide)
    have n7 : ((c.toNat : Int) == 41) = false := hne 41 (by decide)
    have n8 : ((c.toNat : Int) == 48) = false := hne 48 (by decide)
    clear hs1 hne
    by_cases hd1 : 49 ≤ c.toNat ∧ c.toNat ≤ 57
    · rw [if_pos hd1] at hm
      have d1 : 49 ≤ (c.toNat : Int) := by omega
      have d2 : (c.toNat : Int) ≤ 57 := by omega
      have d2' : ¬ 57 < (c.toNat : Int) := by omega
      have hcd : digitB c = true := by simp only [digitB, decide_eq_true_eq]; omega
      obtain ⟨k, hk⟩ : ∃ k, ((s.data.toList.drop (f + 1)).takeWhile digitB).length + 1 = k := ⟨_, rfl⟩
      rw [hk] at hm
      obtain ⟨hfk, hlt, hend⟩ := tw_s s f k hf hk
      have hD := ext_tw0 s f k hf hk
      rw [hc] at hD
      have HLT := Lib.hid hlt
      have HEND := Lib.hid hend
      have HI := Lib.hid (fun (W : World) => rfInt_walk (s.extract f (f + k)) W (by rw [ByteArray.size_extract]; omega) (by rw [hD]; simp) (by rw [hD, List.all_cons, hcd, List.all_takeWhile]; rfl) (fun hbig => spell_great (by rw [hD]; exact hd1.1) (by rw [ba_len]; exact hbig)))
      rw [hD] at HI
      have HM := Lib.hid hm
      have k1 : 1 ≤ k := by omega
      clear hlt hend hd1 hk hm hD hcd hc
      go_wp2_with fail
      go_loop [6] (fun n => ∃ j : Nat, 1 ≤ j ∧ j ≤ k ∧ n = .int .i64 (j : Int)) (fun n => k - (intOf n).toNat)
      case atStart => exact ⟨1, Nat.le_refl _, k1, rfl⟩
      case round =>
        obtain ⟨j, hj1, hjk, rfl⟩ := hrel
        have j0 : (0 : Int) ≤ (f : Int) + (j : Int) := by omega
        by_cases hlt : j < k
        · have hjs : f + j < s.size := by omega
          have j1 : (f : Int) + (j : Int) < (s.size : Int) := by omega
          have hdj := HLT.out j hj1 hlt hjs
          simp only [digitB, decide_eq_true_eq] at hdj
          have e1 : 48 ≤ (((s[f + j]'hjs).toNat : Nat) : Int) := by omega
          have e2 : (((s[f + j]'hjs).toNat : Nat) : Int) ≤ 57 := by omega
          have wr1 : wrap64 ((j : Int) + 1) = (j : Int) + 1 := IntWalk.wrap64_in _ (by omega)
          clear hdj
          go_wp2_with fail
          go_round
          case rel => exact ⟨j + 1, by omega, by omega, rfl⟩
          case measure => simp only [intOf]; omega
        · obtain rfl : j = k := by omega
          have i3 : (f : Int) ≤ (f : Int) + (j : Int) := by omega
          have i4 : (f : Int) + (j : Int) ≤ (s.size : Int) := by omega
          have hcase : ((f : Int) + (j : Int) < (s.size : Int) ∧ ∃ h : f + j < s.size, (((s[f + j]'h).toNat : Nat) : Int) < 48 ∨ (48 ≤ (((s[f + j]'h).toNat : Nat) : Int) ∧ ¬ (((s[f + j]'h).toNat : Nat) : Int) ≤ 57)) ∨ ¬ (f : Int) + (j : Int) < (s.size : Int) := by
            by_cases hjs : f + j < s.size
            · have hdj := HEND.out hjs
              simp only [digitB, decide_eq_false_iff_not] at hdj
              exact .inl ⟨by omega, hjs, by omega⟩
            · exact .inr (by omega)
          have hit : (spell 0 (c :: (s.data.toList.drop (f + 1)).takeWhile digitB) ≤ 9223372036854775807 ∧ m = j) ∨ (¬ spell 0 (c :: (s.data.toList.drop (f + 1)).takeWhile digitB) ≤ 9223372036854775807 ∧ m = 0) := by
            by_cases hsp : spell 0 (c :: (s.data.toList.drop (f + 1)).takeWhile digitB) ≤ 9223372036854775807
            · exact .inl ⟨hsp, by rw [← HM.out, if_pos hsp]⟩
            · exact .inr ⟨hsp, by rw [← HM.out, if_neg hsp]⟩
          clear HLT HEND HM
          have HII : Hid (∀ W, Calls Tryd.prog 45 #[.string (s.extract f (f + j))] W fun e w' => ∃ n, e = .returned (.tuple #[.int .i64 n, .bool (decide (m = j))]) ∧ W = w') := fun W => by
            refine (HI.out W).mono ?_
            rintro e w' ⟨⟨n, b, rfl, rfl, -⟩, rfl⟩
            refine ⟨n, ?_, rfl⟩
            rcases hit with ⟨h1, h2⟩ | ⟨h1, h2⟩
            · rw [decide_eq_true h1, decide_eq_true h2]
            · rw [decide_eq_false h1, decide_eq_false (by omega)]
          clear HI
          have hm2 : m = j ∨ m = 0 := by rcases hit with ⟨_, h2⟩ | ⟨_, h2⟩ <;> omega
          clear hit
          rcases hcase with ⟨j1, hjs, e1 | ⟨e1, e2⟩⟩ | j1
          all_goals
            go_wp2_with fail
            refine (HII.out _).mono ?_
            rintro e w2 ⟨n, rfl, rfl⟩
            rcases hm2 with rfl | rfl
            · rw [decide_eq_true rfl]
              go_wp2_with fail
              go_ret
              exact ⟨rfl, rfl⟩
            · rw [decide_eq_false (by omega)]
              go_wp2_with fail
              go_ret
              exact ⟨rfl, rfl⟩
    rw [if_neg hd1] at hm
    by_cases hq : c = 39
    · rw [if_pos hq] at hm
      subst hq
      clear n1 n2 n3 n4 n5 n6 n7 n8 hd1 hc
      obtain ⟨k, hk⟩ : ∃ k, ((s.data.toList.drop (f + 1)).takeWhile (· != 39)).length + 1 = k := ⟨_, rfl⟩
      obtain ⟨hfk, hlt, hend⟩ := tw_s s f k hf hk
      have hX := ext_tw s f k hk
      have HLT := Lib.hid hlt
      have HEND := Lib.hid hend
      obtain ⟨b, hb⟩ : ∃ b, ((s.data.toList.drop (f + 1)).takeWhile (· != 39)).all quotB = b := ⟨_, rfl⟩
      have HQ := Lib.hid (fun (W : World) => by have := rfQuot_walk (s.extract (f + 1) (f + k)) W (by rw [ByteArray.size_extract]; unfold maxLen; omega); rw [hX, hb] at this; exact this)
      have hm' : (f + k < s.size ∧ b = true ∧ m = k + 1) ∨ (f + k < s.size ∧ b = false ∧ m = 0) ∨ (¬ f + k < s.size ∧ m = 0) := by
        have hl : (s.data.toList.drop (f + 1)).length = s.size - (f + 1) := by rw [List.length_drop, ba_len]
        rw [hl] at hm
        by_cases h1 : f + k < s.size
        · rw [hb] at hm
          cases b with
          | true => rw [if_pos ⟨by omega, rfl⟩] at hm; exact .inl ⟨h1, rfl, by omega⟩
          | false => rw [if_neg (fun h => absurd h.2 (by decide))] at hm; exact .inr (.inl ⟨h1, rfl, by omega⟩)
        · rw [if_neg (fun h => by omega)] at hm; exact .inr (.inr ⟨h1, by omega⟩)
      have k1 : 1 ≤ k := by omega
      clear hlt hend hX hb hm hk
      go_wp2_with fail
      go_loop [6] (fun n => ∃ j : Nat, 1 ≤ j ∧ j ≤ k ∧ n = .int .i64 (j : Int)) (fun n => k - (intOf n).toNat)
      case atStart => exact ⟨1, Nat.le_refl _, k1, rfl⟩
      case round =>
        obtain ⟨j, hj1, hjk, rfl⟩ := hrel
        have j0 : (0 : Int) ≤ (f : Int) + (j : Int) := by omega
        have hbyte : ∀ x : UInt8, (x != 39) = !((x.toNat : Int) == 39) := fun x => by
          rw [Bool.eq_iff_iff]
          simp only [bne_iff_ne, ne_eq, Bool.not_eq_true', beq_eq_false_iff_ne]
          exact ⟨fun h1 h2 => h1 (UInt8.toNat_inj.1 (by have : (39 : UInt8).toNat = 39 := rfl; omega)), fun h1 h2 => h1 (by rw [h2]; rfl)⟩
        by_cases hlt : j < k
        · have hjs : f + j < s.size := by omega
          have j1 : (f : Int) + (j : Int) < (s.size : Int) := by omega
          have hdj := HLT.out j hj1 hlt hjs
          rw [hbyte, Bool.not_eq_true'] at hdj
          have wr1 : wrap64 ((j : Int) + 1) = (j : Int) + 1 := IntWalk.wrap64_in _ (by omega)
          clear hbyte hm'
          go_wp2_with fail
          go_round
          case rel => exact ⟨j + 1, by omega, by omega, rfl⟩
          case measure => simp only [intOf]; omega
        · obtain rfl : j = k := by omega
          have i3 : (f : Int) + 1 ≤ (f : Int) + (j : Int) := by omega
          have i4 : (f : Int) + (j : Int) ≤ (s.size : Int) := by omega
          rcases hm' with ⟨h1, rfl, rfl⟩ | ⟨h1, rfl, rfl⟩ | ⟨h1, rfl⟩
          · have j1 : (f : Int) + (j : Int) < (s.size : Int) := by omega
            have hdj := HEND.out h1
            rw [hbyte, Bool.not_eq_false'] at hdj
            have wr1 : wrap64 ((j : Int) + 1) = (j : Int) + 1 := IntWalk.wrap64_in _ (by omega)
            clear hbyte HLT HEND
            go_wp2_with fail
            refine (HQ.out _).mono ?_
            rintro e w2 ⟨rfl, rfl⟩
            go_wp2_with fail
            go_ret
            exact ⟨rfl, rfl⟩
          · have j1 : (f : Int) + (j : Int) < (s.size : Int) := by omega
            have hdj := HEND.out h1
            rw [hbyte, Bool.not_eq_false'] at hdj
            clear hbyte HLT HEND
            go_wp2_with fail
            refine (HQ.out _).mono ?_
            rintro e w2 ⟨rfl, rfl⟩
            go_wp2_with fail
            go_ret
            exact ⟨rfl, rfl⟩
          · have j1 : ¬ (f : Int) + (j : Int) < (s.size : Int) := by omega
            clear hbyte HLT HEND
            go_wp2_with fail
            go_ret
            exact ⟨rfl, rfl⟩
    rw [if_neg hq] at hm
    have n9 : ((c.toNat : Int) == 39) = false := by
      rw [beq_eq_false_iff_ne]
      intro h
      exact hq (UInt8.toNat_inj.1 (by have : (39 : UInt8).toNat = 39 := rfl; omega))
    by_cases hlet : 97 ≤ c.toNat ∧ c.toNat ≤ 122
    · rw [if_pos hlet] at hm
      have d1 : 49 ≤ (c.toNat : Int) := by omega
      have d2 : ¬ (c.toNat : Int) ≤ 57 := by omega
      have d3 : 97 ≤ (c.toNat : Int) := by omega
      have d4 : (c.toNat : Int) ≤ 122 := by omega
      obtain ⟨k, hk⟩ : ∃ k, ((s.data.toList.drop (f + 1)).takeWhile letterB).length + 1 = k := ⟨_, rfl⟩
      rw [hk] at hm
      obtain ⟨hfk, hlt, hend⟩ := tw_s s f k hf hk
      have HLT := Lib.hid hlt
      have HEND := Lib.hid hend
      have HLW := Lib.hid rfLetter_walk
      have HM := Lib.hid hm
      have k1 : 1 ≤ k := by omega
      clear hlt hend hm hk hq hlet hd1 hc
      go_wp2_with fail
      go_loop [6] (fun n => ∃ j : Nat, 1 ≤ j ∧ j ≤ k ∧ n = .int .i64 (j : Int)) (fun n => k - (intOf n).toNat)
      case atStart => exact ⟨1, Nat.le_refl _, k1, rfl⟩
      case round =>
        obtain ⟨j, hj1, hjk, rfl⟩ := hrel
        have j0 : (0 : Int) ≤ (f : Int) + (j : Int) := by omega
        by_cases hlt : j < k
        · have hjs : f + j < s.size := by omega
          have j1 : (f : Int) + (j : Int) < (s.size : Int) := by omega
          have HL := Lib.hid (fun W => by have := HLW.out (s[f + j]'hjs) W; rw [HLT.out j hj1 hlt hjs] at this; exact this)
          have wr1 : wrap64 ((j : Int) + 1) = (j : Int) + 1 := IntWalk.wrap64_in _ (by omega)
          clear HLT HEND HLW
          go_wp2_with fail
          refine (HL.out _).mono ?_
          rintro e w2 ⟨rfl, rfl⟩
          go_wp2_with fail
          go_round
          case rel => exact ⟨j + 1, by omega, by omega, rfl⟩
          case measure => simp only [intOf]; omega
        · obtain rfl : j = k := by omega
          have hm' : ((j : Int) ≤ 32 ∧ m = j) ∨ (¬ (j : Int) ≤ 32 ∧ m = 0) := by
            have := HM.out
            by_cases h : j ≤ 32
            · rw [if_pos h] at this; exact .inl ⟨by omega, by omega⟩
            · rw [if_neg h] at this; exact .inr ⟨by omega, by omega⟩
          clear HM
          by_cases hjs : f + j < s.size
          · have j1 : (f : Int) + (j : Int) < (s.size : Int) := by omega
            have HL := Lib.hid (fun W => by have := HLW.out (s[f + j]'hjs) W; rw [HEND.out hjs] at this; exact this)
            clear HLT HEND HLW
            rcases hm' with ⟨h1, rfl⟩ | ⟨h1, rfl⟩
            all_goals
              go_wp2_with fail
              refine (HL.out _).mono ?_
              rintro e w2 ⟨rfl, rfl⟩
              go_wp2_with fail
              go_ret
              exact ⟨rfl, rfl⟩
          · have j1 : ¬ (f : Int) + (j : Int) < (s.size : Int) := by omega
            clear HLT HEND HLW
            rcases hm' with ⟨h1, rfl⟩ | ⟨h1, rfl⟩
            all_goals
              go_wp2_with fail
              go_ret
              exact ⟨rfl, rfl⟩
    · rw [if_neg hlet] at hm
      subst hm
      rcases (by omega : c.toNat < 49 ∨ (57 < c.toNat ∧ c.toNat < 97) ∨ 122 < c.toNat) with h1 | h1 | h1
      · have d1 : ¬ 49 ≤ (c.toNat : Int) := by omega
        have d2 : ¬ 97 ≤ (c.toNat : Int) := by omega
        clear hd1 hq hlet h1 hc
        go_wp2_with fail
        go_ret
        exact ⟨rfl, rfl⟩
      · have d1 : 49 ≤ (c.toNat : Int) := by omega
        have d3 : ¬ (c.toNat : Int) ≤ 57 := by omega
        have d2 : ¬ 97 ≤ (c.toNat : Int) := by omega
        clear hd1 hq hlet h1 hc
        go_wp2_with fail
        go_ret
        exact ⟨rfl, rfl⟩
      · have d1 : 49 ≤ (c.toNat : Int) := by omega
        have d3 : ¬ (c.toNat : Int) ≤ 57 := by omega
        have d2 : 97 ≤ (c.toNat : Int) := by omega
        have d4 : ¬ (c.toNat : Int) ≤ 122 := by omega
        clear hd1 hq hlet h1 hc
        go_wp2_with fail
        go_ret
        exact ⟨rfl, rfl⟩
end Go.Proofs.YtkmgbkcpjlilpaaDoor
