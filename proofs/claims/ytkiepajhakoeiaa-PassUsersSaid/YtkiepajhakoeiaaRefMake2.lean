/- docketref21: Make, Same. -/
import Derived.Test.YtkiepajhakoeiaaRefMake
import Derived.Test.YtkiepajhakoeiaaMake
namespace Go.Proofs.Ytkiepajhakoeiaa
open Go.RowKit

theorem Own.appStrs {w : World} {base B vc n c : Nat} {va a : Option Addr} {xs ys : List ByteArray} (h : Own w base 9 1 va vc n (xs.map Value.string)) (hbase : base ≤ w.heap.size)
    (hs : Strs B w (.slice a ys.length c) ys) (hn : n + ys.length ≤ 1000000) :
    ∃ va' vc' w', (Builtin.append_ #[22, 22] 22 #[.slice va n vc, .slice a ys.length c]).run Try.prog w = .ok (.slice va' (n + ys.length) vc') w' ∧ Own w' base 9 1 va' vc' (n + ys.length) ((xs ++ ys).map Value.string) ∧ w.grownBy w' (blockOf va) := by
  obtain ⟨a', c', b, o, he, -, ha, hc⟩ := hs.cells
  injection he with e1 e2 e3
  subst e1 e3
  obtain ⟨va', vc', w', h1, h2, h3⟩ := Own.app elemStr 22 h hbase a ys.length c b o (ys.map Value.string) (by simp) (fun h => (ha h).1) (by
      intro j u hj
      have hjl : j < ys.length := by
        rcases Nat.lt_or_ge j ys.length with h | h
        · exact h
        · rw [List.getElem?_eq_none (by simpa using h)] at hj; cases hj
      rw [hc j hjl, ← hj]
      simp [hjl]) (by intro u hu; obtain ⟨s, -, rfl⟩ := List.mem_map.1 hu; rfl) (by unfold maxLen; omega) (by omega)
  exact ⟨va', vc', w', h1, by rw [List.map_append]; exact h2, h3⟩
theorem ret_refMake {g : Nat} {w : World} {a : Act} {u0 u1 u2 u3 v : Value} {R : Ending → World → Prop} (hp : a.tmps.getD 8 undef = .pointer (some ⟨g, 0, none⟩)) (hv : a.tmps.getD 9 undef = v) (hd : a.defers = [])
    (h0 : w.cell? ⟨g, 0, none⟩ = some u0) (h1 : w.cell? ⟨g, 1, none⟩ = some u1) (h2 : w.cell? ⟨g, 2, none⟩ = some u2) (h3 : w.cell? ⟨g, 3, none⟩ = some u3)
    (hR : R (.returned (.tuple #[.agg #[u0, u1, u2, u3], v])) w) : bodyPost Try.prog Try.f7 R .ret a w := by
  refine bodyPost_ret ?_ hd hR
  subst hv
  have hp' : a.tmps[8]?.getD undef = .pointer (some ⟨g, 0, none⟩) := by simpa using hp
  simp [results, Try.results7, hp', go_sem, h0, h1, h2, h3]

set_option maxHeartbeats 4000000 in
set_option maxRecDepth 100000 in
theorem refMake_walk (n s pw : ByteArray) (a : Option Addr) (c : Nat) (rs : List ByteArray) (w : World) (hn : n.size ≤ maxLen) (hs : s.size ≤ maxLen) (hpw : pw.size ≤ maxLen) (hr : ∀ x ∈ rs, x.size ≤ maxLen) (hl : rs.length ≤ 1000000)
    (h : Strs w.heap.size w (.slice a rs.length c) rs) :
    Calls Try.prog 7 #[.string n, .string s, .string pw, .slice a rs.length c] w (MakeEnd n s pw rs w) := by
  have HN := Lib.hid (fun W => refNamed n W hn)
  obtain ⟨E, hE⟩ : ∃ E, makeE n s pw rs = E := ⟨_, rfl⟩
  have HE := Lib.hid hE
  have hend : MakeEnd n s pw rs w = fun e w' => (E ≠ 0 ∧ e = .returned (.tuple #[noUser, .int .i64 E]) ∨ E = 0 ∧ ∃ va vc, e = .returned (.tuple #[.agg #[.string n, .string s, .string ⟨(passS s pw).toArray⟩, .slice va rs.length vc], .int .i64 0]) ∧ Own w' w.heap.size 9 1 va vc rs.length (rs.map Value.string)) ∧ Below w.heap.size w w' := by
    rw [← hE]; rfl
  have HEND := Lib.hid hend
  clear hE hend
  have HC := Lib.hid (fun (W : World) (hb : Below w.heap.size w W) => refNames_walk (.slice a rs.length c) rs W.heap.size W (by unfold maxLen; omega) hr (Row.mono (h.below hb) hb.size))
  have HST := Lib.hid (fun (W : World) (hb : Below w.heap.size w W) => (Row.mono (h.below hb) hb.size : Strs W.heap.size W (.slice a rs.length c) rs))
  have HB0 : Hid (Below w.heap.size w (w.alloc (.cells #[.string ⟨#[]⟩, .string ⟨#[]⟩, .string ⟨#[]⟩, .slice none 0 0] 24))) := (Below.refl _ _).alloc (Nat.le_refl _) _
  have he : pw.toList.isEmpty = decide (pw.size = 0) := by
    rw [ba_empty, Bool.eq_iff_iff]
    simp only [List.isEmpty_iff, decide_eq_true_eq]
    constructor
    · intro h; rw [← ba_len, h]; rfl
    · intro h; exact List.eq_nil_of_length_eq_zero (by rw [ba_len]; omega)
  clear h hr
  unfold maxLen at hn hs hpw
  by_cases h1 : namedS n = true
  · rw [show named n.data.toList = true from h1] at HN
    by_cases h2 : 64 < s.size
    · have d2 : decide (64 < (s.size : Int)) = true := decide_eq_true (by omega)
      have H3 : Hid (E = 3) := by show _ = _; rw [← HE.out, makeE, h1, if_pos rfl, if_pos h2]
      clear h1 he
      go_enter Try.func7, Try.ntmps7
      go_wp2_with fail
      refine (HN.out _).mono ?_
      rintro e w1 ⟨rfl, rfl⟩
      go_wp2_with fail
      refine ret_refMake (g := w.heap.size) (u0 := .string ⟨#[]⟩) (u1 := .string ⟨#[]⟩) (u2 := .string ⟨#[]⟩) (u3 := .slice none 0 0) rfl rfl rfl (by go_simp) (by go_simp) (by go_simp) (by go_simp) ?_
      rw [HEND.out]
      exact ⟨.inl ⟨by rw [H3.out]; decide, by rw [H3.out]; rfl⟩, by first | exact below4 HB0.out (Nat.le_refl _) _ _ _ _ | exact HB0.out⟩
    have d2 : decide (64 < (s.size : Int)) = false := decide_eq_false (by omega)
    by_cases h0 : pw.size = 0
    · have hw : wordN pw.size = false := by simp [wordN, h0]
      have H3 : Hid (E = 210) := by show _ = _; rw [← HE.out, makeE, h1, if_pos rfl, if_neg h2, hw]; rfl
      rw [decide_eq_true h0] at he
      clear h1 h0 hw
      go_enter Try.func7, Try.ntmps7
      go_wp2_with fail
      refine (HN.out _).mono ?_
      rintro e w1 ⟨rfl, rfl⟩
      go_wp2_with fail
      refine ret_refMake (g := w.heap.size) (u0 := .string ⟨#[]⟩) (u1 := .string ⟨#[]⟩) (u2 := .string ⟨#[]⟩) (u3 := .slice none 0 0) rfl rfl rfl (by go_simp) (by go_simp) (by go_simp) (by go_simp) ?_
      rw [HEND.out]
      exact ⟨.inl ⟨by rw [H3.out]; decide, by rw [H3.out]; rfl⟩, by first | exact below4 HB0.out (Nat.le_refl _) _ _ _ _ | exact HB0.out⟩
    rw [decide_eq_false h0] at he
    by_cases h64 : 64 < pw.size
    · have hw : wordN pw.size = false := by simp [wordN]; omega
      have d3 : decide (64 < (pw.size : Int)) = true := decide_eq_true (by omega)
      have H3 : Hid (E = 210) := by show _ = _; rw [← HE.out, makeE, h1, if_pos rfl, if_neg h2, hw]; rfl
      clear h1 h0 hw
      go_enter Try.func7, Try.ntmps7
      go_wp2_with fail
      refine (HN.out _).mono ?_
      rintro e w1 ⟨rfl, rfl⟩
      go_wp2_with fail
      refine ret_refMake (g := w.heap.size) (u0 := .string ⟨#[]⟩) (u1 := .string ⟨#[]⟩) (u2 := .string ⟨#[]⟩) (u3 := .slice none 0 0) rfl rfl rfl (by go_simp) (by go_simp) (by go_simp) (by go_simp) ?_
      rw [HEND.out]
      exact ⟨.inl ⟨by rw [H3.out]; decide, by rw [H3.out]; rfl⟩, by first | exact below4 HB0.out (Nat.le_refl _) _ _ _ _ | exact HB0.out⟩
    have d3 : decide (64 < (pw.size : Int)) = false := decide_eq_false (by omega)
    have h3 : wordN pw.size = true := by simp [wordN]; omega
    have hpz : pw.size ≤ 64 := by omega
    have HE2 : Hid (E = if 32 < rs.length then 4 else if rs.all namedS then 0 else 5) := by show _ = _; rw [← HE.out, makeE, h1, if_pos rfl, if_neg h2, h3, if_pos rfl]
    clear h1 h3 HE h0
    by_cases h4 : 32 < rs.length
    · have d4 : decide (32 < (rs.length : Int)) = true := decide_eq_true (by omega)
      have H3 : Hid (E = 4) := by show _ = _; rw [HE2.out, if_pos h4]
      go_enter Try.func7, Try.ntmps7
      go_wp2_with fail
      refine (HN.out _).mono ?_
      rintro e w1 ⟨rfl, rfl⟩
      go_wp2_with fail
      refine ret_refMake (g := w.heap.size) (u0 := .string ⟨#[]⟩) (u1 := .string ⟨#[]⟩) (u2 := .string ⟨#[]⟩) (u3 := .slice none 0 0) rfl rfl rfl (by go_simp) (by go_simp) (by go_simp) (by go_simp) ?_
      rw [HEND.out]
      exact ⟨.inl ⟨by rw [H3.out]; decide, by rw [H3.out]; rfl⟩, by first | exact below4 HB0.out (Nat.le_refl _) _ _ _ _ | exact HB0.out⟩
    have d4 : decide (32 < (rs.length : Int)) = false := decide_eq_false (by omega)
    have HE3 : Hid (E = if rs.all namedS then 0 else 5) := by
      show _ = _
      rw [HE2.out, if_neg h4]
    cases h5 : rs.all namedS
    · have H5 : Hid (E = 5) := by show _ = _; rw [HE3.out, h5]; rfl
      rw [h5] at HC
      clear h5 HE2 HE3
      go_enter Try.func7, Try.ntmps7
      go_wp2_with fail
      refine (HN.out _).mono ?_
      rintro e w1 ⟨rfl, rfl⟩
      go_wp2_with fail
      refine (HC.out _ HB0.out).mono ?_
      rintro e w3 ⟨rfl, rfl⟩
      go_wp2_with fail
      refine ret_refMake (g := w.heap.size) (u0 := .string ⟨#[]⟩) (u1 := .string ⟨#[]⟩) (u2 := .string ⟨#[]⟩) (u3 := .slice none 0 0) rfl rfl rfl (by go_simp) (by go_simp) (by go_simp) (by go_simp) ?_
      rw [HEND.out]
      exact ⟨.inl ⟨by rw [H5.out]; decide, by rw [H5.out]; rfl⟩, by first | exact below4 HB0.out (Nat.le_refl _) _ _ _ _ | exact HB0.out⟩
    · have H0 : Hid (E = 0) := by show _ = _; rw [HE3.out, h5]; rfl
      rw [h5] at HC
      clear h5 HE2 HE3
      have HP := Lib.hid (fun W => refPass_walk s pw 4 W (by omega) (by omega) (by omega) (by omega))
      rw [show passB s.data.toList pw.data.toList 4 = passS s pw from rfl] at HP
      generalize passS s pw = D at HP HEND
      go_enter Try.func7, Try.ntmps7
      go_wp2_with fail
      refine (HN.out _).mono ?_
      rintro e w1 ⟨rfl, rfl⟩
      go_wp2_with fail
      refine (HC.out _ HB0.out).mono ?_
      rintro e w3 ⟨rfl, rfl⟩
      go_wp2_with fail
      refine (HP.out _).mono ?_
      rintro e w4 ⟨rfl, hb4⟩
      have HB4 := Lib.hid (HB0.out.trans (hb4.mono (by simp)))
      have hA4 := (Arr.new w [.string ⟨#[]⟩, .string ⟨#[]⟩, .string ⟨#[]⟩, .slice none 0 0] 24).below hb4 (by simp)
      have HZ4 : Hid (w.heap.size < w4.heap.size) := by show _ < _; have := hb4.size; simp at this; omega
      have hc4 : ∀ i, w4.cell? ⟨w.heap.size, i, none⟩ = (w.alloc (.cells #[.string ⟨#[]⟩, .string ⟨#[]⟩, .string ⟨#[]⟩, .slice none 0 0] 24)).cell? ⟨w.heap.size, i, none⟩ := fun i => hb4.cell (p := ⟨w.heap.size, i, none⟩) (by simp)
      have hf4 : ∀ i, w4.frozen? ⟨w.heap.size, i, none⟩ = (w.alloc (.cells #[.string ⟨#[]⟩, .string ⟨#[]⟩, .string ⟨#[]⟩, .slice none 0 0] 24)).frozen? ⟨w.heap.size, i, none⟩ := fun i => hb4.frozen (p := ⟨w.heap.size, i, none⟩) (by simp)
      have hB5 : Below w.heap.size w (w4.alloc (.cells #[.string n, .string s, .string ⟨D.toArray⟩, .slice none 0 0] 24)) := HB4.out.alloc HB4.out.size _
      obtain ⟨va, vc, w6, hap, hO6, hg6⟩ := Own.appStrs (xs := []) (Own.nil (w4.alloc (.cells #[.string n, .string s, .string ⟨D.toArray⟩, .slice none 0 0] 24)) (w4.heap.size + 1) _ _) (by simp) (HST.out _ hB5) (by omega)
      rw [Nat.zero_add, List.nil_append] at hO6
      rw [Nat.zero_add] at hap
      have hb6 : Below (w4.heap.size + 1) (w4.alloc (.cells #[.string n, .string s, .string ⟨D.toArray⟩, .slice none 0 0] 24)) w6 := (Below.refl _ _).grown hg6 (by simp) (fun k hk => by cases hk)
      have HB6 := Lib.hid (hB5.trans (hb6.mono (by have := HZ4.out; omega)))
      have HAP := Lib.hid hap; have HO6 := Lib.hid hO6
      have HA6 := Lib.hid ((((((((hA4.alloc (.cells #[.string n, .string s, .string ⟨D.toArray⟩, .slice none 0 0] 24)).below hb6 (by have := HZ4.out; omega)).far (a := ⟨w4.heap.size, 3, none⟩) (by show w.heap.size ≠ w4.heap.size; have := HZ4.out; omega) (.slice va rs.length vc)).set 0 (.string n)).set 1 (.string s)).set 2 (.string ⟨D.toArray⟩)).set 3 (.slice va rs.length vc)))
      clear hA4
      have hc6 : ∀ b i, b < w4.heap.size + 1 → w6.cell? ⟨b, i, none⟩ = (w4.alloc (.cells #[.string n, .string s, .string ⟨D.toArray⟩, .slice none 0 0] 24)).cell? ⟨b, i, none⟩ := fun b i hb => hb6.cell (p := ⟨b, i, none⟩) hb
      have hf6 : ∀ b i, b < w4.heap.size + 1 → w6.frozen? ⟨b, i, none⟩ = (w4.alloc (.cells #[.string n, .string s, .string ⟨D.toArray⟩, .slice none 0 0] 24)).frozen? ⟨b, i, none⟩ := fun b i hb => hb6.frozen (p := ⟨b, i, none⟩) hb
      have hwlt : w.heap.size < w4.heap.size := HZ4.out
      clear hb4 hB5 hap hO6 hg6 hb6
      go_wp2_with (at_builtin; refine wpList_append_run (by rfl) (.tmp 48) (.tmp 49) 22 (by rfl) (by rfl) (by rfl) HAP.out ?_)
      refine ret_refMake (g := w.heap.size) (u0 := .string n) (u1 := .string s) (u2 := .string ⟨D.toArray⟩) (u3 := .slice va rs.length vc) rfl rfl rfl (HA6.out.cell (j := 0) (by simp)) (HA6.out.cell (j := 1) (by simp)) (HA6.out.cell (j := 2) (by simp)) (HA6.out.cell (j := 3) (by simp)) ?_
      rw [HEND.out]
      have hO7 := HO6.out.setCell (a := ⟨w4.heap.size, 3, none⟩) (fun g hg => by have := (HO6.out.lt hg).1; show g ≠ w4.heap.size; omega) (.slice va rs.length vc)
      exact ⟨.inr ⟨H0.out, va, vc, rfl, (hO7.set4 (by omega) _ _ _ _).base_le (by omega)⟩, below4 (HB6.out.setCell (p := ⟨w4.heap.size, 3, none⟩) (by show w.heap.size ≤ w4.heap.size; omega) _) (Nat.le_refl _) _ _ _ _⟩
  · have h1' : namedS n = false := by simpa using h1
    rw [show named n.data.toList = false from h1'] at HN
    have H5 : Hid (E = 5) := by show _ = _; rw [← HE.out, makeE, h1']; rfl
    clear h1 h1' he
    go_enter Try.func7, Try.ntmps7
    go_wp2_with fail
    refine (HN.out _).mono ?_
    rintro e w1 ⟨rfl, rfl⟩
    go_wp2_with fail
    refine ret_refMake (g := w.heap.size) (u0 := .string ⟨#[]⟩) (u1 := .string ⟨#[]⟩) (u2 := .string ⟨#[]⟩) (u3 := .slice none 0 0) rfl rfl rfl (by go_simp) (by go_simp) (by go_simp) (by go_simp) ?_
    rw [HEND.out]
    exact ⟨.inl ⟨by rw [H5.out]; decide, by rw [H5.out]; rfl⟩, by first | exact below4 HB0.out (Nat.le_refl _) _ _ _ _ | exact HB0.out⟩

theorem strs_ne_false {a b : ByteArray} (h : a = b) : (a.toList != b.toList) = false := by rw [h]; simp
theorem strs_ne_true {a b : ByteArray} (h : a ≠ b) : (a.toList != b.toList) = true := by
  have h2 := ba_eq a b
  simp only [bne, h2, decide_eq_false h]; rfl
set_option maxHeartbeats 4000000 in
set_option maxRecDepth 100000 in
/-- two users that are the same -/
theorem refSame_yes (n s p : ByteArray) (a1 a2 : Option Addr) (c1 c2 : Nat) (rs : List ByteArray) (w : World) (hl : rs.length ≤ 1000000)
    (h1 : Strs w.heap.size w (.slice a1 rs.length c1) rs) (h2 : Strs w.heap.size w (.slice a2 rs.length c2) rs) :
    Calls Try.prog 10 #[.agg #[.string n, .string s, .string p, .slice a1 rs.length c1], .agg #[.string n, .string s, .string p, .slice a2 rs.length c2]] w fun e w' => e = .returned (.bool true) ∧ Below w.heap.size w w' := by
  obtain ⟨a', c', b1, o1, he, -, ha1, hc1⟩ := h1.cells
  injection he with e1 e2 e3
  subst e1 e3
  obtain ⟨a', c', b2, o2, he, -, ha2, hc2⟩ := h2.cells
  injection he with e1 e2 e3
  subst e1 e3
  have HA1 := Lib.hid ha1; have HC1 := Lib.hid hc1; have HA2 := Lib.hid ha2; have HC2 := Lib.hid hc2
  have hb0 : Below w.heap.size w ((w.alloc (.cells #[.string n, .string s, .string p, .slice a1 rs.length c1] 24)).alloc (.cells #[.string n, .string s, .string p, .slice a2 rs.length c2] 24)) := ((Below.refl _ _).alloc (Nat.le_refl _) _).alloc (by simp) _
  have HB0 := Lib.hid hb0
  clear h1 h2 ha1 hc1 ha2 hc2 hb0
  go_enter Try.func10, Try.ntmps10
  go_wp2
  go_loopw [5] (fun i wr => ∃ k q : Nat, k ≤ rs.length ∧ i = .int .i64 k ∧ wr = (((w.alloc (.cells #[.string n, .string s, .string p, .slice a1 rs.length c1] 24)).alloc (.cells #[.string n, .string s, .string p, .slice a2 rs.length c2] 24)).drewN q)) (fun i _ => rs.length - (intOf i).toNat)
  case atStart => exact ⟨0, 0, by omega, rfl, rfl⟩
  case round =>
    obtain ⟨k, q, hk, rfl, rfl⟩ := hrel
    by_cases hlt : k < rs.length
    · obtain ⟨rfl, hl1⟩ := HA1.out (by omega)
      obtain ⟨rfl, hl2⟩ := HA2.out (by omega)
      have x1 := (HB0.out.cell (p := ⟨b1, o1 + k, none⟩) hl1).trans (HC1.out k hlt)
      have x2 := (HB0.out.cell (p := ⟨b2, o2 + k, none⟩) hl2).trans (HC2.out k hlt)
      obtain ⟨t, ht⟩ : ∃ t, rs[k] = t := ⟨_, rfl⟩
      rw [ht] at x1 x2
      have i1 : (0 : Int) ≤ (k : Int) := by omega
      have i2 : (k : Int) < (rs.length : Int) := by omega
      have y1 : ((w.alloc (.cells #[.string n, .string s, .string p, .slice (some ⟨b1, o1, none⟩) rs.length c1] 24)).alloc (.cells #[.string n, .string s, .string p, .slice (some ⟨b2, o2, none⟩) rs.length c2] 24)).cell? ⟨w.heap.size, 3, none⟩ = some (.slice (some ⟨b1, o1, none⟩) rs.length c1) := by go_simp
      have y2 : ((w.alloc (.cells #[.string n, .string s, .string p, .slice (some ⟨b1, o1, none⟩) rs.length c1] 24)).alloc (.cells #[.string n, .string s, .string p, .slice (some ⟨b2, o2, none⟩) rs.length c2] 24)).cell? ⟨w.heap.size + 1, 3, none⟩ = some (.slice (some ⟨b2, o2, none⟩) rs.length c2) := by go_simp
      clear ht
      generalize (w.alloc (.cells #[.string n, .string s, .string p, .slice (some ⟨b1, o1, none⟩) rs.length c1] 24)).alloc (.cells #[.string n, .string s, .string p, .slice (some ⟨b2, o2, none⟩) rs.length c2] 24) = W at *
      go_wp2
      go_quiet (fail)
      go_wp2
      go_roundw
      case rel => exact ⟨k + 1, _, by omega, by go_num, rfl⟩
      case measure => simp [intOf]; omega
    · have hkl : rs.length ≤ k := by omega
      go_wp2
      go_ret
      exact ⟨rfl, below_drewN HB0.out _⟩
end Go.Proofs.Ytkiepajhakoeiaa
