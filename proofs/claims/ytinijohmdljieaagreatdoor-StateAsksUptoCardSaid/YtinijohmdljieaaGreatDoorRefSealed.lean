/- docketref14.Sealed. -/
import Derived.Test.YtinijohmdljieaaGreatDoorRefSum2
import Derived.Test.YtinijohmdljieaaGreatDoorH04
import Derived.Maps.AppendAt
namespace Go.Proofs.YtinijohmdljieaaGreatDoor
open Go.RowKit

/-- two slices of bytes that the call itself collects, apart -/
structure Two (w wr : World) (va : Option Addr) (vc n : Nat) (xs : List UInt8) (vb : Option Addr) (vd m : Nat) (ys : List UInt8) : Prop where
  a : Gr w wr va vc n xs
  b : Gr w wr vb vd m ys
  ne : ∀ g, va = some ⟨g, 0, none⟩ → vb ≠ some ⟨g, 0, none⟩
theorem Two.symm {w wr : World} {va vb : Option Addr} {vc n vd m : Nat} {xs ys : List UInt8} (h : Two w wr va vc n xs vb vd m ys) : Two w wr vb vd m ys va vc n xs := ⟨h.b, h.a, fun g h1 h2 => h.ne g h2 h1⟩
theorem Two.push {w wr : World} {va vb : Option Addr} {vc n vd m : Nat} {xs ys : List UInt8} (h : Two w wr va vc n xs vb vd m ys) (c : UInt8) (u : Value) (hu : u = bv c) (hn : n + 1 ≤ 100000000) :
    ∃ va' vc' w', (Builtin.append_ #[152, 152] 152 #[.slice va n vc, .slice (some ⟨wr.heap.size, 0, none⟩) 1 1]).run Tryz.prog (wr.alloc (.cells #[u] 5)) = .ok (.slice va' (n + 1) vc') w' ∧ Two w w' va' vc' (n + 1) (xs ++ [c]) vb vd m ys ∧ (wr.alloc (.cells #[u] 5)).grownBy w' (blockOf va) := by
  subst hu
  obtain ⟨⟨rfl, hO, hB⟩, ⟨hm, hO2, -⟩, hne⟩ := h
  have hz := hB.size
  have hO' := hO.alloc (.cells #[bv c] 5)
  obtain ⟨z, hzz, hzs⟩ := elemU8.info
  obtain ⟨i, hi, hz0, hz1, hz2⟩ := info_parts hzz
  obtain ⟨v', w', hrun, hown, hg, -, hat⟩ := run_append_own_at (P := Tryz.prog) (w := wr.alloc (.cells #[bv c] 5)) w.heap.size 152 152 5 i z 1 1 elemU8.sl hi hz0 hz1 hz2 hzs (by omega) (.slice va xs.length vc) xs.length (xs.map bv) hO'.row ⟨wr.heap.size, 0, none⟩ 1 1 [bv c] rfl (by
      intro j u hj
      match j, hj with
      | 0, hj => simp at hj; subst hj; simp [Addr.add, World.cell?, show (wr.alloc (.cells #[bv c] 5)).heap = wr.heap.push (.cells #[bv c] 5) from rfl]) (by intro u hu; simp at hu; subst hu; rfl) (by unfold maxLen; omega) (by omega) (by simp; omega)
  have hv : ∃ va' vc', v' = .slice va' (xs.length + 1) vc' := by
    rcases hown.2 with ⟨hv, h0⟩ | ⟨g, cap, _, hv, _⟩
    · omega
    · exact ⟨_, _, hv⟩
  obtain ⟨va', vc', rfl⟩ := hv
  have hg' : (wr.alloc (.cells #[bv c] 5)).grownBy w' (blockOf va) := by cases va <;> exact hg
  have hO2' : OwnB w' w.heap.size vb vd ys := (hO2.alloc (.cells #[bv c] 5)).grown hg' (fun g hg1 hg2 => by
    cases va with
    | none => cases hg2
    | some x =>
      rcases hO.block with ⟨e, -⟩ | ⟨g', e, -⟩
      · cases e
      · rw [e] at hg2
        injection hg2 with hg2
        subst hg2
        exact hne g e hg1)
  refine ⟨va', vc', w', hrun, ⟨⟨by simp, ⟨by have := hown; rw [List.length_append, List.map_append]; exact this⟩, hO'.belowG (hB.alloc hz _) (Nat.le_refl _) (by simp; omega) hg'⟩, ⟨hm, hO2', hO'.belowG (hB.alloc hz _) (Nat.le_refl _) (by simp; omega) hg'⟩, fun g h1 h2 => ?_⟩, hg'⟩
  subst h1
  rcases hat with h3 | h3
  · cases va with
    | none => cases h3
    | some x =>
      rcases hO.block with ⟨e, -⟩ | ⟨g', e, -⟩
      · cases e
      · injection e with e
        subst e
        injection h3 with h3
        simp at h3
        subst h3
        exact hne _ rfl h2
  · have := (hO2.lt h2).2
    injection h3 with h3
    simp at h3
    omega
theorem Two.app {w wr : World} {va vb a : Option Addr} {vc n vd m c B : Nat} {xs ys zs : List UInt8} (h : Two w wr va vc n xs vb vd m ys) (hs : Bytes B wr (.slice a zs.length c) zs) (hn : n + zs.length ≤ 100000000) :
    ∃ va' vc' w', (Builtin.append_ #[152, 152] 152 #[.slice va n vc, .slice a zs.length c]).run Tryz.prog wr = .ok (.slice va' (n + zs.length) vc') w' ∧ Gr w w' va' vc' (n + zs.length) (xs ++ zs) ∧ Gr w w' vb vd m ys := by
  obtain ⟨⟨rfl, hO, hB⟩, ⟨hm, hO2, -⟩, hne⟩ := h
  obtain ⟨va', vc', w', h1, h2, h3⟩ := hO.app hB.size hs hn
  have hb := hO.belowG hB (Nat.le_refl _) hB.size h3
  refine ⟨va', vc', w', h1, ⟨by simp, h2, hb⟩, ⟨hm, hO2.grown h3 (fun g hg1 hg2 => ?_), hb⟩⟩
  cases va with
  | none => cases hg2
  | some x =>
    rcases hO.block with ⟨e, -⟩ | ⟨g', e, -⟩
    · cases e
    · rw [e] at hg2
      injection hg2 with hg2
      subst hg2
      exact hne g e hg1
/-- one more byte; a variable that lies apart stays -/
theorem Gr.pushAt {w wr : World} {va : Option Addr} {vc n gd : Nat} {t : TypeId} {vs : List Value} {xs : List UInt8} (h : Gr w wr va vc n xs) (c : UInt8) (u : Value) (hu : u = bv c) (hn : n + 1 ≤ 100000000) (hA : Arr wr gd t vs) (hne : ∀ g, va = some ⟨g, 0, none⟩ → g ≠ gd) :
    ∃ va' vc' w', (Builtin.append_ #[152, 152] 152 #[.slice va n vc, .slice (some ⟨wr.heap.size, 0, none⟩) 1 1]).run Tryz.prog (wr.alloc (.cells #[u] 5)) = .ok (.slice va' (n + 1) vc') w' ∧ Gr w w' va' vc' (n + 1) (xs ++ [c]) ∧ Arr w' gd t vs ∧ ∀ g, va' = some ⟨g, 0, none⟩ → g ≠ gd := by
  subst hu
  obtain ⟨rfl, hO, hB⟩ := h
  have hz := hB.size
  have hO' := hO.alloc (.cells #[bv c] 5)
  obtain ⟨z, hzz, hzs⟩ := elemU8.info
  obtain ⟨i, hi, hz0, hz1, hz2⟩ := info_parts hzz
  obtain ⟨v', w', hrun, hown, hg, -, hat⟩ := run_append_own_at (P := Tryz.prog) (w := wr.alloc (.cells #[bv c] 5)) w.heap.size 152 152 5 i z 1 1 elemU8.sl hi hz0 hz1 hz2 hzs (by omega) (.slice va xs.length vc) xs.length (xs.map bv) hO'.row ⟨wr.heap.size, 0, none⟩ 1 1 [bv c] rfl (by
      intro j u hj
      match j, hj with
      | 0, hj => simp at hj; subst hj; simp [Addr.add, World.cell?, show (wr.alloc (.cells #[bv c] 5)).heap = wr.heap.push (.cells #[bv c] 5) from rfl]) (by intro u hu; simp at hu; subst hu; rfl) (by unfold maxLen; omega) (by omega) (by simp; omega)
  have hv : ∃ va' vc', v' = .slice va' (xs.length + 1) vc' := by
    rcases hown.2 with ⟨hv, h0⟩ | ⟨g, cap, _, hv, _⟩
    · omega
    · exact ⟨_, _, hv⟩
  obtain ⟨va', vc', rfl⟩ := hv
  have hg' : (wr.alloc (.cells #[bv c] 5)).grownBy w' (blockOf va) := by cases va <;> exact hg
  have hnb : some gd ≠ blockOf va := by
    intro e
    rcases hO.block with ⟨h1, -⟩ | ⟨g', h1, -⟩
    · rw [h1] at e; cases e
    · rw [h1] at e
      injection e with e
      exact hne g' h1 e.symm
  refine ⟨va', vc', w', hrun, ⟨by simp, ⟨by have := hown; rw [List.length_append, List.map_append]; exact this⟩, hO'.belowG (hB.alloc hz _) (Nat.le_refl _) (by simp; omega) hg'⟩, ⟨(hg'.block gd (by have := hA.lt; simp; omega) hnb).trans (hA.alloc _).heap⟩, fun g h1 => ?_⟩
  subst h1
  rcases hat with h3 | h3
  · cases va with
    | none => cases h3
    | some x =>
      rcases hO.block with ⟨e, -⟩ | ⟨g', e, -⟩
      · cases e
      · injection e with e
        subst e
        injection h3 with h3
        simp at h3
        subst h3
        exact hne _ rfl
  · injection h3 with h3
    have := hA.lt
    simp at h3
    omega
def kst (s : List UInt8) (k : Nat) : List UInt8 := s.take k ++ List.replicate (64 - k) 0
theorem kst_zero (s : List UInt8) : kst s 0 = List.replicate 64 0 := by simp [kst]
theorem kst_next {s : List UInt8} {k : Nat} (h : k < s.length) (h2 : k < 64) : (kst s k).set k s[k] = kst s (k + 1) := by
  have e : 64 - k = (64 - (k + 1)) + 1 := by omega
  rw [kst, kst, e, List.replicate_succ, List.set_append, if_neg (by simp; omega)]
  have hl : (s.take k).length = k := by simp; omega
  rw [hl, Nat.sub_self, List.set_cons_zero, List.take_succ_eq_append_getElem h, List.append_assoc]
  rfl
theorem kst_len (s : List UInt8) (k : Nat) (h : k ≤ s.length) (h2 : k ≤ 64) : (kst s k).length = 64 := by simp [kst]; omega

set_option maxHeartbeats 8000000 in
set_option maxRecDepth 100000 in
theorem refSealed_walk (vs v : Value) (s bs : List UInt8) (w : World) (hs : Bytes w.heap.size w vs s) (h : Bytes w.heap.size w v bs) (hsl : s.length ≤ 1000000) (hl : bs.length ≤ 900000) :
    Calls Tryz.prog 130 #[vs, v] w fun e w' => e = .returned (.agg ((sealW s bs).map bv).toArray) ∧ Below w.heap.size w w' := by
  obtain ⟨a1, c1, b1, o1, rfl, -, hsa, hsc⟩ := hs.cells
  obtain ⟨a2, c2, b2, o2, rfl, -, -, -⟩ := h.cells
  have HH := Lib.hid h
  have hO0 := (new32 w).alloc (.cells (List.replicate 64 (bv 0)).toArray 249)
  have hK0 := Arr.new (w.alloc (.cells (List.replicate 32 (bv 0)).toArray 214)) (List.replicate 64 (bv 0)) 249
  rw [show (w.alloc (.cells (List.replicate 32 (bv 0)).toArray 214)).heap.size = w.heap.size + 1 by simp] at hK0
  have hB0 : Below w.heap.size w ((w.alloc (.cells (List.replicate 32 (bv 0)).toArray 214)).alloc (.cells (List.replicate 64 (bv 0)).toArray 249)) := ((Below.refl _ _).alloc (Nat.le_refl _) _).alloc (by simp) _
  have hz0 : ((w.alloc (.cells (List.replicate 32 (bv 0)).toArray 214)).alloc (.cells (List.replicate 64 (bv 0)).toArray 249)).heap.size = w.heap.size + 2 := by simp
  have HS := Lib.hid (refSum_walk (.slice a1 s.length c1) s ((w.alloc (.cells (List.replicate 32 (bv 0)).toArray 214)).alloc (.cells (List.replicate 64 (bv 0)).toArray 249)) (Row.mono (hs.below hB0) hB0.size) hsl)
  obtain ⟨kb, hkb⟩ : ∃ z, keyB s = z := ⟨_, rfl⟩
  have HSW : Hid (sealW s bs = sha (kb.map (xb 92) ++ sha (kb.map (xb 54) ++ bs))) := by show _ = _; rw [← hkb]; rfl
  have HKL : Hid (kb.length = 64) := by show _ = _; rw [← hkb]; exact keyB_len s
  have HKB := Lib.hid hkb
  have HO0 := Lib.hid hO0; have HK0 := Lib.hid hK0; have HB0 := Lib.hid hB0; have HZ0 := Lib.hid hz0; have HA := Lib.hid hsa; have HC := Lib.hid hsc
  clear hO0 hK0 hB0 hz0 hs h hkb hsa hsc
  by_cases hb : 64 < s.length
  · have d1 : decide (64 < (s.length : Int)) = true := decide_eq_true (by omega)
    have HKE : Hid (kst (sha s) 32 = kb) := by
      show _ = _
      rw [← HKB.out, keyB, short, if_pos hb, kst, List.take_of_length_le (by rw [sha_len]; omega), sha_len]
    obtain ⟨S0, hS0⟩ : ∃ z, sha s = z := ⟨_, rfl⟩
    have HSL0 : Hid (S0.length = 32) := by show _ = _; rw [← hS0]; exact sha_len s
    rw [hS0] at HS HKE
    clear hS0
    go_enter Tryz.func130, Tryz.ntmps130
    go_wp2_with fail
    refine HS.out.mono ?_
    rintro e w1 ⟨rfl, hb1⟩
    have hz1 := hb1.size
    rw [HZ0.out] at hz1
    have HT1 := Lib.hid (store32 w1 S0 HSL0.out)
    have HK1 := Lib.hid (((HK0.out.below hb1 (by rw [HZ0.out]; omega)).below HT1.out.2.2.1 (by omega)))
    have HO1 := Lib.hid (((HO0.out.below hb1 (by rw [HZ0.out]; omega)).below HT1.out.2.2.1 (by omega)))
    have HB1 := Lib.hid ((HB0.out.trans (hb1.mono (by rw [HZ0.out]; omega))).trans (HT1.out.2.2.1.mono (by omega)))
    clear hb1 HS HK0 HO0 HB0
    have tok1 : True := trivial
    go_wp2_with (have _t := tok1; refine wpList_store_mid (by rfl) 214 _ _ (by rfl) w1.heap.size 0 (S0.map bv).toArray (by rfl) (by rfl) HT1.out.1 (info32 HSL0.out) (bytes_one S0) ?_; clear tok1 _t; generalize hW : World.setCells _ w1.heap.size 0 (S0.map bv).toArray.toList = wy; have hD1 : Hid (Arr wy w1.heap.size 214 (S0.map bv)) := (by rw [← hW]; exact HT1.out.2.1 : Arr _ _ _ _); have hK1 : Hid (Arr wy (w.heap.size + 1) 249 (List.replicate 64 (bv 0))) := (by rw [← hW]; exact HK1.out : Arr _ _ _ _); have hO1 : Hid (Arr wy w.heap.size 214 (List.replicate 32 (bv 0))) := (by rw [← hW]; exact HO1.out : Arr _ _ _ _); have hB1 : Hid (Below w.heap.size w wy) := (by rw [← hW]; exact HB1.out : Below _ _ _); clear hW HT1 HK1 HO1 HB1)
    have hgd : w.heap.size + 1 < w1.heap.size := by omega
    generalize w1.heap.size = g0 at *
    go_loopw [7] (fun i wr => ∃ k : Nat, k ≤ 32 ∧ i = .int .i64 k ∧ Hid (Arr wr (w.heap.size + 1) 249 ((kst S0 k).map bv)) ∧ Hid (Arr wr g0 214 (S0.map bv)) ∧ Hid (Arr wr w.heap.size 214 (List.replicate 32 (bv 0))) ∧ Hid (Below w.heap.size w wr)) (fun i _ => 32 - (intOf i).toNat)
    case atStart => exact ⟨0, by omega, rfl, by rw [kst_zero, List.map_replicate]; exact hK1, hD1, hO1, hB1⟩
    case round =>
      clear hK1 hD1 hO1 hB1
      obtain ⟨k, hk, rfl, hK, hD, hO, hB⟩ := hrel
      by_cases hlt : k < 32
      · have hsl0 : k < S0.length := by rw [HSL0.out]; exact hlt
        have x0 := hD.out.cell (j := k) (by simpa using hsl0)
        rw [List.getElem_map] at x0
        have hkl := kst_len S0 k (by omega) (by omega)
        have y0 := hK.out.cell (j := k) (by simp [hkl]; omega)
        have y1 := hK.out.frozen k
        have HK2 := Lib.hid (hK.out.set k (bv S0[k]))
        rw [← List.map_set, kst_next hsl0 (by omega)] at HK2
        obtain ⟨u, hu⟩ : ∃ u, bv S0[k] = u := ⟨_, rfl⟩
        obtain ⟨old, hold⟩ : ∃ u, ((kst S0 k).map bv)[k]'(by simp [hkl]; omega) = u := ⟨_, rfl⟩
        have hu1 : ∃ z : Int, u = .int .u8 z := ⟨_, hu.symm⟩
        rw [hu] at HK2 x0
        rw [hold] at y0
        obtain ⟨z, rfl⟩ := hu1
        have HD2 := Lib.hid (hD.out.far (a := ⟨w.heap.size + 1, k, none⟩) (by show g0 ≠ w.heap.size + 1; omega) (.int .u8 z))
        have HO2 := Lib.hid (hO.out.far (a := ⟨w.heap.size + 1, k, none⟩) (by show w.heap.size ≠ w.heap.size + 1; omega) (.int .u8 z))
        have HB2 := Lib.hid (hB.out.setCell (p := ⟨w.heap.size + 1, k, none⟩) (by show w.heap.size ≤ w.heap.size + 1; omega) (.int .u8 z))
        have i1 : (0 : Int) ≤ (k : Int) := by omega
        have i2 : (k : Int) < 64 := by omega
        have i3 : (k : Int) < 32 := by omega
        clear hu hold hkl hK hD hO hB hsl0
        go_wp2
        go_roundw
        case rel => exact ⟨k + 1, by omega, by go_num, HK2, HD2, HO2, HB2⟩
        case measure => simp [intOf]; omega
      · have hkl : 32 ≤ k := by omega
        have K9 : Hid (Arr wr (w.heap.size + 1) 249 (kb.map bv)) := by
          have e : k = 32 := by omega
          have h1 := hK.out
          rw [e, HKE.out] at h1
          exact h1
        have B9 := hB; have O9 := hO
        clear hK hO hB hD
        obtain ⟨w9, rfl⟩ : ∃ w9 : World, w9 = wr := ⟨_, rfl⟩
        have hg9 : w.heap.size + 1 < w9.heap.size := K9.out.lt
        go_wp2
        go_loopw [9, 10, 11] (fun t t2 i wr => ∃ (k : Nat) (va vb : Option Addr) (vc vd n m : Nat), k ≤ 64 ∧ i = .int .i64 k ∧ t = .slice va n vc ∧ t2 = .slice vb m vd ∧ n ≤ 64 ∧ m ≤ 64 ∧ Hid (Two w9 wr va vc n ((kb.take k).map (xb 54)) vb vd m ((kb.take k).map (xb 92)))) (fun _ _ i _ => 64 - (intOf i).toNat)
        case atStart => exact ⟨0, none, none, 0, 0, 0, 0, by omega, rfl, rfl, rfl, by omega, by omega, ⟨Gr.nil _, Gr.nil _, fun g h => by cases h⟩⟩
        case round =>
          obtain ⟨k, va, vb, vc, vd, n, m, hk, rfl, rfl, rfl, hn, hm, hT⟩ := hrel
          by_cases hlt : k < 64
          · have hkl : k < kb.length := by rw [HKL.out]; exact hlt
            have c0 := (K9.out.below hT.out.a.2.2 K9.out.lt).cell (j := k) (by simpa using hkl)
            rw [List.getElem_map] at c0
            have hnn := hT.out.a.1
            have hmm := hT.out.b.1
            simp at hnn hmm
            obtain ⟨y, hy⟩ : ∃ y, kb[k] = y := ⟨_, rfl⟩
            have HS1 : Hid ((kb.take (k + 1)).map (xb 54) = (kb.take k).map (xb 54) ++ [xb 54 y]) := by show _ = _; rw [List.take_succ_eq_append_getElem hkl, List.map_append, hy]; rfl
            have HS2 : Hid ((kb.take (k + 1)).map (xb 92) = (kb.take k).map (xb 92) ++ [xb 92 y]) := by show _ = _; rw [List.take_succ_eq_append_getElem hkl, List.map_append, hy]; rfl
            obtain ⟨va', vc', w5, ap5, hT5, -⟩ := hT.out.push (xb 54 y) (.int .u8 (bits .xor .u8 (y.toNat : Int) 54)) (xb_bv 54 y) (by omega)
            rw [← HS1.out] at hT5
            have c5 := (K9.out.below hT5.a.2.2 K9.out.lt).cell (j := k) (by simpa using hkl)
            rw [List.getElem_map] at c5
            rw [hy] at c0 c5
            obtain ⟨vb', vd', w6, ap6, hT6, -⟩ := hT5.symm.push (xb 92 y) (.int .u8 (bits .xor .u8 (y.toNat : Int) 92)) (xb_bv 92 y) (by omega)
            rw [← HS2.out] at hT6
            obtain ⟨z, hz⟩ : ∃ z : Int, (y.toNat : Int) = z := ⟨_, rfl⟩
            have x0 : wr.cell? ⟨w.heap.size + 1, k, none⟩ = some (.int .u8 z) := by rw [c0, bv, hz]
            have x5 : w5.cell? ⟨w.heap.size + 1, k, none⟩ = some (.int .u8 z) := by rw [c5, bv, hz]
            rw [hz] at ap5 ap6
            have HAP5 := Lib.hid ap5; have HAP6 := Lib.hid ap6; have HT6 := Lib.hid hT6.symm
            have hn64 : n + 1 ≤ 64 := by omega
            have hm64 : m + 1 ≤ 64 := by omega
            have i1 : (0 : Int) ≤ (k : Int) := by omega
            have i2 : (k : Int) < 64 := by omega
            have tok1 : True := trivial
            clear c0 c5 hz hy hT hT5 hT6 ap5 ap6 hnn hmm hkl
            go_wp2_with (first | (have _t := tok1; at_builtin; refine wpList_append_run (by rfl) (.tmp 44) (.tmp 49) 152 (by rfl) (by rfl) (by rfl) HAP5.out ?_; clear tok1 _t; have tok2 : True := trivial) | (have _t := tok2; at_builtin; refine wpList_append_run (by rfl) (.tmp 51) (.tmp 56) 152 (by rfl) (by rfl) (by rfl) HAP6.out ?_; clear tok2 _t))
            go_roundw
            case rel => exact ⟨k + 1, va', vb', vc', vd', n + 1, m + 1, by omega, by go_num, rfl, rfl, by omega, by omega, HT6⟩
            case measure => simp [intOf]; omega
          · have hk64 : 64 ≤ k := by omega
            have HT : Hid (Two w9 wr va vc n (kb.map (xb 54)) vb vd m (kb.map (xb 92))) := by
              have h1 := hT.out
              rw [List.take_of_length_le (by rw [HKL.out]; omega)] at h1
              exact h1
            have HH9 : Hid (Bytes wr.heap.size wr (.slice a2 bs.length c2) bs) := Row.mono (HH.out.below (B9.out.trans (HT.out.a.2.2.mono B9.out.size))) (Nat.le_trans B9.out.size HT.out.a.2.2.size)
            obtain ⟨va', vc', w5, ap5, hG5, hO5⟩ := HT.out.app HH9.out (by omega)
            have HSM := Lib.hid (refSum_walk _ _ w5 hG5.bytes (by simp [HKL.out]; omega))
            obtain ⟨inn, hinn⟩ : ∃ z, sha (kb.map (xb 54) ++ bs) = z := ⟨_, rfl⟩
            have HIL : Hid (inn.length = 32) := by show _ = _; rw [← hinn]; exact sha_len _
            have HSW2 : Hid (sealW s bs = sha (kb.map (xb 92) ++ inn)) := by show _ = _; rw [HSW.out, hinn]
            rw [hinn] at HSM
            have HAP5 := Lib.hid ap5; have HO5 := Lib.hid hO5
            have tok1 : True := trivial
            clear ap5 hG5 hO5 hT HT hinn
            go_wp2_with (have _t := tok1; at_builtin; refine wpList_append_run (by rfl) (.tmp 58) (.tmp 59) 152 (by rfl) (by rfl) (by rfl) HAP5.out ?_; clear tok1 _t)
            refine HSM.out.mono ?_
            rintro e w6 ⟨rfl, hb6⟩
            have HO6 := Lib.hid (HO5.out.below hb6)
            have HT6 := Lib.hid (store32 w6 inn HIL.out)
            clear hb6 HSM HO5 HAP5
            have tok1 : True := trivial
            go_wp2_with (have _t := tok1; refine wpList_store_mid (by rfl) 214 _ _ (by rfl) w6.heap.size 0 (inn.map bv).toArray (by rfl) (by rfl) HT6.out.1 (info32 HIL.out) (bytes_one inn) ?_; clear tok1 _t; generalize hW : World.setCells _ w6.heap.size 0 (inn.map bv).toArray.toList = wz; have hA7 : Hid (Arr wz w6.heap.size 214 (inn.map bv)) := (by rw [← hW]; exact HT6.out.2.1 : Arr _ _ _ _); have hO7 : Hid (Gr w9 wz vb vd m (kb.map (xb 92))) := (by rw [← hW]; exact HO6.out.below HT6.out.2.2.1 : Gr _ _ _ _ _ _); clear hW HT6; have HO6' := HO6; clear HO6)
            have hlz := hA7.out.lt
            have hz64 : m ≤ 64 := by have := HO6'.out.1; simp [HKL.out] at this; omega
            have HNE : Hid (∀ g, vb = some ⟨g, 0, none⟩ → g ≠ w6.heap.size) := fun g hg => by have := (HO6'.out.2.1.lt hg).2; omega
            generalize w6.heap.size = gd at *
            go_loopw [10, 13] (fun t i wr => ∃ (k : Nat) (vb : Option Addr) (vd m : Nat), k ≤ 32 ∧ i = .int .i64 k ∧ t = .slice vb m vd ∧ m ≤ 100 ∧ Hid (Gr w9 wr vb vd m (kb.map (xb 92) ++ inn.take k)) ∧ Hid (Arr wr gd 214 (inn.map bv)) ∧ Hid (∀ g, vb = some ⟨g, 0, none⟩ → g ≠ gd)) (fun _ i _ => 32 - (intOf i).toNat)
            case atStart => exact ⟨0, vb, vd, m, by omega, rfl, rfl, by omega, by rw [List.take_zero, List.append_nil]; exact hO7, hA7, HNE⟩
            case round =>
              clear hO7 hA7 HNE HO6'
              obtain ⟨k, vb, vd, m, hk3, rfl, rfl, hm3, hG, hA, hN⟩ := hrel
              by_cases hlt3 : k < 32
              · have hkl : k < inn.length := by rw [HIL.out]; exact hlt3
                have c0 := hA.out.cell (j := k) (by simpa using hkl)
                rw [List.getElem_map] at c0
                have hnn := hG.out.1
                simp [HKL.out] at hnn
                obtain ⟨y, hy⟩ : ∃ y, inn[k] = y := ⟨_, rfl⟩
                have HS1 : Hid (kb.map (xb 92) ++ inn.take (k + 1) = kb.map (xb 92) ++ inn.take k ++ [y]) := by show _ = _; rw [List.take_succ_eq_append_getElem hkl, hy, List.append_assoc]
                obtain ⟨vb', vd', w5, ap5, hG5, hA5, hN5⟩ := hG.out.pushAt y (bv y) rfl (by omega) hA.out hN.out
                rw [← HS1.out] at hG5
                rw [hy] at c0
                obtain ⟨z, hz⟩ : ∃ z : Int, (y.toNat : Int) = z := ⟨_, rfl⟩
                rw [bv, hz] at c0 ap5
                have HAP5 := Lib.hid ap5; have HG5 := Lib.hid hG5; have HA5 := Lib.hid hA5; have HN5 := Lib.hid hN5
                have hm4 : m + 1 ≤ 100 := by omega
                have i1 : (0 : Int) ≤ (k : Int) := by omega
                have i2 : (k : Int) < 32 := by omega
                clear hz hy hG hA hN ap5 hG5 hA5 hN5 hnn hkl HS1
                go_wp2_with (at_builtin; refine wpList_append_run (by rfl) (.tmp 67) (.tmp 71) 152 (by rfl) (by rfl) (by rfl) HAP5.out ?_)
                go_roundw
                case rel => exact ⟨k + 1, vb', vd', m + 1, by omega, by go_num, rfl, hm4, HG5, HA5, HN5⟩
                case measure => simp [intOf]; omega
              · have hk32 : 32 ≤ k := by omega
                have HGF : Hid (Gr w9 wr vb vd m (kb.map (xb 92) ++ inn)) := by
                  have h1 := hG.out
                  rw [List.take_of_length_le (by rw [HIL.out]; omega)] at h1
                  exact h1
                have HSM2 := Lib.hid (refSum_walk _ _ wr HGF.out.bytes (by simp [HKL.out, HIL.out]))
                rw [← HSW2.out] at HSM2
                have HOF : Hid (Arr wr w.heap.size 214 (List.replicate 32 (bv 0))) := O9.out.below HGF.out.2.2 O9.out.lt
                have HBF : Hid (Below w.heap.size w wr) := B9.out.trans (HGF.out.2.2.mono B9.out.size)
                have hsl2 := sealW_len s bs
                obtain ⟨D, hD⟩ : ∃ D, sealW s bs = D := ⟨_, rfl⟩
                rw [hD] at HSM2 hsl2
                have HD := Lib.hid hD
                clear hD
                have HDL := Lib.hid hsl2
                clear hsl2 hG hA hN HGF
                go_wp2_with fail
                refine HSM2.out.mono ?_
                rintro e w8 ⟨rfl, hb8⟩
                have hX8 := HOF.out.below hb8 HOF.out.lt
                have HX8 := Lib.hid hX8
                have HT8 := Lib.hid (hX8.there (n := (D.map bv).toArray.size) (by simp [HDL.out]))
                have HB8 := Lib.hid (HBF.out.trans (hb8.mono HBF.out.size))
                clear hX8 hb8
                have tok1 : True := trivial
                go_wp2_with (have _t := tok1; refine wpList_store_mid (by rfl) 214 _ _ (by rfl) w.heap.size 0 (D.map bv).toArray (by rfl) (by rfl) HT8.out (info32 HDL.out) (bytes_one D) ?_; clear tok1 _t)
                exact ret_arr Tryz.results130 rfl rfl (HX8.out.store (new := (D.map bv).toArray.toList) (by simp [HDL.out])) Tryz.underlying214 rfl (by simpa using info32 HDL.out) ⟨by simp [HD.out], below_cells (Nat.le_refl _) _ _ HB8.out⟩
  · have d1 : decide (64 < (s.length : Int)) = false := decide_eq_false (by omega)
    have HKE : Hid (kst s s.length = kb) := by
      show _ = _
      rw [← HKB.out, keyB, short, if_neg hb, kst, List.take_length]
    go_enter Tryz.func130, Tryz.ntmps130
    go_wp2
    go_loopw [8] (fun i wr => ∃ k : Nat, k ≤ s.length ∧ i = .int .i64 k ∧ Hid (Arr wr (w.heap.size + 1) 249 ((kst s k).map bv)) ∧ Hid (Arr wr w.heap.size 214 (List.replicate 32 (bv 0))) ∧ Hid (Below w.heap.size w wr)) (fun i _ => s.length - (intOf i).toNat)
    case atStart => exact ⟨0, by omega, rfl, by rw [kst_zero, List.map_replicate]; exact HK0, HO0, HB0⟩
    case round =>
      clear HK0 HO0 HB0 HS
      obtain ⟨k, hk, rfl, hK, hO, hB⟩ := hrel
      by_cases hlt : k < s.length
      · obtain ⟨rfl, hbl⟩ := HA.out (by omega)
        have x0 := (hB.out.cell (p := ⟨b1, o1 + k, none⟩) hbl).trans (HC.out k hlt)
        have hkl := kst_len s k hk (by omega)
        have y0 := hK.out.cell (j := k) (by simp [hkl]; omega)
        have y1 := hK.out.frozen k
        have HK2 := Lib.hid (hK.out.set k (bv s[k]))
        rw [← List.map_set, kst_next hlt (by omega)] at HK2
        obtain ⟨u, hu⟩ : ∃ u, bv s[k] = u := ⟨_, rfl⟩
        obtain ⟨old, hold⟩ : ∃ u, ((kst s k).map bv)[k]'(by simp [hkl]; omega) = u := ⟨_, rfl⟩
        have hu1 : ∃ z : Int, u = .int .u8 z := ⟨_, hu.symm⟩
        rw [hu] at HK2 x0
        rw [hold] at y0
        obtain ⟨z, rfl⟩ := hu1
        have HO2 := Lib.hid (hO.out.far (a := ⟨w.heap.size + 1, k, none⟩) (by show w.heap.size ≠ w.heap.size + 1; omega) (.int .u8 z))
        have HB2 := Lib.hid (hB.out.setCell (p := ⟨w.heap.size + 1, k, none⟩) (by show w.heap.size ≤ w.heap.size + 1; omega) (.int .u8 z))
        have i1 : (0 : Int) ≤ (k : Int) := by omega
        have i2 : (k : Int) < 64 := by omega
        have i3 : (k : Int) < (s.length : Int) := by omega
        clear hu hold hkl hK hO hB
        go_wp2
        go_roundw
        case rel => exact ⟨k + 1, by omega, by go_num, HK2, HO2, HB2⟩
        case measure => simp [intOf]; omega
      · have hkl : s.length ≤ k := by omega
        have K9 : Hid (Arr wr (w.heap.size + 1) 249 (kb.map bv)) := by
          have e : k = s.length := by omega
          have h1 := hK.out
          rw [e, HKE.out] at h1
          exact h1
        have B9 := hB; have O9 := hO
        clear hK hO hB
        obtain ⟨w9, rfl⟩ : ∃ w9 : World, w9 = wr := ⟨_, rfl⟩
        have hg9 : w.heap.size + 1 < w9.heap.size := K9.out.lt
        go_wp2
        go_loopw [9, 10, 11] (fun t t2 i wr => ∃ (k : Nat) (va vb : Option Addr) (vc vd n m : Nat), k ≤ 64 ∧ i = .int .i64 k ∧ t = .slice va n vc ∧ t2 = .slice vb m vd ∧ n ≤ 64 ∧ m ≤ 64 ∧ Hid (Two w9 wr va vc n ((kb.take k).map (xb 54)) vb vd m ((kb.take k).map (xb 92)))) (fun _ _ i _ => 64 - (intOf i).toNat)
        case atStart => exact ⟨0, none, none, 0, 0, 0, 0, by omega, rfl, rfl, rfl, by omega, by omega, ⟨Gr.nil _, Gr.nil _, fun g h => by cases h⟩⟩
        case round =>
          obtain ⟨k, va, vb, vc, vd, n, m, hk, rfl, rfl, rfl, hn, hm, hT⟩ := hrel
          by_cases hlt : k < 64
          · have hkl : k < kb.length := by rw [HKL.out]; exact hlt
            have c0 := (K9.out.below hT.out.a.2.2 K9.out.lt).cell (j := k) (by simpa using hkl)
            rw [List.getElem_map] at c0
            have hnn := hT.out.a.1
            have hmm := hT.out.b.1
            simp at hnn hmm
            obtain ⟨y, hy⟩ : ∃ y, kb[k] = y := ⟨_, rfl⟩
            have HS1 : Hid ((kb.take (k + 1)).map (xb 54) = (kb.take k).map (xb 54) ++ [xb 54 y]) := by show _ = _; rw [List.take_succ_eq_append_getElem hkl, List.map_append, hy]; rfl
            have HS2 : Hid ((kb.take (k + 1)).map (xb 92) = (kb.take k).map (xb 92) ++ [xb 92 y]) := by show _ = _; rw [List.take_succ_eq_append_getElem hkl, List.map_append, hy]; rfl
            obtain ⟨va', vc', w5, ap5, hT5, -⟩ := hT.out.push (xb 54 y) (.int .u8 (bits .xor .u8 (y.toNat : Int) 54)) (xb_bv 54 y) (by omega)
            rw [← HS1.out] at hT5
            have c5 := (K9.out.below hT5.a.2.2 K9.out.lt).cell (j := k) (by simpa using hkl)
            rw [List.getElem_map] at c5
            rw [hy] at c0 c5
            obtain ⟨vb', vd', w6, ap6, hT6, -⟩ := hT5.symm.push (xb 92 y) (.int .u8 (bits .xor .u8 (y.toNat : Int) 92)) (xb_bv 92 y) (by omega)
            rw [← HS2.out] at hT6
            obtain ⟨z, hz⟩ : ∃ z : Int, (y.toNat : Int) = z := ⟨_, rfl⟩
            have x0 : wr.cell? ⟨w.heap.size + 1, k, none⟩ = some (.int .u8 z) := by rw [c0, bv, hz]
            have x5 : w5.cell? ⟨w.heap.size + 1, k, none⟩ = some (.int .u8 z) := by rw [c5, bv, hz]
            rw [hz] at ap5 ap6
            have HAP5 := Lib.hid ap5; have HAP6 := Lib.hid ap6; have HT6 := Lib.hid hT6.symm
            have hn64 : n + 1 ≤ 64 := by omega
            have hm64 : m + 1 ≤ 64 := by omega
            have i1 : (0 : Int) ≤ (k : Int) := by omega
            have i2 : (k : Int) < 64 := by omega
            have tok1 : True := trivial
            clear c0 c5 hz hy hT hT5 hT6 ap5 ap6 hnn hmm hkl
            go_wp2_with (first | (have _t := tok1; at_builtin; refine wpList_append_run (by rfl) (.tmp 44) (.tmp 49) 152 (by rfl) (by rfl) (by rfl) HAP5.out ?_; clear tok1 _t; have tok2 : True := trivial) | (have _t := tok2; at_builtin; refine wpList_append_run (by rfl) (.tmp 51) (.tmp 56) 152 (by rfl) (by rfl) (by rfl) HAP6.out ?_; clear tok2 _t))
            go_roundw
            case rel => exact ⟨k + 1, va', vb', vc', vd', n + 1, m + 1, by omega, by go_num, rfl, rfl, by omega, by omega, HT6⟩
            case measure => simp [intOf]; omega
          · have hk64 : 64 ≤ k := by omega
            have HT : Hid (Two w9 wr va vc n (kb.map (xb 54)) vb vd m (kb.map (xb 92))) := by
              have h1 := hT.out
              rw [List.take_of_length_le (by rw [HKL.out]; omega)] at h1
              exact h1
            have HH9 : Hid (Bytes wr.heap.size wr (.slice a2 bs.length c2) bs) := Row.mono (HH.out.below (B9.out.trans (HT.out.a.2.2.mono B9.out.size))) (Nat.le_trans B9.out.size HT.out.a.2.2.size)
            obtain ⟨va', vc', w5, ap5, hG5, hO5⟩ := HT.out.app HH9.out (by omega)
            have HSM := Lib.hid (refSum_walk _ _ w5 hG5.bytes (by simp [HKL.out]; omega))
            obtain ⟨inn, hinn⟩ : ∃ z, sha (kb.map (xb 54) ++ bs) = z := ⟨_, rfl⟩
            have HIL : Hid (inn.length = 32) := by show _ = _; rw [← hinn]; exact sha_len _
            have HSW2 : Hid (sealW s bs = sha (kb.map (xb 92) ++ inn)) := by show _ = _; rw [HSW.out, hinn]
            rw [hinn] at HSM
            have HAP5 := Lib.hid ap5; have HO5 := Lib.hid hO5
            have tok1 : True := trivial
            clear ap5 hG5 hO5 hT HT hinn
            go_wp2_with (have _t := tok1; at_builtin; refine wpList_append_run (by rfl) (.tmp 58) (.tmp 59) 152 (by rfl) (by rfl) (by rfl) HAP5.out ?_; clear tok1 _t)
            refine HSM.out.mono ?_
            rintro e w6 ⟨rfl, hb6⟩
            have HO6 := Lib.hid (HO5.out.below hb6)
            have HT6 := Lib.hid (store32 w6 inn HIL.out)
            clear hb6 HSM HO5 HAP5
            have tok1 : True := trivial
            go_wp2_with (have _t := tok1; refine wpList_store_mid (by rfl) 214 _ _ (by rfl) w6.heap.size 0 (inn.map bv).toArray (by rfl) (by rfl) HT6.out.1 (info32 HIL.out) (bytes_one inn) ?_; clear tok1 _t; generalize hW : World.setCells _ w6.heap.size 0 (inn.map bv).toArray.toList = wz; have hA7 : Hid (Arr wz w6.heap.size 214 (inn.map bv)) := (by rw [← hW]; exact HT6.out.2.1 : Arr _ _ _ _); have hO7 : Hid (Gr w9 wz vb vd m (kb.map (xb 92))) := (by rw [← hW]; exact HO6.out.below HT6.out.2.2.1 : Gr _ _ _ _ _ _); clear hW HT6; have HO6' := HO6; clear HO6)
            have hlz := hA7.out.lt
            have hz64 : m ≤ 64 := by have := HO6'.out.1; simp [HKL.out] at this; omega
            have HNE : Hid (∀ g, vb = some ⟨g, 0, none⟩ → g ≠ w6.heap.size) := fun g hg => by have := (HO6'.out.2.1.lt hg).2; omega
            generalize w6.heap.size = gd at *
            go_loopw [10, 13] (fun t i wr => ∃ (k : Nat) (vb : Option Addr) (vd m : Nat), k ≤ 32 ∧ i = .int .i64 k ∧ t = .slice vb m vd ∧ m ≤ 100 ∧ Hid (Gr w9 wr vb vd m (kb.map (xb 92) ++ inn.take k)) ∧ Hid (Arr wr gd 214 (inn.map bv)) ∧ Hid (∀ g, vb = some ⟨g, 0, none⟩ → g ≠ gd)) (fun _ i _ => 32 - (intOf i).toNat)
            case atStart => exact ⟨0, vb, vd, m, by omega, rfl, rfl, by omega, by rw [List.take_zero, List.append_nil]; exact hO7, hA7, HNE⟩
            case round =>
              clear hO7 hA7 HNE HO6'
              obtain ⟨k, vb, vd, m, hk3, rfl, rfl, hm3, hG, hA, hN⟩ := hrel
              by_cases hlt3 : k < 32
              · have hkl : k < inn.length := by rw [HIL.out]; exact hlt3
                have c0 := hA.out.cell (j := k) (by simpa using hkl)
                rw [List.getElem_map] at c0
                have hnn := hG.out.1
                simp [HKL.out] at hnn
                obtain ⟨y, hy⟩ : ∃ y, inn[k] = y := ⟨_, rfl⟩
                have HS1 : Hid (kb.map (xb 92) ++ inn.take (k + 1) = kb.map (xb 92) ++ inn.take k ++ [y]) := by show _ = _; rw [List.take_succ_eq_append_getElem hkl, hy, List.append_assoc]
                obtain ⟨vb', vd', w5, ap5, hG5, hA5, hN5⟩ := hG.out.pushAt y (bv y) rfl (by omega) hA.out hN.out
                rw [← HS1.out] at hG5
                rw [hy] at c0
                obtain ⟨z, hz⟩ : ∃ z : Int, (y.toNat : Int) = z := ⟨_, rfl⟩
                rw [bv, hz] at c0 ap5
                have HAP5 := Lib.hid ap5; have HG5 := Lib.hid hG5; have HA5 := Lib.hid hA5; have HN5 := Lib.hid hN5
                have hm4 : m + 1 ≤ 100 := by omega
                have i1 : (0 : Int) ≤ (k : Int) := by omega
                have i2 : (k : Int) < 32 := by omega
                clear hz hy hG hA hN ap5 hG5 hA5 hN5 hnn hkl HS1
                go_wp2_with (at_builtin; refine wpList_append_run (by rfl) (.tmp 67) (.tmp 71) 152 (by rfl) (by rfl) (by rfl) HAP5.out ?_)
                go_roundw
                case rel => exact ⟨k + 1, vb', vd', m + 1, by omega, by go_num, rfl, hm4, HG5, HA5, HN5⟩
                case measure => simp [intOf]; omega
              · have hk32 : 32 ≤ k := by omega
                have HGF : Hid (Gr w9 wr vb vd m (kb.map (xb 92) ++ inn)) := by
                  have h1 := hG.out
                  rw [List.take_of_length_le (by rw [HIL.out]; omega)] at h1
                  exact h1
                have HSM2 := Lib.hid (refSum_walk _ _ wr HGF.out.bytes (by simp [HKL.out, HIL.out]))
                rw [← HSW2.out] at HSM2
                have HOF : Hid (Arr wr w.heap.size 214 (List.replicate 32 (bv 0))) := O9.out.below HGF.out.2.2 O9.out.lt
                have HBF : Hid (Below w.heap.size w wr) := B9.out.trans (HGF.out.2.2.mono B9.out.size)
                have hsl2 := sealW_len s bs
                obtain ⟨D, hD⟩ : ∃ D, sealW s bs = D := ⟨_, rfl⟩
                rw [hD] at HSM2 hsl2
                have HD := Lib.hid hD
                clear hD
                have HDL := Lib.hid hsl2
                clear hsl2 hG hA hN HGF
                go_wp2_with fail
                refine HSM2.out.mono ?_
                rintro e w8 ⟨rfl, hb8⟩
                have hX8 := HOF.out.below hb8 HOF.out.lt
                have HX8 := Lib.hid hX8
                have HT8 := Lib.hid (hX8.there (n := (D.map bv).toArray.size) (by simp [HDL.out]))
                have HB8 := Lib.hid (HBF.out.trans (hb8.mono HBF.out.size))
                clear hX8 hb8
                have tok1 : True := trivial
                go_wp2_with (have _t := tok1; refine wpList_store_mid (by rfl) 214 _ _ (by rfl) w.heap.size 0 (D.map bv).toArray (by rfl) (by rfl) HT8.out (info32 HDL.out) (bytes_one D) ?_; clear tok1 _t)
                exact ret_arr Tryz.results130 rfl rfl (HX8.out.store (new := (D.map bv).toArray.toList) (by simp [HDL.out])) Tryz.underlying214 rfl (by simpa using info32 HDL.out) ⟨by simp [HD.out], below_cells (Nat.le_refl _) _ _ HB8.out⟩
end Go.Proofs.YtinijohmdljieaaGreatDoor
