/- hash.Sum, hash.key, (hash.block).mixed. hash.Sealed. -/
import Derived.Test.YtinijohmdljieaaGreatDoorSum
import Derived.Deep.RegionHeld3
import Derived.Deep.DrawnRows
namespace Go.Proofs.YtinijohmdljieaaGreatDoor
open Go.RowKit

theorem Pieces.mk' {B : Nat} {w : World} {g n : Nat} {ls : List (List UInt8)} (hn : ls.length = n) (hg : g < B) (hv : ∀ j (hj : j < ls.length), ∃ pv, w.cell? ⟨g, j, none⟩ = some pv ∧ Bytes B w pv ls[j]) : Pieces B w (.slice (some ⟨g, 0, none⟩) n n) ls := by
  subst hn
  refine ⟨some ⟨g, 0, none⟩, ls.length, g, 0, rfl, Nat.le_refl _, fun _ => ⟨rfl, hg⟩, fun j x hj => ?_⟩
  have hjl : j < ls.length := (List.getElem?_eq_some_iff.1 hj).1
  rw [List.getElem?_eq_getElem hjl] at hj
  injection hj with hj
  obtain ⟨pv, h1, h2⟩ := hv j hjl
  refine ⟨fun _ => pv, fun i hi => ?_, ?_⟩
  · obtain rfl : i = 0 := by omega
    simpa using h1
  · rw [← hj]; exact h2
theorem Pieces.one {B t : Nat} {w : World} {v : Value} {bs : List UInt8} (h : Bytes B w v bs) (hB : B ≤ w.heap.size) : Pieces (w.heap.size + 1) (w.alloc (.cells #[v] t)) (.slice (some ⟨w.heap.size, 0, none⟩) 1 1) [bs] := by
  refine Pieces.mk' rfl (by omega) fun j hj => ⟨v, ?_, ?_⟩
  · obtain rfl : j = 0 := by simpa using hj
    simp [World.cell?, show (w.alloc (.cells #[v] t)).heap = w.heap.push (.cells #[v] t) from rfl]
  · obtain rfl : j = 0 := by simpa using hj
    exact Row.mono (Bytes.below h ((Below.refl _ _).alloc hB _)) (by omega)
theorem Pieces.two {B t : Nat} {w : World} {v u : Value} {bs cs : List UInt8} (h : Bytes B w v bs) (h2 : Bytes B w u cs) (hB : B ≤ w.heap.size) : Pieces (w.heap.size + 1) (w.alloc (.cells #[v, u] t)) (.slice (some ⟨w.heap.size, 0, none⟩) 2 2) [bs, cs] := by
  refine Pieces.mk' rfl (by omega) fun j hj => ?_
  have hj2 : j = 0 ∨ j = 1 := by simp at hj; omega
  rcases hj2 with rfl | rfl
  · exact ⟨v, by simp [World.cell?, show (w.alloc (.cells #[v, u] t)).heap = w.heap.push (.cells #[v, u] t) from rfl], Row.mono (Bytes.below h ((Below.refl _ _).alloc hB _)) (by omega)⟩
  · exact ⟨u, by simp [World.cell?, show (w.alloc (.cells #[v, u] t)).heap = w.heap.push (.cells #[v, u] t) from rfl], Row.mono (Bytes.below h2 ((Below.refl _ _).alloc hB _)) (by omega)⟩
/-- a variable that holds bytes, as a slice of all of it -/
theorem Arr.bytes {w : World} {g n B : Nat} {t : TypeId} {bs : List UInt8} (h : Arr w g t (bs.map bv)) (hn : bs.length = n) (hB : g < B) : Bytes B w (.slice (some ⟨g, 0, none⟩) n n) bs := by
  refine Bytes.mk' (b := g) (off := 0) hn (Nat.le_refl _) (fun _ => ⟨rfl, hB⟩) fun j hj => ?_
  rw [Nat.zero_add, h.cell (by simpa using hj)]
  simp
theorem bytes_one (bs : List UInt8) : (bs.map bv).toArray.all (·.oneCell') = true := all_oneCell_toArray (by intro v hv; obtain ⟨x, -, rfl⟩ := List.mem_map.1 hv; rfl)
theorem info32 {bs : List UInt8} (h : bs.length = 32) : (Tryz.prog.info? 214).map (·.size) = some (bs.map bv).toArray.size := by
  rw [List.size_toArray, List.length_map, h]; kernel_rfl
theorem info64 {bs : List UInt8} (h : bs.length = 64) : (Tryz.prog.info? 250).map (·.size) = some (bs.map bv).toArray.size := by
  rw [List.size_toArray, List.length_map, h]; kernel_rfl
theorem new32 (w : World) : Arr (w.alloc (.cells (List.replicate 32 (bv 0)).toArray 214)) w.heap.size 214 (List.replicate 32 (bv 0)) := Arr.new w _ _
theorem new64 (w : World) : Arr (w.alloc (.cells (List.replicate 64 (bv 0)).toArray 250)) w.heap.size 250 (List.replicate 64 (bv 0)) := Arr.new w _ _

set_option maxHeartbeats 1000000 in
set_option maxRecDepth 100000 in
theorem Sum_walk (v : Value) (bs : List UInt8) (w : World) (h : Bytes w.heap.size w v bs) (hl : bs.length ≤ 1000000) :
    Calls Tryz.prog 190 #[v] w fun e w' => e = .returned (.agg ((sha bs).map bv).toArray) ∧ Below w.heap.size w w' := by
  obtain ⟨a, c, b, off, rfl, -, -, -⟩ := h.cells
  have hp : Pieces ((w.alloc (.cells (List.replicate 32 (bv 0)).toArray 214)).heap.size + 1) ((w.alloc (.cells (List.replicate 32 (bv 0)).toArray 214)).alloc (.cells #[.slice a bs.length c] 152)) (.slice (some ⟨(w.alloc (.cells (List.replicate 32 (bv 0)).toArray 214)).heap.size, 0, none⟩) 1 1) [bs] :=
    Pieces.one (B := w.heap.size) (Bytes.below h ((Below.refl _ _).alloc (Nat.le_refl _) _)) (by simp)
  have hsz : (w.alloc (.cells (List.replicate 32 (bv 0)).toArray 214)).heap.size = w.heap.size + 1 := by simp
  have hc := sum_walk (.slice (some ⟨w.heap.size + 1, 0, none⟩) 1 1) [bs] bs ((w.alloc (.cells (List.replicate 32 (bv 0)).toArray 214)).alloc (.cells #[.slice a bs.length c] 152)) (by simp) (by rw [hsz] at hp; simpa using hp) hl (by simp)
  have hX := (new32 w).alloc (.cells #[.slice a bs.length c] 152)
  have hB0 : Below w.heap.size w ((w.alloc (.cells (List.replicate 32 (bv 0)).toArray 214)).alloc (.cells #[.slice a bs.length c] 152)) := ((Below.refl _ _).alloc (Nat.le_refl _) _).alloc (by simp) _
  have HC := Lib.hid hc; have HX := Lib.hid hX; have HB0 := Lib.hid hB0
  have hsl := sha_len bs
  obtain ⟨D, hD⟩ : ∃ D, sha bs = D := ⟨_, rfl⟩
  rw [hD] at HC hsl ⊢
  have HL := Lib.hid hsl
  have HS : Hid (((w.alloc (.cells (List.replicate 32 (bv 0)).toArray 214)).alloc (.cells #[.slice a bs.length c] 152)).heap.size = w.heap.size + 2) := by show _ = _; simp
  clear hp hsz hc hX hB0 h hsl hD
  go_enter Tryz.func190, Tryz.ntmps190
  go_wp2_with fail
  refine HC.out.mono ?_
  rintro e w6 ⟨rfl, hb⟩
  have hs6 := HS.out
  have hX6 := HX.out.below hb (by omega)
  have HX6 := Lib.hid hX6
  have HT := Lib.hid (hX6.there (n := (D.map bv).toArray.size) (by simp [HL.out]))
  have HB6 := Lib.hid (HB0.out.trans (hb.mono (by omega)))
  clear hX6 hb hs6
  have tok1 : True := trivial
  go_wp2_with (have _t := tok1; refine wpList_store_mid (by rfl) 214 _ _ (by rfl) w.heap.size 0 (D.map bv).toArray (by rfl) (by rfl) HT.out (info32 HL.out) (bytes_one D) ?_; clear tok1 _t)
  exact ret_arr Tryz.results190 rfl rfl (HX6.out.store (new := (D.map bv).toArray.toList) (by simp [HL.out])) Tryz.underlying214 rfl (by simpa using info32 HL.out) ⟨rfl, below_cells (Nat.le_refl _) _ _ HB6.out⟩

/-- a byte turned by a constant -/
def xb (c : Int) (b : UInt8) : UInt8 := b8 (bits .xor .u8 b.toNat c)
theorem bits_u8 (op : BinOp) (x y : Int) : (bits op .u8 x y) % 256 = bits op .u8 x y := by
  have h : ∀ z : Int, (IntKind.u8.wrap z) % 256 = IntKind.u8.wrap z := fun z => by rw [wrap_u8, Int.emod_emod_of_dvd _ (Int.dvd_refl _)]
  exact h _
theorem xb_bv (c : Int) (b : UInt8) : Value.int .u8 (bits .xor .u8 b.toNat c) = bv (xb c b) := by rw [xb, ← bv_b8', bits_u8]
def XorSt (wr : World) (g : Nat) (c : Int) (kb : List UInt8) (k : Nat) : Prop := Arr wr g 250 (((kb.take k).map (xb c) ++ kb.drop k).map bv)
theorem XorSt.next {wr : World} {g : Nat} {c : Int} {kb : List UInt8} {k : Nat} (h : XorSt wr g c kb k) (hk : k < kb.length) : XorSt (wr.setCell ⟨g, k, none⟩ (.int .u8 (bits .xor .u8 (kb[k].toNat : Int) c))) g c kb (k + 1) := by
  have := h.set k (.int .u8 (bits .xor .u8 (kb[k].toNat : Int) c))
  have e : ((((kb.take k).map (xb c) ++ kb.drop k).map bv).set k (.int .u8 (bits .xor .u8 (kb[k].toNat : Int) c))) = ((kb.take (k + 1)).map (xb c) ++ kb.drop (k + 1)).map bv := by
    rw [xb_bv, ← List.map_set]
    congr 1
    have hl : ((kb.take k).map (xb c)).length = k := by simp; omega
    rw [List.set_append, if_neg (by omega), hl, Nat.sub_self, List.drop_eq_getElem_cons hk, List.set_cons_zero, List.take_succ_eq_append_getElem hk, List.map_append]
    simp
  rw [e] at this
  exact this

set_option maxHeartbeats 1000000 in
set_option maxRecDepth 100000 in
theorem mixed_walk (kb : List UInt8) (c : Int) (hl : kb.length = 64) (w : World) :
    Calls Tryz.prog 168 #[.agg (kb.map bv).toArray, .int .u8 c] w fun e w' => e = .returned (.slice (some ⟨w.heap.size, 0, none⟩) 64 64) ∧ Arr w' w.heap.size 250 ((kb.map (xb c)).map bv) ∧ Below w.heap.size w w' := by
  have hA0 : Arr (w.alloc (.cells (kb.map bv).toArray 250)) w.heap.size 250 (kb.map bv) := Arr.new w _ _
  have hb0 : Below w.heap.size w (w.alloc (.cells (kb.map bv).toArray 250)) := (Below.refl _ _).alloc (Nat.le_refl _) _
  have HA0 := Lib.hid hA0; have HB0 := Lib.hid hb0; have HL := Lib.hid hl
  clear hA0 hb0 hl
  go_enter Tryz.func168, Tryz.ntmps168
  go_wp2
  go_loopw [6] (fun i wr => ∃ k : Nat, k ≤ 64 ∧ i = .int .i64 k ∧ Hid (XorSt wr w.heap.size c kb k) ∧ Hid (Below w.heap.size w wr)) (fun i _ => 64 - (intOf i).toNat)
  case atStart => exact ⟨0, by omega, rfl, (by simpa [XorSt] using HA0.out : XorSt _ _ _ _ _), HB0⟩
  case round =>
    clear HA0 HB0
    obtain ⟨k, hk, rfl, hX, hB⟩ := hrel
    by_cases hlt : k < 64
    · have hkl : k < kb.length := by rw [HL.out]; exact hlt
      have c0 : wr.cell? ⟨w.heap.size, k, none⟩ = some (.int .u8 (kb[k].toNat : Int)) := by
        have hl2 : ((kb.take k).map (xb c)).length = k := by simp; omega
        have h1 := hX.out.cell (j := k) (by simp; omega)
        rw [List.getElem_map, List.getElem_append_right (by omega)] at h1
        simpa [Nat.min_eq_left (Nat.le_of_lt hkl)] using h1
      have c1 := hX.out.frozen k
      have HN := Lib.hid (hX.out.next hkl)
      obtain ⟨y, hy⟩ : ∃ z : Int, (kb[k].toNat : Int) = z := ⟨_, rfl⟩
      rw [hy] at c0 HN
      have i1 : (0 : Int) ≤ (k : Int) := by omega
      have i2 : (k : Int) < 64 := by omega
      have HB := Lib.hid (hB.out.setCell (p := ⟨w.heap.size, k, none⟩) (Nat.le_refl _) (.int .u8 (bits .xor .u8 y c)))
      clear hy hX hB hkl
      go_wp2
      go_roundw
      case rel => exact ⟨k + 1, by omega, by go_num, HN, HB⟩
      case measure => simp [intOf]; omega
    · obtain rfl : k = 64 := by omega
      have HF : Hid (Arr wr w.heap.size 250 ((kb.map (xb c)).map bv)) := by
        have := hX.out
        rw [XorSt, List.take_of_length_le (by rw [HL.out]; omega), List.drop_eq_nil_of_le (by rw [HL.out]; omega), List.append_nil] at this
        exact this
      clear hX
      go_wp2
      go_ret
      exact ⟨rfl, HF.out, hB.out⟩

/-- a secret as a block -/
def short (s : List UInt8) : List UInt8 := if 64 < s.length then sha s else s
def keyB (s : List UInt8) : List UInt8 := short s ++ List.replicate (64 - (short s).length) 0
theorem short_len (s : List UInt8) : (short s).length ≤ 64 := by
  unfold short
  split
  · rw [sha_len]; omega
  · omega
theorem keyB_len (s : List UInt8) : (keyB s).length = 64 := by
  have := short_len s
  simp [keyB]; omega

/-- 'copy(d, s)', whose run is known -/
theorem wpList_copy_run {P : Program} {w : World} {ops : Array Oper} {rest : List Oper} {o : Oper} {a : Act} {Q : Exit → Act → World → Prop} (hgd : o.guard = none) (s x : Operand) (t u : TypeId)
    (ho : o.op = .call { callee := .builtin .copy, args := #[s, x], argTypes := #[t, u] }) {v xv v' : Value} {w' : World} (hs : a.eval s = v) (hx : a.eval x = xv)
    (hr : (Builtin.copy_ #[t, u] o.type #[v, xv]).run P w = .ok v' w') (h : wpList P ops Q rest (a.put o.dst v') w') : wpList P ops Q (o :: rest) a w :=
  wpList_plain hgd fun K hK => by
    unfold Oper.wp execOp
    simp only [ho, resolve, invoke, builtin, Sem.run_bind, Sem.run_pure, Result.andThen_ok, List.map_toArray, List.map_cons, List.map_nil, hs, hx, hr]
    exact hK _ _ h
set_option maxRecDepth 100000 in
/-- bytes copied into a block of 64 zeros -/
theorem run_copy64 {w : World} {g B : Nat} {v : Value} {bs : List UInt8} (ty : TypeId) (hA : Arr w g 250 (List.replicate 64 (bv 0))) (h : Bytes B w v bs) (hl : bs.length ≤ 64) :
    ∃ z w', (Builtin.copy_ #[152, 152] ty #[.slice (some ⟨g, 0, none⟩) 64 64, v]).run Tryz.prog w = .ok z w' ∧ Arr w' g 250 ((bs ++ List.replicate (64 - bs.length) 0).map bv) ∧ (∀ b x, b ≤ g → Below b x w → Below b x w') := by
  have hi : (Tryz.prog.info? 5).map (·.size) = some 1 := by kernel_rfl
  obtain ⟨a, c, b, off, rfl, hle, ha, hc⟩ := h.cells
  by_cases h0 : 0 < bs.length
  · obtain ⟨rfl, -⟩ := ha h0
    refine ⟨_, _, run_copy_cells (P := Tryz.prog) w 152 152 ty 5 g 0 64 64 ⟨b, off, none⟩ bs.length c (bs.map bv) Tryz.underlying152 hi (by rw [List.length_map]; exact (Nat.min_eq_left hl).symm) ?_ ?_ ?_ ?_, ?_, ?_⟩
    · intro j u hj
      rw [Addr.add_lit]
      have hjl : j < bs.length := by simpa using (List.getElem?_eq_some_iff.1 hj).1
      rw [List.getElem?_map, List.getElem?_eq_getElem hjl] at hj
      injection hj with hj
      rw [← hj]; exact hc j hjl
    · intro j hj
      simp only [List.length_map] at hj
      rw [Nat.zero_add, hA.cell (by simp; omega)]; rfl
    · intro j hj
      exact hA.frozen _
    · intro u hu
      obtain ⟨x, -, rfl⟩ := List.mem_map.1 hu; rfl
    · have := hA.part (new := bs.map bv) (by simp; omega)
      rw [List.drop_replicate, List.length_map] at this
      rw [List.map_append, List.map_replicate]
      simpa using this
    · intro b' x hb' hB
      exact below_cells hb' _ _ hB
  · have : bs = [] := List.eq_nil_of_length_eq_zero (by omega)
    subst this
    refine ⟨_, _, run_copy_none (P := Tryz.prog) w 152 152 ty 5 (some ⟨g, 0, none⟩) a 64 64 0 c Tryz.underlying152 hi rfl, by simpa using hA, fun _ _ _ h => h⟩

set_option maxHeartbeats 1000000 in
set_option maxRecDepth 100000 in
theorem key_walk (v : Value) (s : List UInt8) (w : World) (h : Bytes w.heap.size w v s) (hl : s.length ≤ 1000000) :
    Calls Tryz.prog 166 #[v] w fun e w' => e = .returned (.agg ((keyB s).map bv).toArray) ∧ Below w.heap.size w w' := by
  have hN := new64 w
  have hb0 : Below w.heap.size w (w.alloc (.cells (List.replicate 64 (bv 0)).toArray 250)) := (Below.refl _ _).alloc (Nat.le_refl _) _
  have hs1 : (w.alloc (.cells (List.replicate 64 (bv 0)).toArray 250)).heap.size = w.heap.size + 1 := by simp
  have h1 : Bytes w.heap.size (w.alloc (.cells (List.replicate 64 (bv 0)).toArray 250)) v s := Bytes.below h hb0
  by_cases hb : 64 < s.length
  · have hS := Sum_walk v s (w.alloc (.cells (List.replicate 64 (bv 0)).toArray 250)) (Row.mono h1 (by rw [hs1]; omega)) hl
    obtain ⟨a, c, b, off, rfl, -, -, -⟩ := h.cells
    have hk : keyB s = sha s ++ List.replicate (64 - (sha s).length) 0 := by simp [keyB, short, hb]
    have HK := Lib.hid hk; have HS := Lib.hid hS; have HN := Lib.hid hN; have HB0 := Lib.hid hb0; have HS1 := Lib.hid hs1; have HSL := Lib.hid (sha_len s)
    have hd : decide (64 < (s.length : Int)) = true := decide_eq_true (by omega)
    obtain ⟨D, hD⟩ : ∃ D, sha s = D := ⟨_, rfl⟩
    rw [hD] at HS HSL HK
    clear hk hS hN hb0 h1 h hD hs1
    go_enter Tryz.func166, Tryz.ntmps166
    go_wp2_with fail
    refine HS.out.mono ?_
    rintro e w1 ⟨rfl, hb1⟩
    have hz1 := hb1.size
    rw [HS1.out] at hz1
    have HT := Lib.hid ((new32 w1).there (n := (D.map bv).toArray.size) (by simp [HSL.out]))
    have hA1 := (new32 w1).store (new := (D.map bv).toArray.toList) (by simp [HSL.out])
    have hX1 := ((HN.out.below hb1 (by rw [HS1.out]; omega)).alloc (.cells (List.replicate 32 (bv 0)).toArray 214)).farCells (new := (D.map bv).toArray.toList) (o := 0) (b := w1.heap.size) (by omega)
    have hB1 := below_cells (b := w1.heap.size) (B := w.heap.size) (by omega) (D.map bv).toArray.toList 0 ((HB0.out.trans (hb1.mono (by rw [HS1.out]; omega))).alloc (by omega) (.cells (List.replicate 32 (bv 0)).toArray 214))
    obtain ⟨z, w2, hcp, hA2, hB2⟩ := run_copy64 3 hX1 (hA1.bytes (B := w1.heap.size + 1) HSL.out (by omega)) (by rw [HSL.out]; omega)
    have hB2 := hB2 _ _ (Nat.le_refl _) hB1
    rw [← HK.out] at hA2
    have HCP := Lib.hid hcp
    have tok1 : True := trivial
    clear hb1 hz1 hA1 hX1 hB1
    have HR := Lib.hid hA2.range
    have HT2 := Lib.hid (hA2.there (n := ((keyB s).map bv).toArray.size) (by simp))
    have HA2 := Lib.hid hA2
    have HB2 := Lib.hid hB2
    clear hcp hA2 hB2
    go_wp2_with (first | (have _t := tok1; refine wpList_store_mid (by rfl) 214 _ _ (by rfl) w1.heap.size 0 (D.map bv).toArray (by rfl) (by rfl) HT.out (info32 HSL.out) (bytes_one D) ?_; clear tok1 _t; have tok2 : True := trivial) | (have _t := tok2; refine wpList_copy_run (by rfl) (.tmp 10) (.tmp 11) 152 152 (by rfl) (by rfl) (by rfl) HCP.out ?_; clear tok2 _t; have tok3 : True := trivial) | (have _t := tok3; refine wpList_load_mid rfl 250 _ rfl w.heap.size 0 rfl ((keyB s).map bv) _ HR.out Tryz.underlying250 rfl (by simpa using info64 (keyB_len s)) ?_; clear tok3 _t; have tok4 : True := trivial) | (have _t := tok4; refine wpList_store_mid (by rfl) 250 _ _ (by rfl) w.heap.size 0 ((keyB s).map bv).toArray (by rfl) (by rfl) HT2.out (info64 (keyB_len s)) (bytes_one (keyB s)) ?_; clear tok4 _t))
    exact ret_arr Tryz.results166 rfl rfl (HA2.out.store (new := ((keyB s).map bv).toArray.toList) (by simp)) Tryz.underlying250 rfl (by simpa using info64 (keyB_len s)) ⟨rfl, below_cells (Nat.le_refl _) _ _ HB2.out⟩
  · have hd : decide (64 < (s.length : Int)) = false := decide_eq_false (by omega)
    have hk : keyB s = s ++ List.replicate (64 - s.length) 0 := by simp [keyB, short, hb]
    obtain ⟨z, w2, hcp, hA2, hB2⟩ := run_copy64 3 hN h1 (by omega)
    have hB2 := hB2 _ _ (Nat.le_refl _) hb0
    rw [← hk] at hA2
    obtain ⟨a, c, b, off, rfl, -, -, -⟩ := h.cells
    have HCP := Lib.hid hcp
    have tok2 : True := trivial
    clear hk hN hb0 h1 h hs1
    have HR := Lib.hid hA2.range
    have HT2 := Lib.hid (hA2.there (n := ((keyB s).map bv).toArray.size) (by simp))
    have HA2 := Lib.hid hA2
    have HB2 := Lib.hid hB2
    clear hcp hA2 hB2
    go_enter Tryz.func166, Tryz.ntmps166
    go_wp2_with (first | (have _t := tok2; refine wpList_copy_run (by rfl) (.tmp 10) (.tmp 11) 152 152 (by rfl) (by rfl) (by rfl) HCP.out ?_; clear tok2 _t; have tok3 : True := trivial) | (have _t := tok3; refine wpList_load_mid rfl 250 _ rfl w.heap.size 0 rfl ((keyB s).map bv) _ HR.out Tryz.underlying250 rfl (by simpa using info64 (keyB_len s)) ?_; clear tok3 _t; have tok4 : True := trivial) | (have _t := tok4; refine wpList_store_mid (by rfl) 250 _ _ (by rfl) w.heap.size 0 ((keyB s).map bv).toArray (by rfl) (by rfl) HT2.out (info64 (keyB_len s)) (bytes_one (keyB s)) ?_; clear tok4 _t))
    exact ret_arr Tryz.results166 rfl rfl (HA2.out.store (new := ((keyB s).map bv).toArray.toList) (by simp)) Tryz.underlying250 rfl (by simpa using info64 (keyB_len s)) ⟨rfl, below_cells (Nat.le_refl _) _ _ HB2.out⟩
end Go.Proofs.YtinijohmdljieaaGreatDoor

namespace Go.Proofs.YtinijohmdljieaaGreatDoor
open Go.RowKit

attribute [local go_sem ↓] Go.wp_at_zero Go.wp_at_succ
/-- the digest by a secret, in plain words -/
def sealW (s bs : List UInt8) : List UInt8 := sha ((keyB s).map (xb 92) ++ sha ((keyB s).map (xb 54) ++ bs))
theorem sealW_len (s bs : List UInt8) : (sealW s bs).length = 32 := sha_len _
theorem rangeAt_below {B b o : Nat} {cs : List Value} {W w : World} (h : W.rangeAt b o cs) (hb : Below B W w) (hB : b < B) : w.rangeAt b o cs := fun j v hv => (hb.cell (p := ⟨b, o + j, none⟩) hB).trans (h j v hv)

theorem there_below {B b o n : Nat} {W w : World} (h : W.there b o n) (hb : Below B W w) (hB : b < B) : w.there b o n := fun j hj => by
  obtain ⟨h1, h2⟩ := h j hj
  exact ⟨by rw [hb.cell (p := ⟨b, o + j, none⟩) hB]; exact h1, (hb.frozen (p := ⟨b, o + j, none⟩) hB).trans h2⟩
theorem sum_two {g3 : Nat} {wy w5 : World} {kb inn D : List UInt8} {c : Int} (HD : Hid (sha (kb.map (xb c) ++ inn) = D)) (HKL : Hid (kb.length = 64)) (hI : Hid (Arr wy g3 214 (inn.map bv))) (hIL : Hid (inn.length = 32))
    (hA : Arr w5 wy.heap.size 250 ((kb.map (xb c)).map bv)) (hb : Below wy.heap.size wy w5) :
    Calls Tryz.prog 167 #[.slice (some ⟨w5.heap.size, 0, none⟩) 2 2] (w5.alloc (.cells #[.slice (some ⟨wy.heap.size, 0, none⟩) 64 64, .slice (some ⟨g3, 0, none⟩) 32 32] 152)) fun e w' => e = .returned (.agg (D.map bv).toArray) ∧ Below (w5.heap.size + 1) (w5.alloc (.cells #[.slice (some ⟨wy.heap.size, 0, none⟩) 64 64, .slice (some ⟨g3, 0, none⟩) 32 32] 152)) w' := by
  have hP := Pieces.two (B := w5.heap.size) (t := 152) (hA.bytes (n := 64) (B := w5.heap.size) (by simp [HKL.out]) hA.lt) ((hI.out.below hb hI.out.lt).bytes (n := 32) (B := w5.heap.size) hIL.out (Nat.lt_of_lt_of_le hI.out.lt hb.size)) (Nat.le_refl _)
  have := sum_walk (.slice (some ⟨w5.heap.size, 0, none⟩) 2 2) [kb.map (xb c), inn] (kb.map (xb c) ++ inn) (w5.alloc (.cells #[.slice (some ⟨wy.heap.size, 0, none⟩) 64 64, .slice (some ⟨g3, 0, none⟩) 32 32] 152)) (by simp) (by simpa using hP) (by simp [HKL.out, hIL.out]) (by simp)
  rw [HD.out] at this
  simpa using this

set_option maxHeartbeats 2000000 in
set_option maxRecDepth 100000 in
theorem Sealed_walk (vs v : Value) (s bs : List UInt8) (w : World) (hs : Bytes w.heap.size w vs s) (h : Bytes w.heap.size w v bs) (hsl : s.length ≤ 1000000) (hl : bs.length ≤ 900000) :
    Calls Tryz.prog 127 #[vs, v] w fun e w' => e = .returned (.agg ((sealW s bs).map bv).toArray) ∧ Below w.heap.size w w' := by
  have hb0 : Below w.heap.size w (w.alloc (.cells (List.replicate 32 (bv 0)).toArray 214)) := (Below.refl _ _).alloc (Nat.le_refl _) _
  have hs1 : (w.alloc (.cells (List.replicate 32 (bv 0)).toArray 214)).heap.size = w.heap.size + 1 := by simp
  have hK := key_walk vs s (w.alloc (.cells (List.replicate 32 (bv 0)).toArray 214)) (Row.mono (Bytes.below hs hb0) (by rw [hs1]; omega)) hsl
  have HH := Lib.hid h
  obtain ⟨a1, c1, b1, o1, rfl, -, -, -⟩ := hs.cells
  obtain ⟨a2, c2, b2, o2, rfl, -, -, -⟩ := h.cells
  have HK := Lib.hid hK; have HB0 := Lib.hid hb0; have HS1 := Lib.hid hs1; have HKL := Lib.hid (keyB_len s); have HN := Lib.hid (new32 w)
  clear hK hb0 hs1 hs h hsl
  obtain ⟨kb, hkb⟩ : ∃ z, keyB s = z := ⟨_, rfl⟩
  have HSW : Hid (sealW s bs = sha (kb.map (xb 92) ++ sha (kb.map (xb 54) ++ bs))) := by show _ = _; rw [← hkb]; rfl
  rw [hkb] at HK HKL
  clear hkb
  go_enter Tryz.func127, Tryz.ntmps127
  go_wp2_with fail
  refine HK.out.mono ?_
  rintro e w1 ⟨rfl, hb1⟩
  have hz1 := hb1.size
  rw [HS1.out] at hz1
  have hB1 := HB0.out.trans (hb1.mono (by rw [HS1.out]; omega))
  have HT := Lib.hid ((new64 w1).there (n := (kb.map bv).toArray.size) (by simp [HKL.out]))
  have HA1 := Lib.hid ((new64 w1).store (new := (kb.map bv).toArray.toList) (by simp [HKL.out]))
  have HX1 := Lib.hid (((HN.out.below hb1 (by rw [HS1.out]; omega)).alloc (.cells (List.replicate 64 (bv 0)).toArray 250)).farCells (new := (kb.map bv).toArray.toList) (o := 0) (b := w1.heap.size) (by omega))
  have HB2 := Lib.hid (below_cells (b := w1.heap.size) (B := w.heap.size) (by omega) (kb.map bv).toArray.toList 0 (hB1.alloc (by omega) (.cells (List.replicate 64 (bv 0)).toArray 250)))
  have HZ : Hid (((w1.alloc (.cells (List.replicate 64 (bv 0)).toArray 250)).setCells w1.heap.size 0 (kb.map bv).toArray.toList).heap.size = w1.heap.size + 1) := by
    show _ = _
    rw [size_cells]; simp
  clear hb1 hB1
  have tok1 : True := trivial
  go_wp2_with (first | (have _t := tok1; refine wpList_store_mid (by rfl) 250 _ _ (by rfl) w1.heap.size 0 (kb.map bv).toArray (by rfl) (by rfl) HT.out (info64 HKL.out) (bytes_one kb) ?_; clear tok1 _t; generalize hW : World.setCells _ w1.heap.size 0 (kb.map bv).toArray.toList = wz; have hA1 : Hid (Arr wz w1.heap.size 250 (kb.map bv)) := (by rw [← hW]; exact HA1.out : Arr _ _ _ _); have hX1 : Hid (Arr wz w.heap.size 214 (List.replicate 32 (bv 0))) := (by rw [← hW]; exact HX1.out : Arr _ _ _ _); have hB2 : Hid (Below w.heap.size w wz) := (by rw [← hW]; exact HB2.out : Below _ _ _); have hZ : Hid (wz.heap.size = w1.heap.size + 1) := (by rw [← hW]; exact HZ.out : _ = _); clear hW HA1 HX1 HB2 HZ HT; have HR := Lib.hid hA1.out.range; have tok2 : True := trivial) | (have _t := tok2; refine wpList_load_mid rfl 250 _ rfl w1.heap.size 0 rfl (kb.map bv) _ HR.out Tryz.underlying250 rfl (by simpa using info64 HKL.out) ?_; clear tok2 _t HR))
  refine (mixed_walk kb 54 HKL.out _).mono ?_
  rintro e w2 ⟨rfl, hA2, hb2⟩
  have hz2 := hb2.size
  rw [hZ.out] at hz2
  have hbz2 := hB2.out.trans (hb2.mono (by rw [hZ.out]; omega))
  have hP := Pieces.two (B := w2.heap.size) (t := 152) (hA2.bytes (n := 64) (B := w2.heap.size) (by simp [HKL.out]) hA2.lt) (Row.mono (Bytes.below HH.out hbz2) (by omega)) (Nat.le_refl _)
  have hsz2 : (w2.alloc (.cells #[.slice (some ⟨wz.heap.size, 0, none⟩) 64 64, .slice a2 bs.length c2] 152)).heap.size = w2.heap.size + 1 := by simp
  have HC := Lib.hid (sum_walk (.slice (some ⟨w2.heap.size, 0, none⟩) 2 2) [kb.map (xb 54), bs] (kb.map (xb 54) ++ bs) _ (by simp) (by rw [hsz2]; exact hP) (by simp [HKL.out]; omega) (by simp))
  have HSZ2 := Lib.hid hsz2
  have HBZ2 := Lib.hid (hbz2.alloc (by omega) (.cells #[.slice (some ⟨wz.heap.size, 0, none⟩) 64 64, .slice a2 bs.length c2] 152))
  have HA3 := Lib.hid ((hA1.out.below hb2 (by rw [hZ.out]; omega)).alloc (.cells #[.slice (some ⟨wz.heap.size, 0, none⟩) 64 64, .slice a2 bs.length c2] 152))
  have HX3 := Lib.hid ((hX1.out.below hb2 (by rw [hZ.out]; omega)).alloc (.cells #[.slice (some ⟨wz.heap.size, 0, none⟩) 64 64, .slice a2 bs.length c2] 152))
  obtain ⟨inn, hinn⟩ : ∃ z, sha (kb.map (xb 54) ++ bs) = z := ⟨_, rfl⟩
  have HIL : Hid (inn.length = 32) := by show _ = _; rw [← hinn]; exact sha_len _
  rw [hinn] at HC HSW
  clear hsz2 hP hbz2 hb2 hA2 hA1 hX1 hB2 hinn
  go_wp2_with fail
  refine HC.out.mono ?_
  rintro e w3 ⟨rfl, hb3⟩
  have hz3 := hb3.size
  rw [HSZ2.out] at hz3
  have HT := Lib.hid ((new32 w3).there (n := (inn.map bv).toArray.size) (by simp [HIL.out]))
  have HI4 := Lib.hid ((new32 w3).store (new := (inn.map bv).toArray.toList) (by simp [HIL.out]))
  have HK4 := Lib.hid (((HA3.out.below hb3 (by rw [HSZ2.out]; omega)).alloc (.cells (List.replicate 32 (bv 0)).toArray 214)).farCells (new := (inn.map bv).toArray.toList) (o := 0) (b := w3.heap.size) (by omega))
  have HX4 := Lib.hid (((HX3.out.below hb3 (by rw [HSZ2.out]; omega)).alloc (.cells (List.replicate 32 (bv 0)).toArray 214)).farCells (new := (inn.map bv).toArray.toList) (o := 0) (b := w3.heap.size) (by omega))
  have HB4 := Lib.hid (below_cells (b := w3.heap.size) (B := w.heap.size) (by omega) (inn.map bv).toArray.toList 0 ((HBZ2.out.trans (hb3.mono (by rw [HSZ2.out]; omega))).alloc (by omega) (.cells (List.replicate 32 (bv 0)).toArray 214)))
  have HZ4 : Hid (((w3.alloc (.cells (List.replicate 32 (bv 0)).toArray 214)).setCells w3.heap.size 0 (inn.map bv).toArray.toList).heap.size = w3.heap.size + 1) := by
    show _ = _
    rw [size_cells]; simp
  clear hb3 HC HA3 HX3 HBZ2 HSZ2
  have tok1 : True := trivial
  go_wp2_with (have _t := tok1; refine wpList_store_mid (by rfl) 214 _ _ (by rfl) w3.heap.size 0 (inn.map bv).toArray (by rfl) (by rfl) HT.out (info32 HIL.out) (bytes_one inn) ?_; clear tok1 _t; generalize hW : World.setCells _ w3.heap.size 0 (inn.map bv).toArray.toList = wy; have hI4 : Hid (Arr wy w3.heap.size 214 (inn.map bv)) := (by rw [← hW]; exact HI4.out : Arr _ _ _ _); have hK4 : Hid (Arr wy w1.heap.size 250 (kb.map bv)) := (by rw [← hW]; exact HK4.out : Arr _ _ _ _); have hX4 : Hid (Arr wy w.heap.size 214 (List.replicate 32 (bv 0))) := (by rw [← hW]; exact HX4.out : Arr _ _ _ _); have hB4 : Hid (Below w.heap.size w wy) := (by rw [← hW]; exact HB4.out : Below _ _ _); have hZ4 : Hid (wy.heap.size = w3.heap.size + 1) := (by rw [← hW]; exact HZ4.out : _ = _); clear hW HI4 HK4 HX4 HB4 HZ4 HT)
  obtain ⟨D, hD⟩ : ∃ z, sha (kb.map (xb 92) ++ inn) = z := ⟨_, rfl⟩
  have HDL : Hid (D.length = 32) := by show _ = _; rw [← hD]; exact sha_len _
  have HD := Lib.hid hD
  rw [hD] at HSW
  go_frame
  have hu1 := Tryz.underlying250
  have hi1 : (Tryz.prog.info? 250).map (·.size) = some (kb.map bv).length := by simpa using info64 HKL.out
  have hi2 : (Tryz.prog.info? 214).map (·.size) = some (D.map bv).length := by simpa using info32 HDL.out
  have hl2 : (D.map bv).length = 32 := by simp [HDL.out]
  have hD1 : ∀ v ∈ D.map bv, v.oneCell' = true := fun v hv => by obtain ⟨x, -, rfl⟩ := List.mem_map.1 hv; rfl
  have hr0 : wy.rangeAt w1.heap.size 0 (kb.map bv) := hK4.out.range
  have ht0 : wy.there w.heap.size 0 32 := hX4.out.there (by simp)
  have hlt1 : w1.heap.size < wy.heap.size := hK4.out.lt
  have hlt0 : w.heap.size < wy.heap.size := hX4.out.lt
  have hne : w1.heap.size ≠ w.heap.size := by omega
  clear hD hz1 hz2 hz3
  go_region_held3 (fun w' => w'.rangeAt w1.heap.size 0 (kb.map bv) ∧ w'.there w.heap.size 0 32) (first | exact ⟨hr0, ht0⟩ | exact ⟨rangeAt_below hr0 hb5 hlt1, there_below ht0 hb5 hlt0⟩ | exact ⟨World.rangeAt_alloc (rangeAt_below hr0 hb5 hlt1) _, World.there_alloc (there_below ht0 hb5 hlt0) _⟩ | exact ⟨hr6, ht6⟩ | exact ⟨World.rangeAt_setCells_apart hr6 _ _ _ (.inl hne), World.there_setCells ht6 _ _ _⟩ | go_keep_ranges)
    (first
      | (go_at_call 168; refine (mixed_walk kb 92 HKL.out _).mono ?_; rintro e w5 ⟨rfl, hA5, hb5⟩; replace hb5 : Below wy.heap.size wy w5 := ((Below.refl wy.heap.size wy).drew).trans hb5)
      | (go_at_call 167; refine (sum_two HD HKL hI4 HIL hA5 hb5).mono ?_; rintro e w6 ⟨rfl, hb6⟩; have hz5 : wy.heap.size ≤ w5.heap.size := hb5.size; have hr6 := rangeAt_below (World.rangeAt_alloc (rangeAt_below hr0 hb5 hlt1) _) hb6 (by omega); have ht6 := there_below (World.there_alloc (there_below ht0 hb5 hlt0) _) hb6 (by omega)))
  have hX6 := (((hX4.out.below hb5 hlt0).alloc (.cells #[.slice (some ⟨wy.heap.size, 0, none⟩) 64 64, .slice (some ⟨w3.heap.size, 0, none⟩) 32 32] 152)).below hb6 (by omega)).store (new := D.map bv) (by simp [HDL.out])
  have hB6 := below_cells (b := w.heap.size) (Nat.le_refl _) (D.map bv) 0 (((hB4.out.trans (hb5.mono (by omega))).alloc (by omega) (.cells #[.slice (some ⟨wy.heap.size, 0, none⟩) 64 64, .slice (some ⟨w3.heap.size, 0, none⟩) 32 32] 152)).trans (hb6.mono (by omega)))
  clear hr6 ht6 hne hr0 ht0
  go_wp2
  exact ret_arr Tryz.results127 rfl rfl hX6 Tryz.underlying214 rfl hi2 ⟨by rw [HSW.out], hB6⟩
end Go.Proofs.YtinijohmdljieaaGreatDoor
