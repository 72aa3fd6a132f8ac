/- docketref14.Sum. -/
import Derived.Test.YtinijohmdljieaaGreatDoorRefSum
import Derived.Test.YtinijohmdljieaaGreatDoorH03
import Derived.Deep.RegionHeld3
import Derived.Deep.DrawnRows
namespace Go.Proofs.YtinijohmdljieaaGreatDoor
open Go.RowKit

attribute [local go_sem ↓] Go.wp_at_zero Go.wp_at_succ
theorem vars2 (w8 : World) (t : TypeId) : Arr (w8.alloc (.cells (List.replicate 8 (vw 0)).toArray t)) w8.heap.size t (List.replicate 8 (vw 0)) := Arr.new _ _ _

/-- the state of Sum at the blocks: k are done -/
structure SumSt (w wr : World) (g gk b off n N k : Nat) (all : List UInt8) (hs : List Int) : Prop where
  nn : all.length = n
  n64 : n = 64 * N
  al : ∀ j (hj : j < all.length), wr.cell? ⟨b, off + j, none⟩ = some (bv all[j])
  bg : b ≠ g
  bl : b < wr.heap.size
  hl : hs.length = 8
  mx : mixN (N - k) hs (all.drop (64 * k)) = mixN N H0 all
  h : Arr wr g 274 (hs.map vw)
  k : Arr wr gk 277 (K64.map vw)
  o : Arr wr w.heap.size 214 (List.replicate 32 (bv 0))
  b0 : Below w.heap.size w wr
  g0 : w.heap.size < g
  gk : g < gk
theorem SumSt.next {w wr w6 : World} {g gk b off n N k : Nat} {all : List UInt8} {hs : List Int} (h : SumSt w wr g gk b off n N k all hs) (hk : k < N) (hb : Below wr.heap.size wr w6) :
    SumSt w (w6.setCells g 0 ((mixed8 hs K64 (((all.drop (64 * k)).take 64).map iv)).map vw)) g gk b off n N (k + 1) all (mixed8 hs K64 (((all.drop (64 * k)).take 64).map iv)) := by
  have hz := hb.size
  have hcell : ∀ (b' o' : Nat) (vs : List Value) (o : Nat) (W : World), b' ≠ g → (W.setCells g o vs).cell? ⟨b', o', none⟩ = W.cell? ⟨b', o', none⟩ := by
    intro b' o' vs o W hne
    exact World.cell?_setCells_out g vs o W ⟨b', o', none⟩ (fun hh _ => absurd hh hne)
  refine ⟨h.nn, h.n64, fun j hj => ?_, h.bg, by rw [size_cells]; have := h.bl; omega, mixed8_len h.hl, ?_, ?_, ?_, ?_, ?_, h.g0, h.gk⟩
  · rw [hcell _ _ _ _ _ h.bg, hb.cell (p := ⟨b, off + j, none⟩) h.bl]
    exact h.al j hj
  · rw [← h.mx]
    obtain ⟨m, hm⟩ : ∃ m, N - k = m + 1 := ⟨N - k - 1, by omega⟩
    rw [hm, mixN, show N - (k + 1) = m by omega, List.drop_drop]
    rfl
  · exact (h.h.below hb h.h.lt).store (by simp [h.hl, mixed8_len])
  · exact (h.k.below hb h.k.lt).farCells (by have := h.gk; omega)
  · exact (h.o.below hb h.o.lt).farCells (by have := h.g0; omega)
  · exact below_cells (by have := h.g0; omega) _ _ (h.b0.trans (hb.mono h.b0.size))

theorem step_go {P : Program} {ops : Array Oper} {o : Oper} {a : Act} {w : World} {K : Act → World → Prop} {Q : Exit → Act → World → Prop} {E : Prop} (hg : o.guard = none) (h : Oper.wp P o a w K Q) :
    if Region.wanted o (yielded ops a.tmps) = true then Oper.wp P o a w K Q else E := by
  rw [if_pos (by simp [Region.wanted, hg])]; exact h
theorem hArr_info2 : (Tryz.prog.info? 274).map (·.size) = some hArr.size := by kernel_rfl
/-- a variable of eight words, stored whole -/
theorem store_new (w : World) (t : TypeId) (k : Nat) (cs : List Value) (hl : cs.length = k) (z : Value) :
    (w.alloc (.cells (List.replicate k z).toArray t)).there w.heap.size 0 cs.toArray.size ∧ Arr ((w.alloc (.cells (List.replicate k z).toArray t)).setCells w.heap.size 0 cs.toArray.toList) w.heap.size t cs ∧
    Below w.heap.size w ((w.alloc (.cells (List.replicate k z).toArray t)).setCells w.heap.size 0 cs.toArray.toList) ∧ ((w.alloc (.cells (List.replicate k z).toArray t)).setCells w.heap.size 0 cs.toArray.toList).heap.size = w.heap.size + 1 :=
  ⟨(Arr.new w (List.replicate k z) t).there (by simp [hl]), (Arr.new w (List.replicate k z) t).store (by simp [hl]), below_cells (Nat.le_refl _) _ _ ((Below.refl _ _).alloc (Nat.le_refl _) _), by rw [size_cells]; simp⟩

set_option maxHeartbeats 4000000 in
set_option maxRecDepth 100000 in
theorem refSum_walk (v : Value) (bs : List UInt8) (w : World) (h : Bytes w.heap.size w v bs) (hl : bs.length ≤ 1000000) :
    Calls Tryz.prog 169 #[v] w fun e w' => e = .returned (.agg ((sha bs).map bv).toArray) ∧ Below w.heap.size w w' := by
  have HO := Lib.hid (new32 w)
  have HB0 : Hid (Below w.heap.size w (w.alloc (.cells (List.replicate 32 (bv 0)).toArray 214))) := (Below.refl _ _).alloc (Nat.le_refl _) _
  have HS1 : Hid ((w.alloc (.cells (List.replicate 32 (bv 0)).toArray 214)).heap.size = w.heap.size + 1) := by show _ = _; simp
  have HL := Lib.hid (fun (W : World) (hb : Below w.heap.size w W) => longer_walk v bs W (Row.mono (h.below hb) hb.size) hl)
  clear h
  go_enter Tryz.func169, Tryz.ntmps169
  go_wp2_with fail
  refine (refFirst_walk (w.alloc (.cells (List.replicate 32 (bv 0)).toArray 214))).mono ?_
  rintro e w1 ⟨rfl, hb1⟩
  have hz1 := hb1.size
  rw [HS1.out] at hz1
  have HT := Lib.hid (store_new w1 274 8 (H0.map vw) rfl (vw 0))
  have HO1 := Lib.hid (((HO.out.below hb1 (by rw [HS1.out]; omega)).alloc (.cells (List.replicate 8 (vw 0)).toArray 274)).farCells (new := (H0.map vw).toArray.toList) (o := 0) (b := w1.heap.size) (by omega))
  have HB1 := Lib.hid ((HB0.out.trans (hb1.mono (by rw [HS1.out]; omega))).trans (HT.out.2.2.1.mono (by omega)))
  clear hb1
  have tok1 : True := trivial
  go_wp2_with (have _t := tok1; refine wpList_store_mid (by rfl) 274 _ _ (by rfl) w1.heap.size 0 (H0.map vw).toArray (by rfl) (by rfl) HT.out.1 hArr_info2 hArr_one ?_; clear tok1 _t; generalize hW : World.setCells _ w1.heap.size 0 (H0.map vw).toArray.toList = wy; have hA1 : Hid (Arr wy w1.heap.size 274 (H0.map vw)) := (by rw [← hW]; exact HT.out.2.1 : Arr _ _ _ _); have hO1 : Hid (Arr wy w.heap.size 214 (List.replicate 32 (bv 0))) := (by rw [← hW]; exact HO1.out : Arr _ _ _ _); have hB1 : Hid (Below w.heap.size w wy) := (by rw [← hW]; exact HB1.out : Below _ _ _); have hZ1 : Hid (wy.heap.size = w1.heap.size + 1) := (by rw [← hW]; exact HT.out.2.2.2 : _ = _); clear hW HT HO1 HB1)
  refine (refSteps_walk _).mono ?_
  rintro e w2 ⟨rfl, hb2⟩
  have hz2 : w1.heap.size + 1 ≤ w2.heap.size := by have := hb2.size; rw [hZ1.out] at this; exact this
  have HT := Lib.hid (store_new w2 277 64 (K64.map vw) rfl (vw 0))
  have HA2 := Lib.hid (((hA1.out.below hb2 hA1.out.lt).alloc (.cells (List.replicate 64 (vw 0)).toArray 277)).farCells (new := (K64.map vw).toArray.toList) (o := 0) (b := w2.heap.size) (by omega))
  have HO2 := Lib.hid (((hO1.out.below hb2 hO1.out.lt).alloc (.cells (List.replicate 64 (vw 0)).toArray 277)).farCells (new := (K64.map vw).toArray.toList) (o := 0) (b := w2.heap.size) (by omega))
  have HB2 := Lib.hid ((hB1.out.trans (hb2.mono hB1.out.size)).trans (HT.out.2.2.1.mono (by omega)))
  have HK64 : Hid (Arr ((w2.alloc (.cells (List.replicate 64 (vw 0)).toArray 277)).setCells w2.heap.size 0 (K64.map vw).toArray.toList) w2.heap.size 277 (K64.map vw)) := HT.out.2.1
  clear hb2 hA1 hO1 hB1 hZ1
  have tok2 : True := trivial
  go_wp2_with (have _t := tok2; refine wpList_store_mid (by rfl) 277 _ _ (by rfl) w2.heap.size 0 (K64.map vw).toArray (by rfl) (by rfl) HT.out.1 kArr_info kArr_one ?_; clear tok2 _t; generalize hW : World.setCells _ w2.heap.size 0 (K64.map vw).toArray.toList = wz; have hK3 : Hid (Arr wz w2.heap.size 277 (K64.map vw)) := (by rw [← hW]; exact HK64.out : Arr _ _ _ _); have hA3 : Hid (Arr wz w1.heap.size 274 (H0.map vw)) := (by rw [← hW]; exact HA2.out : Arr _ _ _ _); have hO3 : Hid (Arr wz w.heap.size 214 (List.replicate 32 (bv 0))) := (by rw [← hW]; exact HO2.out : Arr _ _ _ _); have hB3 : Hid (Below w.heap.size w wz) := (by rw [← hW]; exact HB2.out : Below _ _ _); clear hW HT HA2 HO2 HB2 HK64)
  refine (HL.out _ hB3.out).mono ?_
  rintro e w4 ⟨va, vc, n, rfl, hG⟩
  have hpl := padded_dvd bs
  have hpn := padded_len bs
  obtain ⟨N, hN⟩ : ∃ N, (padded bs).length = 64 * N := ⟨(padded bs).length / 64, by omega⟩
  have hnn : n = 64 * N := by rw [← hN]; exact hG.1
  have hzl : zerosN bs.length < 64 := by unfold zerosN; omega
  obtain ⟨gb, rfl, hgb1, hgb2, hgc, -⟩ := hG.2.1.cell (by rw [hN, ← hnn]; omega)
  have HST : Hid (SumSt w w4 w1.heap.size w2.heap.size gb 0 n N 0 (padded bs) H0) := by
    refine ⟨hG.1.symm, hnn, fun j hj => ?_, ?_, hgb2, rfl, by rw [Nat.sub_zero, Nat.mul_zero, List.drop_zero], hA3.out.below hG.2.2 hA3.out.lt, hK3.out.below hG.2.2 hK3.out.lt, hO3.out.below hG.2.2 hO3.out.lt, hB3.out.trans (hG.2.2.mono hB3.out.size), by omega, by omega⟩
    · rw [Nat.zero_add]
      exact hgc j _ (by rw [List.getElem?_map, List.getElem?_eq_getElem hj]; rfl)
    · have := hA3.out.lt; omega
  have hcn : n ≤ vc := by have := hG.2.1.cap.1; rw [← hG.1] at this; exact this
  have hn5 : n ≤ 1048576 := by omega
  have HMX : Hid (sha bs = digest (mixN N H0 (padded bs))) := by show _ = _; rw [sha, hN]; congr 2; omega
  have HN := Lib.hid hnn
  clear hG hgc hpl hpn hN hnn HL hK3 hA3 hO3 hB3
  generalize padded bs = all at *
  generalize w1.heap.size = g at *
  generalize w2.heap.size = gk at *
  go_wp2_with fail
  go_loopw [6] (fun i wr => ∃ (k : Nat) (hs : List Int), k ≤ N ∧ i = .int .i64 (64 * (k : Int)) ∧ Hid (SumSt w wr g gk gb 0 n N k all hs)) (fun i _ => n - (intOf i).toNat)
  case atStart => exact ⟨0, H0, by omega, rfl, HST⟩
  case round =>
    clear HST
    obtain ⟨k, hs, hk, rfl, hS⟩ := hrel
    by_cases hlt : k < N
    · have d1 : 64 * (k : Int) < (n : Int) := by have := HN.out; omega
      have d0 : (0 : Int) ≤ 64 * (k : Int) := by omega
      have d2 : IntKind.i64.wrap (64 * (k : Int) + 64) = 64 * (k : Int) + 64 := wrap_i64 (by have := HN.out; omega) (by have := HN.out; omega)
      have d3 : 64 * (k : Int) + 64 ≤ (vc : Int) := by have := HN.out; omega
      have d4 : (64 * (k : Int)).toNat = 64 * k := by omega
      have d5 : (64 * (k : Int) + 64).toNat = 64 * k + 64 := by omega
      have d6 : (0 : Int) ≤ 64 * (k : Int) + 64 := by omega
      have d7 : 64 * (k : Int) ≤ 64 * (k : Int) + 64 := by omega
      have d8 : (vc = 64 * k) = False := by have := HN.out; simp; omega
      have hRW : ∀ W : World, Below wr.heap.size wr W → Calls Tryz.prog 197 #[.agg (hs.map vw).toArray, .slice (some ⟨gb, 64 * k, none⟩) 64 (vc - 64 * k), .agg (K64.map vw).toArray] W fun e w' => e = .returned (.agg ((mixed8 hs K64 (((all.drop (64 * k)).take 64).map iv)).map vw).toArray) ∧ Below W.heap.size W w' := by
        intro W hW
        have hal := hS.out.nn
        have hNN := HN.out
        refine round_walk gb (64 * k) (vc - 64 * k) 64 hs K64 (((all.drop (64 * k)).take 64).map iv) W hS.out.hl k64_len (by simp; omega) (Nat.le_refl _) (by omega) (Nat.lt_of_lt_of_le hS.out.bl hW.size) (fun j hj => ?_) (fun x hx => ?_)
        · rw [hW.cell (p := ⟨gb, 64 * k + j, none⟩) hS.out.bl]
          have := hS.out.al (64 * k + j) (by omega)
          rw [Nat.zero_add] at this
          rw [this]
          simp [iv]
        · obtain ⟨y, -, rfl⟩ := List.mem_map.1 hx
          exact iv_lt y
      have HNX := Lib.hid (fun (w6 : World) (hb : Below wr.heap.size wr w6) => hS.out.next hlt hb)
      have hDl := mixed8_len (hs := hs) (ks := K64) (m := ((all.drop (64 * k)).take 64).map iv) hS.out.hl
      generalize mixed8 hs K64 (((all.drop (64 * k)).take 64).map iv) = D at hRW HNX hDl
      have HRW := Lib.hid hRW
      have HRK : Hid (wr.drew.rangeAt gk 0 (K64.map vw)) := hS.out.k.drew.range
      have HR8 : Hid (wr.drew.rangeAt g 0 (hs.map vw)) := hS.out.h.drew.range
      have HJ8 : Hid ((Tryz.prog.info? 274).map (·.size) = some (hs.map vw).length) := by show _ = _; rw [List.length_map, hS.out.hl]; kernel_rfl
      have HI8 : Hid ((Tryz.prog.info? 274).map (·.size) = some (D.map vw).toArray.size) := by show _ = _; rw [List.size_toArray, List.length_map, hDl]; kernel_rfl
      have HO8 : Hid ((D.map vw).toArray.all (·.oneCell') = true) := all_oneCell_toArray (by intro v hv; obtain ⟨x, -, rfl⟩ := List.mem_map.1 hv; rfl)
      have HHG := Lib.hid hS.out.h
      have HHL := Lib.hid hS.out.hl
      have HDL := Lib.hid hDl
      have HTH := Lib.hid (fun (w6 : World) (hb : Below wr.heap.size wr w6) => (HHG.out.below hb HHG.out.lt).there (n := (D.map vw).toArray.size) (by simp [HDL.out, HHL.out]))
      clear hRW hS hDl
      go_wp2
      refine wp_region_noPanic ?_
      refine wp_region_any (by kernel_rfl) ?_
      change wpAny _ _ _ _ _ _ _ (World.drew _)
      refine wpAny_take (i := 1) (oi := { dst := some 20, op := Op.move (Operand.tmp 5), type := 152, pos := "ref.go:84", after := #[], guard := none }) (v := .slice (some ⟨gb, 0, none⟩) n vc) rfl (by kernel_rfl) (by kernel_rfl) (by kernel_rfl) (fun _ _ _ h => h) (Or.inl ⟨by rfl, fun w => by go_simp⟩) ?_
      simp only [Act.put, List.setIfInBounds_toArray, List.set_cons_zero, List.set_cons_succ]
      refine wpAny_take (i := 2) (oi := { dst := some 21, op := Op.move (Operand.tmp 6), type := 3, pos := "ref.go:84", after := #[], guard := none }) (v := .int .i64 (64 * (k : Int))) rfl (by kernel_rfl) (by kernel_rfl) (by kernel_rfl) (fun _ _ _ h => h) (Or.inl ⟨by rfl, fun w => by go_simp⟩) ?_
      simp only [Act.put, List.setIfInBounds_toArray, List.set_cons_zero, List.set_cons_succ]
      refine wpAny_take (i := 3) (oi := { dst := some 22, op := Op.move (Operand.tmp 6), type := 3, pos := "ref.go:84", after := #[], guard := none }) (v := .int .i64 (64 * (k : Int))) rfl (by kernel_rfl) (by kernel_rfl) (by kernel_rfl) (fun _ _ _ h => h) (Or.inl ⟨by rfl, fun w => by go_simp⟩) ?_
      simp only [Act.put, List.setIfInBounds_toArray, List.set_cons_zero, List.set_cons_succ]
      refine wpAny_take (i := 4) (oi := { dst := some 23, op := Op.binOp BinOp.add 3 (Operand.tmp 22) (Operand.const (Value.int IntKind.i64 64)) 3, type := 3, pos := "ref.go:84", after := #[{ on := 3, ground := Ground.data }], guard := none }) (v := .int .i64 (64 * (k : Int) + 64)) rfl (by kernel_rfl) (by kernel_rfl) (by kernel_rfl) (fun _ _ _ h => h) (Or.inl ⟨by rfl, fun w => by go_simp⟩) ?_
      simp only [Act.put, List.setIfInBounds_toArray, List.set_cons_zero, List.set_cons_succ]
      refine wpAny_take (i := 5) (oi := { dst := some 24, op := Op.slice 152 (Operand.tmp 20) (some (Operand.tmp 21)) (some (Operand.tmp 23)) none, type := 152, pos := "ref.go:84", after := #[{ on := 1, ground := Ground.data }, { on := 2, ground := Ground.data }, { on := 4, ground := Ground.data }], guard := none }) (v := .slice (some ⟨gb, 64 * k, none⟩) 64 (vc - 64 * k)) rfl (by kernel_rfl) (by kernel_rfl) (by kernel_rfl) (fun _ _ _ h => h) (Or.inl ⟨by rfl, fun w => by go_simp⟩) ?_
      simp only [Act.put, List.setIfInBounds_toArray, List.set_cons_zero, List.set_cons_succ]
      refine wpAny_ready (rs := [0, 6]) (by kernel_rfl) (by simp) ?_
      refine AllReady.cons (o := { dst := some 19, op := Op.load 274 (Operand.tmp 3), type := 274, pos := "ref.go:84", after := #[], guard := none }) rfl (fun K hK => ?_) (AllReady.cons (o := { dst := some 25, op := Op.load 277 (Operand.tmp 4), type := 277, pos := "ref.go:84", after := #[], guard := none }) rfl (fun K hK => ?_) AllReady.nil)
      · refine step_go (by rfl) ?_
        refine wp_load_mid 274 _ (by rfl) g 0 (by rfl) (hs.map vw) _ HR8.out Tryz.underlying274 rfl HJ8.out ?_
        refine hK _ _ ?_
        clear hK K
        simp only [Act.put, List.setIfInBounds_toArray, List.set_cons_zero, List.set_cons_succ]
        refine wpAny_ready (rs := [6]) (by kernel_rfl) (by simp) ?_
        refine AllReady.cons (o := { dst := some 25, op := Op.load 277 (Operand.tmp 4), type := 277, pos := "ref.go:84", after := #[], guard := none }) rfl (fun K hK => ?_) AllReady.nil
        refine step_go (by rfl) ?_
        refine wp_load_mid 277 _ (by rfl) gk 0 (by rfl) (K64.map vw) _ HRK.out Tryz.underlying277 rfl (by kernel_rfl) ?_
        refine hK _ _ ?_
        clear hK K
        simp only [Act.put, List.setIfInBounds_toArray, List.set_cons_zero, List.set_cons_succ]
        refine wpAny_ready (rs := [7]) (by kernel_rfl) (by simp) ?_
        refine AllReady.cons (o := { dst := some 26, op := Op.call { callee := Callee.value (Operand.func 197), args := #[Operand.tmp 19, Operand.tmp 24, Operand.tmp 25], argTypes := #[274, 152, 277] }, type := 274, pos := "ref.go:84", after := #[{ on := 0, ground := Ground.data }, { on := 5, ground := Ground.data }, { on := 6, ground := Ground.data }], guard := none }) rfl (fun K hK => ?_) AllReady.nil
        refine step_go (by rfl) ?_
        have HK7 := Lib.hid hK
        clear hK
        go_simp
        go_at_call 197
        refine (HRW.out _ ((Below.refl _ _).drew)).mono ?_
        rintro e w6 ⟨rfl, hb6⟩
        replace hb6 : Below wr.heap.size wr w6 := ((Below.refl wr.heap.size wr).drew).trans hb6
        go_wp2_with fail
        refine HK7.out _ _ ?_
        clear HK7 K
        try simp only [Act.put, List.setIfInBounds_toArray, List.set_cons_zero, List.set_cons_succ]
        refine wpAny_ready (rs := [8]) (by kernel_rfl) (by simp) ?_
        refine AllReady.cons (o := { dst := none, op := Op.store 274 (Operand.tmp 3) (Operand.tmp 26), type := 0, pos := "ref.go:84", after := #[{ on := 7, ground := Ground.data }, { on := 7, ground := Ground.chain }, { on := 0, ground := Ground.phase }, { on := 1, ground := Ground.phase }, { on := 2, ground := Ground.phase }, { on := 3, ground := Ground.phase }, { on := 4, ground := Ground.phase }, { on := 5, ground := Ground.phase }, { on := 6, ground := Ground.phase }, { on := 7, ground := Ground.phase }], guard := none }) rfl (fun K hK => ?_) AllReady.nil
        refine step_go (by rfl) ?_
        refine wp_store_mid 274 _ _ (by rfl) g 0 (D.map vw).toArray (by rfl) (by rfl) (HTH.out w6 hb6) HI8.out HO8.out ?_
        refine hK _ _ ?_
        clear hK K
        refine wpAny_done (by kernel_rfl) (NoPanic.normal ?_) _
        have HF : Hid (SumSt w (w6.setCells g 0 (D.map vw).toArray.toList) g gk gb 0 n N (k + 1) all D) := HNX.out w6 hb6
        clear hb6
        go_wp2
        go_roundw
        case rel => exact ⟨k + 1, _, by omega, by congr 1 <;> omega, HF⟩
        case measure => have := HN.out; simp [intOf]; omega
      · refine step_go (by rfl) ?_
        refine wp_load_mid 277 _ (by rfl) gk 0 (by rfl) (K64.map vw) _ HRK.out Tryz.underlying277 rfl (by kernel_rfl) ?_
        refine hK _ _ ?_
        clear hK K
        simp only [Act.put, List.setIfInBounds_toArray, List.set_cons_zero, List.set_cons_succ]
        refine wpAny_ready (rs := [0]) (by kernel_rfl) (by simp) ?_
        refine AllReady.cons (o := { dst := some 19, op := Op.load 274 (Operand.tmp 3), type := 274, pos := "ref.go:84", after := #[], guard := none }) rfl (fun K hK => ?_) AllReady.nil
        refine step_go (by rfl) ?_
        refine wp_load_mid 274 _ (by rfl) g 0 (by rfl) (hs.map vw) _ HR8.out Tryz.underlying274 rfl HJ8.out ?_
        refine hK _ _ ?_
        clear hK K
        simp only [Act.put, List.setIfInBounds_toArray, List.set_cons_zero, List.set_cons_succ]
        refine wpAny_ready (rs := [7]) (by kernel_rfl) (by simp) ?_
        refine AllReady.cons (o := { dst := some 26, op := Op.call { callee := Callee.value (Operand.func 197), args := #[Operand.tmp 19, Operand.tmp 24, Operand.tmp 25], argTypes := #[274, 152, 277] }, type := 274, pos := "ref.go:84", after := #[{ on := 0, ground := Ground.data }, { on := 5, ground := Ground.data }, { on := 6, ground := Ground.data }], guard := none }) rfl (fun K hK => ?_) AllReady.nil
        refine step_go (by rfl) ?_
        have HK7 := Lib.hid hK
        clear hK
        go_simp
        go_at_call 197
        refine (HRW.out _ ((Below.refl _ _).drew)).mono ?_
        rintro e w6 ⟨rfl, hb6⟩
        replace hb6 : Below wr.heap.size wr w6 := ((Below.refl wr.heap.size wr).drew).trans hb6
        go_wp2_with fail
        refine HK7.out _ _ ?_
        clear HK7 K
        try simp only [Act.put, List.setIfInBounds_toArray, List.set_cons_zero, List.set_cons_succ]
        refine wpAny_ready (rs := [8]) (by kernel_rfl) (by simp) ?_
        refine AllReady.cons (o := { dst := none, op := Op.store 274 (Operand.tmp 3) (Operand.tmp 26), type := 0, pos := "ref.go:84", after := #[{ on := 7, ground := Ground.data }, { on := 7, ground := Ground.chain }, { on := 0, ground := Ground.phase }, { on := 1, ground := Ground.phase }, { on := 2, ground := Ground.phase }, { on := 3, ground := Ground.phase }, { on := 4, ground := Ground.phase }, { on := 5, ground := Ground.phase }, { on := 6, ground := Ground.phase }, { on := 7, ground := Ground.phase }], guard := none }) rfl (fun K hK => ?_) AllReady.nil
        refine step_go (by rfl) ?_
        refine wp_store_mid 274 _ _ (by rfl) g 0 (D.map vw).toArray (by rfl) (by rfl) (HTH.out w6 hb6) HI8.out HO8.out ?_
        refine hK _ _ ?_
        clear hK K
        refine wpAny_done (by kernel_rfl) (NoPanic.normal ?_) _
        have HF : Hid (SumSt w (w6.setCells g 0 (D.map vw).toArray.toList) g gk gb 0 n N (k + 1) all D) := HNX.out w6 hb6
        clear hb6
        go_wp2
        go_roundw
        case rel => exact ⟨k + 1, _, by omega, by congr 1 <;> omega, HF⟩
        case measure => have := HN.out; simp [intOf]; omega
    · have hkN : N ≤ k := by omega
      have d1 : ¬ (64 * (k : Int) < (n : Int)) := by have := HN.out; omega
      have HDG : Hid (digest hs = sha bs) := by
        have := hS.out.mx
        rw [show N - k = 0 by omega, mixN] at this
        show _ = _
        rw [HMX.out, this]
      have hO := hS.out.o
      have hA := hS.out.h
      have hB := hS.out.b0
      have hg := hS.out.g0
      have hsl := hS.out.hl
      have hlg := hA.lt
      have HO5 := Lib.hid (hO.alloc (.cells (List.replicate 32 (bv 0)).toArray 214))
      have HA5 := Lib.hid (hA.alloc (.cells (List.replicate 32 (bv 0)).toArray 214))
      have HB5 := Lib.hid (hB.alloc hB.size (.cells (List.replicate 32 (bv 0)).toArray 214))
      have HX5 := Lib.hid (new32 wr)
      have HSL := Lib.hid hsl
      have hwg : w.heap.size < wr.heap.size := by omega
      clear hS hO hA hB hsl
      obtain ⟨wp, rfl⟩ : ∃ wp : World, wp = wr := ⟨_, rfl⟩
      go_wp2
      go_loopw [8] (fun i wx => ∃ (j : Nat) (os : List UInt8), j ≤ 32 ∧ i = .int .i64 j ∧ Hid (os.length = 32 ∧ os.take j = (digest hs).take j) ∧ Hid (Arr wx wp.heap.size 214 (os.map bv)) ∧ Hid (Arr wx g 274 (hs.map vw)) ∧ Hid (Arr wx w.heap.size 214 (List.replicate 32 (bv 0))) ∧ Hid (Below w.heap.size w wx)) (fun i _ => 32 - (intOf i).toNat)
      case atStart => exact ⟨0, List.replicate 32 0, by omega, rfl, ⟨by simp, rfl⟩, by rw [List.map_replicate]; exact HX5, HA5, HO5, HB5⟩
      case round =>
        clear HX5 HA5 HO5 HB5
        obtain ⟨j, os, hj, rfl, hD, hX, hA, hO, hB⟩ := hrel
        by_cases hlj : j < 32
        · have hjl : j / 4 < hs.length := by rw [HSL.out]; omega
          have x0 := hA.out.cell (j := j / 4) (by simpa using hjl)
          rw [List.getElem_map] at x0
          obtain ⟨x, hx⟩ : ∃ z, hs[j / 4] = z := ⟨_, rfl⟩
          rw [hx] at x0
          have HXX : Hid (hs.getD (j / 4) 0 = x) := by show _ = _; rw [← getD_of hjl]; exact hx
          have y1 := hX.out.frozen j
          have hol := hD.out.1
          have y0 := hX.out.cell (j := j) (by simp [hol]; omega)
          obtain ⟨y, hy⟩ : ∃ z, (os.map bv)[j]'(by simp [hol]; omega) = z := ⟨_, rfl⟩
          rw [hy] at y0
          have i1 : (0 : Int) ≤ (j : Int) / 4 := by omega
          have i2 : (j : Int) / 4 < 8 := by omega
          have i5 : (0 : Int) ≤ (j : Int) := by omega
          have i6 : (j : Int) < 32 := by omega
          have m1 : IntKind.u32.wrap ((j : Int) % 4) = (j : Int) % 4 := wrap_u32 (by omega) (by omega)
          have m2 : IntKind.u32.wrap (8 * ((j : Int) % 4)) = 8 * ((j : Int) % 4) := wrap_u32 (by omega) (by omega)
          have m3 : IntKind.u32.wrap (24 - 8 * ((j : Int) % 4)) = 24 - 8 * ((j : Int) % 4) := wrap_u32 (by omega) (by omega)
          have m4 : (24 - 8 * ((j : Int) % 4)).toNat = 24 - 8 * (j % 4) := by omega
          have m5 : (0 : Int) ≤ 24 - 8 * ((j : Int) % 4) := by omega
          have m6 : 24 - 8 * ((j : Int) % 4) < 32 := by omega
          have HN2 : Hid ((os.set j (b8 (hs.getD (j / 4) 0 / 2 ^ (24 - 8 * (j % 4))))).length = 32 ∧ (os.set j (b8 (hs.getD (j / 4) 0 / 2 ^ (24 - 8 * (j % 4))))).take (j + 1) = (digest hs).take (j + 1)) := by
            refine ⟨by simp [hol], ?_⟩
            rw [digest_snoc _ _ hlj, List.take_succ_eq_append_getElem (by simp; omega), List.take_set_of_le (Nat.le_refl j), hD.out.2]
            simp
          have HX2 : Hid (∀ u : Value, u = bv (b8 (hs.getD (j / 4) 0 / 2 ^ (24 - 8 * (j % 4)))) → Arr (wr.setCell ⟨wp.heap.size, j, none⟩ u) wp.heap.size 214 ((os.set j (b8 (hs.getD (j / 4) 0 / 2 ^ (24 - 8 * (j % 4))))).map bv)) := fun u hu => by
            subst hu
            rw [List.map_set]; exact hX.out.set j _
          rw [HXX.out] at HN2 HX2
          have HA2 := Lib.hid (fun u => hA.out.far (a := ⟨wp.heap.size, j, none⟩) (by show g ≠ wp.heap.size; omega) u)
          have HO2 := Lib.hid (fun u => hO.out.far (a := ⟨wp.heap.size, j, none⟩) (by show w.heap.size ≠ wp.heap.size; omega) u)
          have HB2 := Lib.hid (fun u => hB.out.setCell (p := ⟨wp.heap.size, j, none⟩) (by show w.heap.size ≤ wp.heap.size; omega) u)
          clear hx hy hol hD hX hA hO hB hjl
          go_wp2
          go_roundw
          case rel => exact ⟨j + 1, _, by omega, by go_num, HN2, HX2.out _ (bv_b8' _), HA2.out _, HO2.out _, HB2.out _⟩
          case measure => simp [intOf]; omega
        · have hj32 : 32 ≤ j := by omega
          have hA : Arr wr wp.heap.size 214 ((sha bs).map bv) := by
            obtain ⟨h1, h2⟩ := hD.out
            rw [List.take_of_length_le (by omega), List.take_of_length_le (by rw [digest_len]; omega), HDG.out] at h2
            rw [← h2]; exact hX.out
          have hsl : ((sha bs).map bv).length = 32 := by rw [List.length_map, sha_len]
          have HR := Lib.hid hA.range
          have HS : Hid ((Tryz.prog.info? 214).map (·.size) = some ((sha bs).map bv).length) := by show _ = _; rw [hsl]; kernel_rfl
          have HT : Hid (wr.there w.heap.size 0 ((sha bs).map bv).toArray.size) := hO.out.there (by simp [sha_len])
          have HO1 : Hid (((sha bs).map bv).toArray.all (·.oneCell') = true) := all_oneCell_toArray (by intro v hv; obtain ⟨x, -, rfl⟩ := List.mem_map.1 hv; rfl)
          have HI : Hid ((Tryz.prog.info? 214).map (·.size) = some ((sha bs).map bv).toArray.size) := by show _ = _; rw [List.size_toArray]; exact HS.out
          have HF := Lib.hid (hO.out.store (new := ((sha bs).map bv).toArray.toList) (by simp [sha_len]))
          have tok1 : True := trivial
          clear hA hsl hX hD hO HDG
          go_wp2_with (first | (have _t := tok1; refine wpList_load_mid rfl 214 _ rfl wp.heap.size 0 rfl ((sha bs).map bv) _ HR.out Tryz.underlying214 rfl HS.out ?_; clear tok1 _t; have tok2 : True := trivial) | (have _t := tok2; refine wpList_store_mid (by rfl) 214 _ _ (by rfl) w.heap.size 0 ((sha bs).map bv).toArray (by rfl) (by rfl) HT.out HI.out HO1.out ?_; clear tok2 _t))
          exact ret_arr Tryz.results169 rfl rfl HF.out Tryz.underlying214 rfl HS.out ⟨rfl, below_cells (Nat.le_refl _) _ _ hB.out⟩
end Go.Proofs.YtinijohmdljieaaGreatDoor
