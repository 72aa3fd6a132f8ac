/- hash.sum. -/
import Derived.Test.YtinijohmdljieaaGreatDoorH02
import Derived.Test.YtinijohmdljieaaGreatDoorMix
import Derived.Deep.DeepMust
namespace Go.Proofs.YtinijohmdljieaaGreatDoor
open Go.RowKit

/-- pieces of bytes -/
def PieceR (B : Nat) (w : World) (cs : Nat → Value) (b : List UInt8) : Prop := Bytes B w (cs 0) b
abbrev Pieces (B : Nat) (w : World) (v : Value) (ls : List (List UInt8)) : Prop := Row 1 (PieceR B) B w v ls
theorem Pieces.below {B : Nat} {w w' : World} {v : Value} {ls : List (List UInt8)} (h : Pieces B w v ls) (hb : Below B w w') : Pieces B w' v ls := Row.below h hb fun _ _ _ h => Bytes.below h hb
theorem Pieces.cells {B : Nat} {w : World} {v : Value} {ls : List (List UInt8)} (h : Pieces B w v ls) : ∃ (a : Option Addr) (c b off : Nat), v = .slice a ls.length c ∧ ls.length ≤ c ∧
    (0 < ls.length → a = some ⟨b, off, none⟩ ∧ b < B) ∧ ∀ j (hj : j < ls.length), ∃ pa pc, w.cell? ⟨b, off + j, none⟩ = some (.slice pa ls[j].length pc) ∧ Bytes B w (.slice pa ls[j].length pc) ls[j] := by
  obtain ⟨a, c, b, off, hv, hle, ha, hc⟩ := h.ex
  refine ⟨a, c, b, off, hv, hle, ha, fun j hj => ?_⟩
  obtain ⟨cs, h1, h2⟩ := hc j _ (List.getElem?_eq_getElem hj)
  have h3 := h1 0 (by omega)
  obtain ⟨pa, pc, _, _, h4, -⟩ := Bytes.cells h2
  refine ⟨pa, pc, ?_, h4 ▸ h2⟩
  rw [← h4]
  simpa using h3
def lenV : Value → Nat
  | .slice _ n _ => n
  | _ => 0

/-- the state ahead of the blocks: the bytes so far, the result's variable untouched -/
def Mid (w wr : World) (va : Option Addr) (vc n : Nat) (xs : List UInt8) : Prop := n = xs.length ∧ OwnB wr (w.heap.size + 1) va vc xs ∧ Arr wr w.heap.size 214 (List.replicate 32 (bv 0)) ∧ Below w.heap.size w wr
theorem Own.blockNe {w : World} {base vc n k : Nat} {E : TypeId} {va : Option Addr} {cells : List Value} (h : Own w base E k va vc n cells) {g : Nat} (hg : g < base) : some g ≠ blockOf va := by
  intro e
  rcases h.block with ⟨h1, -⟩ | ⟨g', h1, h2, -⟩
  · rw [h1] at e; cases e
  · rw [h1] at e; injection e with e; simp at e; omega
theorem Mid.push {w wr : World} {va : Option Addr} {vc n : Nat} {xs : List UInt8} (h : Mid w wr va vc n xs) (hs : w.heap.size + 1 ≤ wr.heap.size) (b : UInt8) (u : Value) (hu : u = bv b) (hn : n + 1 ≤ 100000000) :
    ∃ va' vc' w', (Builtin.append_ #[152, 152] 152 #[.slice va n vc, .slice (some ⟨wr.heap.size, 0, none⟩) 1 1]).run Tryz.prog (wr.alloc (.cells #[u] 5)) = .ok (.slice va' (n + 1) vc') w' ∧ Mid w w' va' vc' (n + 1) (xs ++ [b]) ∧ w.heap.size + 1 ≤ w'.heap.size := by
  obtain ⟨rfl, hO, hX, hB⟩ := h
  obtain ⟨va', vc', w', h1, h2, h3⟩ := hO.push (by omega) b u hu hn
  have hsz := h3.size
  simp at hsz
  exact ⟨va', vc', w', h1, ⟨by simp, h2, ⟨(h3.block _ (by simp; omega) (hO.blockNe (by omega))).trans (hX.alloc _).heap⟩, (hO.alloc (.cells #[u] 5)).belowG (hB.alloc (by omega) _) (by omega) (by simp; omega) h3⟩, by omega⟩

/-- the two variables of the words, made and filled -/
theorem two_vars (w8 : World) : ((w8.alloc (.cells (List.replicate 8 (vw 0)).toArray 275)).alloc (.cells (List.replicate 64 (vw 0)).toArray 277)).there w8.heap.size 0 hArr.size ∧ (((w8.alloc (.cells (List.replicate 8 (vw 0)).toArray 275)).alloc (.cells (List.replicate 64 (vw 0)).toArray 277)).setCells w8.heap.size 0 hArr.toList).there (w8.heap.size + 1) 0 kArr.size ∧
    Arr ((((w8.alloc (.cells (List.replicate 8 (vw 0)).toArray 275)).alloc (.cells (List.replicate 64 (vw 0)).toArray 277)).setCells w8.heap.size 0 hArr.toList).setCells (w8.heap.size + 1) 0 kArr.toList) w8.heap.size 275 (H0.map vw) ∧
    Arr ((((w8.alloc (.cells (List.replicate 8 (vw 0)).toArray 275)).alloc (.cells (List.replicate 64 (vw 0)).toArray 277)).setCells w8.heap.size 0 hArr.toList).setCells (w8.heap.size + 1) 0 kArr.toList) (w8.heap.size + 1) 277 (K64.map vw) ∧
    Below w8.heap.size w8 ((((w8.alloc (.cells (List.replicate 8 (vw 0)).toArray 275)).alloc (.cells (List.replicate 64 (vw 0)).toArray 277)).setCells w8.heap.size 0 hArr.toList).setCells (w8.heap.size + 1) 0 kArr.toList) := by
  have hN8 : Arr (w8.alloc (.cells (List.replicate 8 (vw 0)).toArray 275)) w8.heap.size 275 (List.replicate 8 (vw 0)) := Arr.new w8 _ _
  have hN9 : Arr ((w8.alloc (.cells (List.replicate 8 (vw 0)).toArray 275)).alloc (.cells (List.replicate 64 (vw 0)).toArray 277)) (w8.heap.size + 1) 277 (List.replicate 64 (vw 0)) := by
    have := Arr.new (w8.alloc (.cells (List.replicate 8 (vw 0)).toArray 275)) (List.replicate 64 (vw 0)) 277
    rwa [show (w8.alloc (.cells (List.replicate 8 (vw 0)).toArray 275)).heap.size = w8.heap.size + 1 by simp] at this
  have hN8' := hN8.alloc (.cells (List.replicate 64 (vw 0)).toArray 277)
  have hS8 := hN8'.store (new := hArr.toList) (by simp [hArr, H0])
  have hS9 := hN9.farCells (new := hArr.toList) (o := 0) (b := w8.heap.size) (by omega)
  refine ⟨hN8'.there (by simp [hArr, H0]), hS9.there (by simp [kArr, K64]), hS8.farCells (by omega), hS9.store (by simp [kArr, K64]), below_cells (by omega) _ _ (below_cells (Nat.le_refl _) _ _ (((Below.refl _ _).alloc (Nat.le_refl _) _).alloc ?_ _))⟩
  simp
theorem hArr_info : (Tryz.prog.info? 275).map (·.size) = some hArr.size := by kernel_rfl
theorem kArr_info : (Tryz.prog.info? 277).map (·.size) = some kArr.size := by kernel_rfl
theorem hArr_one : hArr.all (·.oneCell') = true := all_oneCell_toArray (by intro v hv; obtain ⟨x, -, rfl⟩ := List.mem_map.1 hv; rfl)
theorem kArr_one : kArr.all (·.oneCell') = true := all_oneCell_toArray (by intro v hv; obtain ⟨x, -, rfl⟩ := List.mem_map.1 hv; rfl)

/-- the state at the blocks: the words so far, what is left of the bytes -/
def Blk4 (w wr : World) (g : Nat) (P : List UInt8) (a : Option Addr) (n c : Nat) (hs : List Int) (rest : List UInt8) : Prop :=
  n = rest.length ∧ n % 64 = 0 ∧ Bytes g wr (.slice a n c) rest ∧ hs.length = 8 ∧ mixN (n / 64) hs rest = mixN (P.length / 64) H0 P ∧ Arr wr g 275 (hs.map vw) ∧ Arr wr (g + 1) 277 (K64.map vw) ∧ Arr wr w.heap.size 214 (List.replicate 32 (bv 0)) ∧ Below w.heap.size w wr
theorem k64_len : K64.length = 64 := rfl
theorem Blk4.next {w wr w6 : World} {g b off n c c' : Nat} {a' : Option Addr} {P : List UInt8} {hs : List Int} {rest : List UInt8} (h : Blk4 w wr g P (some ⟨b, off, none⟩) n c hs rest) (hg0 : w.heap.size < g) (hn : 0 < n) (hb : b < g)
    (hc : ∀ j (hj : j < rest.length), wr.cell? ⟨b, off + j, none⟩ = some (bv rest[j])) (hc' : n - 64 ≤ c')
    (ha : 0 < n - 64 → a' = some ⟨b, off + 64, none⟩) (hA6 : Arr w6 g 275 ((mixed8 hs K64 ((rest.take 64).map iv)).map vw)) (hg6 : wr.grownBy w6 (some g)) :
    Blk4 w w6 g P a' (n - 64) c' (mixed8 hs K64 ((rest.take 64).map iv)) (rest.drop 64) := by
  obtain ⟨h1, h2, h3, h4, h5, h6, h7, h8, h9⟩ := h
  have hz := h6.lt
  have hlt : ∀ x, x < wr.heap.size → x ≠ g → w6.heap[x]? = wr.heap[x]? := fun x hx hne => hg6.block x hx (fun e => hne (Option.some.inj e))
  refine ⟨by rw [List.length_drop, h1], by omega, ?_, mixed8_len h4, ?_, hA6, ⟨(hlt _ h7.lt (by omega)).trans h7.heap⟩, ⟨(hlt _ h8.lt (by omega)).trans h8.heap⟩, ?_⟩
  · refine Bytes.mk' (b := b) (off := off + 64) (by rw [List.length_drop, h1]) hc' (fun hp => ⟨ha hp, hb⟩) fun j hj => ?_
    rw [List.length_drop] at hj
    rw [World.cell?_of_block (w := wr) (hlt b (by omega) (by omega)), Nat.add_assoc, hc (64 + j) (by omega)]
    simp
  · rw [← h5, h1]
    have := mixN_step (hs := hs) (bs := rest) (n := rest.length / 64) (by omega) (by omega)
    rw [this, List.length_drop]
  · exact h9.grown hg6 h9.size (fun k hk => by cases hk; omega)

/-- the state at the end: the digest's first bytes stand -/
def Out5 (w wr : World) (D : List UInt8) (j : Nat) (os : List UInt8) : Prop := os.length = 32 ∧ os.take j = D.take j ∧ Arr wr w.heap.size 214 (os.map bv) ∧ Below w.heap.size w wr
theorem Out5.next {w wr : World} {hs : List Int} {j : Nat} {os : List UInt8} (h : Out5 w wr (digest hs) j os) (hj : j < 32) (u : Value) (hu : u = bv (b8 (hs.getD (j / 4) 0 / 2 ^ (24 - 8 * (j % 4))))) :
    Out5 w (wr.setCell ⟨w.heap.size, j, none⟩ u) (digest hs) (j + 1) (os.set j (b8 (hs.getD (j / 4) 0 / 2 ^ (24 - 8 * (j % 4))))) := by
  obtain ⟨h1, h2, h3, h4⟩ := h
  subst hu
  refine ⟨by simp [h1], ?_, ?_, h4.setCell (p := ⟨w.heap.size, j, none⟩) (Nat.le_refl _) _⟩
  · rw [digest_snoc _ _ hj, List.take_succ_eq_append_getElem (by simp; omega), List.take_set_of_le (Nat.le_refl j), h2]
    simp
  · rw [List.map_set]
    exact h3.set j _

set_option maxHeartbeats 4000000 in
set_option maxRecDepth 100000 in
theorem sum_walk (v : Value) (ls : List (List UInt8)) (bs : List UInt8) (w : World) (hbs : ls.flatten = bs) (h : Pieces w.heap.size w v ls) (hl : bs.length ≤ 1000000) (hll : ls.length ≤ 1000) :
    Calls Tryz.prog 167 #[v] w fun e w' => e = .returned (.agg ((sha bs).map bv).toArray) ∧ Below w.heap.size w w' := by
  obtain ⟨a, c, b, o, rfl, hle, ha, hc⟩ := h.cells
  have HP := Lib.hid h; have HA := Lib.hid ha; have HC := Lib.hid hc; have HBS := Lib.hid hbs
  clear h ha hc hbs
  have hx0 : Arr (w.alloc (.cells (List.replicate 32 (bv 0)).toArray 214)) w.heap.size 214 (List.replicate 32 (bv 0)) := Arr.new w _ _
  have hb0 : Below w.heap.size w (w.alloc (.cells (List.replicate 32 (bv 0)).toArray 214)) := (Below.refl _ _).alloc (Nat.le_refl _) _
  have HX0 := Lib.hid hx0; have HB0 := Lib.hid hb0
  clear hx0 hb0
  go_enter Tryz.func167, Tryz.ntmps167
  go_wp2
  go_loopw [3, 15] (fun t i wr => ∃ (k : Nat) (va : Option Addr) (vc n : Nat), k ≤ ls.length ∧ t = .slice va n vc ∧ i = .int .i64 k ∧ Hid (n = ((ls.take k).flatten).length ∧ OwnB wr (w.heap.size + 1) va vc (ls.take k).flatten) ∧ Hid (Arr wr w.heap.size 214 (List.replicate 32 (bv 0))) ∧ Hid (Below w.heap.size w wr) ∧ w.heap.size + 1 ≤ wr.heap.size) (fun _ i _ => ls.length - (intOf i).toNat)
  case atStart => exact ⟨0, none, 0, 0, by omega, rfl, rfl, ⟨rfl, OwnB.nil _ _⟩, HX0, HB0, by simp⟩
  case round =>
    obtain ⟨k, va, vc, n, hk, rfl, rfl, hO, hX, hB, hs⟩ := hrel
    clear HX0 HB0
    by_cases hlt : k < ls.length
    · obtain ⟨rfl, hbl⟩ := HA.out (by omega)
      obtain ⟨pa, pc, x0, hP⟩ := HC.out k hlt
      have x1 := (hB.out.cell (p := ⟨b, o + k, none⟩) hbl).trans x0
      have hfl := flat_le hlt
      rw [HBS.out] at hfl
      obtain ⟨va', vc', w6, hap6, hO6, hg6⟩ := hO.out.2.app (by omega) (hP.below hB.out) (by omega)
      rw [← hO.out.1] at hap6 hfl
      have hX6 : Arr w6 w.heap.size 214 (List.replicate 32 (bv 0)) := ⟨(hg6.block _ (by omega) (by
        intro e
        rcases hO.out.2.block with ⟨h1, -⟩ | ⟨g, h1, h2, -⟩
        · rw [h1] at e; cases e
        · rw [h1] at e; injection e with e; simp at e; omega)).trans hX.out.heap⟩
      have hB6 : Below w.heap.size w w6 := hO.out.2.belowG hB.out (by omega) (by omega) hg6
      have hs6 := hg6.size
      obtain ⟨m, hm⟩ : ∃ m, ls[k].length = m := ⟨_, rfl⟩
      have hn6 : n + m = ((ls.take (k + 1)).flatten).length := by rw [flat_snoc hlt, List.length_append, hO.out.1, hm]
      rw [← flat_snoc hlt] at hO6
      rw [hm] at hap6 x1 hfl
      have HAP := Lib.hid hap6
      have HM6 := Lib.hid (And.intro hn6 (And.intro hO6 (And.intro hX6 hB6)))
      clear hap6 hn6 hO6 hX6 hB6 hg6 hO hX hB hP x0 hm
      go_wp2_with (at_builtin; refine wpList_append_run (by rfl) (.tmp 19) (.tmp 20) 152 (by rfl) (by rfl) (by rfl) HAP.out ?_)
      go_roundw
      case rel => exact ⟨k + 1, va', vc', n + m, by omega, rfl, by go_num, ⟨HM6.out.1, HM6.out.2.1⟩, HM6.out.2.2.1, HM6.out.2.2.2, by omega⟩
      case measure => simp [intOf]; omega
    · obtain rfl : k = ls.length := by omega
      have HM : Hid (Mid w wr va vc n bs) := by
        have h1 := hO.out
        rw [List.take_length, HBS.out] at h1
        exact ⟨h1.1, h1.2, hX.out, hB.out⟩
      obtain rfl : n = bs.length := HM.out.1
      clear hO hX hB HP HA HC hll
      obtain ⟨va1, vc1, w1, hap, hm1, hs1⟩ := HM.out.push hs 0x80 (.int .u8 128) rfl (by omega)
      have HAP := Lib.hid hap; have HM1 := Lib.hid hm1
      clear hap hm1 HM
      go_wp2_with (at_builtin; refine wpList_append_run (by rfl) (.tmp 27) (.tmp 28) 152 (by rfl) (by rfl) (by rfl) HAP.out ?_)
      clear HAP
      go_loopw [3] (fun t wr => ∃ (z : Nat) (va : Option Addr) (vc n : Nat), z ≤ zerosN bs.length ∧ t = .slice va n vc ∧ Hid (Mid w wr va vc n (bs ++ [0x80] ++ List.replicate z 0)) ∧ w.heap.size + 1 ≤ wr.heap.size) (fun t _ => zerosN bs.length + bs.length + 1 - lenV t)
      case atStart => exact ⟨0, va1, vc1, bs.length + 1, by omega, rfl, by rw [List.replicate_zero, List.append_nil]; exact HM1.out, hs1⟩
      case round =>
        obtain ⟨z, va, vc, n, hz, rfl, hM, hs⟩ := hrel
        have hnz : n = bs.length + 1 + z := by
          have := hM.out.1
          simp at this
          omega
        have hzs := zerosN_spec bs.length z hz
        rw [← hnz] at hzs
        have hn1 : bs.length + 1 + z ≤ n := by omega
        have hn2 : n ≤ bs.length + 1 + z := by omega
        have hzl : zerosN bs.length < 64 := by unfold zerosN; omega
        have HNZ := Lib.hid hnz
        clear hnz
        by_cases hlt : z < zerosN bs.length
        · have hT : ((n : Int) % 64 != 56) = true := by
            simp only [bne_iff_ne, ne_eq]
            omega
          obtain ⟨va', vc', w6, hap, hm6, hs6⟩ := hM.out.push hs 0 (.int .u8 0) rfl (by omega)
          rw [List.append_assoc, ← List.replicate_succ'] at hm6
          have HAP := Lib.hid hap; have HM6 := Lib.hid hm6
          clear hap hm6 hM hzs
          go_wp2_with (at_builtin; refine wpList_append_run (by rfl) (.tmp 34) (.tmp 35) 152 (by rfl) (by rfl) (by rfl) HAP.out ?_)
          go_roundw
          case rel => exact ⟨z + 1, va', vc', n + 1, by omega, rfl, HM6.out, hs6⟩
          case measure => simp [lenV]; omega
        · obtain rfl : z = zerosN bs.length := by omega
          have hT : ((n : Int) % 64 != 56) = false := by
            simp only [bne_eq_false_iff_eq]
            omega
          clear hzs
          go_wp2
          clear hT HM1
          go_loopw [3, 37] (fun t i wr => ∃ (k : Nat) (va : Option Addr) (vc n : Nat), k ≤ 8 ∧ t = .slice va n vc ∧ i = .int .i64 k ∧ Hid (Mid w wr va vc n (bs ++ [0x80] ++ List.replicate (zerosN bs.length) 0 ++ (lenBytes bs.length).take k)) ∧ w.heap.size + 1 ≤ wr.heap.size) (fun _ i _ => 8 - (intOf i).toNat)
          case atStart => exact ⟨0, va, vc, n, by omega, rfl, rfl, by rw [List.take_zero, List.append_nil]; exact hM.out, hs⟩
          case round =>
            clear hn1 hn2 HNZ hM
            obtain ⟨k, va, vc, n, hk, rfl, rfl, hM, hs⟩ := hrel
            have hnn := hM.out.1
            simp [lenBytes_len] at hnn
            have hn1 : n ≤ bs.length + 80 := by omega
            clear hnn
            by_cases hlt : k < 8
            · have hi : (0 : Int) ≤ 56 - 8 * (k : Int) := by omega
              have hi2 : (56 - 8 * (k : Int)) ≤ 64 := by omega
              obtain ⟨va', vc', w6, hap, hm6, hs6⟩ := hM.out.push hs (b8 ((bs.length : Int) * 8 / 2 ^ (56 - 8 * k))) (.int .u8 ((bs.length : Int) * 8 / 2 ^ (56 - 8 * k) % 256)) (bv_b8' _) (by omega)
              rw [List.append_assoc, ← lenBytes_snoc _ _ hlt] at hm6
              have HAP := Lib.hid hap; have HM6 := Lib.hid hm6
              clear hap hm6 hM
              go_wp2_with (at_builtin; refine wpList_append_run (by rfl) (.tmp 40) (.tmp 47) 152 (by rfl) (by rfl) (by rfl) HAP.out ?_)
              go_roundw
              case rel => exact ⟨k + 1, va', vc', n + 1, by omega, rfl, by go_num, HM6.out, hs6⟩
              case measure => simp [intOf]; omega
            · obtain rfl : k = 8 := by omega
              have HP : Hid (Mid w wr va vc n (padded bs)) := by
                have h1 := hM.out
                rw [List.take_of_length_le (by rw [lenBytes_len]; omega)] at h1
                exact h1
              clear hM
              go_wp2_with fail
              refine (first_walk _).mono ?_
              rintro e w7 ⟨rfl, hb7⟩
              go_wp2_with fail
              refine (steps_walk _).mono ?_
              rintro e w8 ⟨rfl, hb8⟩
              have hz8 := hb8.size
              have hz7 := hb7.size
              have HTV := Lib.hid (two_vars w8)
              have HB7 := Lib.hid hb7; have HB8 := Lib.hid hb8
              clear hb7 hb8
              have tok1 : True := trivial
              go_wp2_with (first | (have _t := tok1; refine wpList_store_mid (by rfl) 275 _ _ (by rfl) w8.heap.size 0 hArr (by rfl) (by rfl) HTV.out.1 hArr_info hArr_one ?_; clear tok1 _t; have tok2 : True := trivial) | (have _t := tok2; refine wpList_store_mid (by rfl) 277 _ _ (by rfl) (w8.heap.size + 1) 0 kArr (by rfl) (by rfl) HTV.out.2.1 kArr_info kArr_one ?_; clear tok2 _t))
              go_frame
              generalize hW : World.setCells _ (w8.heap.size + 1) 0 kArr.toList = wz
              have hbz : Below w8.heap.size w8 wz := by rw [← hW]; exact HTV.out.2.2.2.2
              have h8 : Arr wz w8.heap.size 275 (H0.map vw) := by rw [← hW]; exact HTV.out.2.2.1
              have h9 : Arr wz (w8.heap.size + 1) 277 (K64.map vw) := by rw [← hW]; exact HTV.out.2.2.2.1
              have HB4 : Hid (Blk4 w wz w8.heap.size (padded bs) va n vc H0 (padded bs)) := by
                obtain ⟨m1, m2, m3, m4⟩ := HP.out
                have hbw : Below wr.heap.size wr wz := (HB7.out.trans (HB8.out.mono hz7)).trans (hbz.mono (by omega))
                refine ⟨m1, by rw [m1]; exact padded_dvd bs, ?_, rfl, by rw [m1], h8, h9, ⟨(hbw.block _ (by omega)).trans m3.heap⟩, m4.trans (hbw.mono (by omega))⟩
                have := m2.bytes' m1.symm (Nat.le_refl _)
                exact Row.mono (this.below hbw) (by omega)
              have hg0 : w.heap.size < w8.heap.size := by omega
              clear HTV HB7 HB8 HP hbz h8 h9 hW hz7 hz8 hs hn1
              generalize w8.heap.size = g at *
              go_loopw [3] (fun t wr => ∃ (a : Option Addr) (n c : Nat) (hs : List Int) (rest : List UInt8), t = .slice a n c ∧ n ≤ 1048576 ∧ Hid (Blk4 w wr g (padded bs) a n c hs rest)) (fun t _ => lenV t)
              case atStart => exact ⟨va, n, vc, H0, padded bs, rfl, by have h := HB4.out.1; rw [padded_len] at h; have hz := hzl; omega, HB4⟩
              case round =>
                clear HB4
                obtain ⟨a, n, c, hs, rest, rfl, hn2, hB⟩ := hrel
                by_cases hlt : 0 < n
                · obtain ⟨h1, h2, h3, h4, h5, h6, h7, h8, h9⟩ := hB.out
                  obtain ⟨a', c', b, off, he, hle, ha, hc⟩ := h3.cells
                  injection he with e1 e2 e3
                  subst e1 e3
                  obtain ⟨rfl, hbg⟩ := ha (by omega)
                  have hM := mix_walk g (g + 1) b off c n hs K64 ((rest.take 64).map iv) wr h6 h7 h4 k64_len (by simp; omega) (by omega) (by omega) (by have := h6.lt; omega) (by
                    intro j hj
                    rw [hc j (by omega)]
                    simp [iv]) (by
                    intro x hx
                    obtain ⟨y, -, rfl⟩ := List.mem_map.1 hx
                    exact iv_lt y)
                  have HM := Lib.hid hM
                  have HC := Lib.hid hc
                  have hn64 : 64 ≤ n := by omega
                  have hcn : n ≤ c := by omega
                  clear hM hc h1 h2 h3 h4 h5 h6 h7 h8 h9 ha hle e2
                  by_cases hc64 : c = 64
                  · obtain rfl : c = 64 := hc64
                    obtain rfl : n = 64 := by omega
                    go_wp2_with (go_at_call 193; refine HM.out.mono ?_; rintro e w6 ⟨rfl, hA6, hg6⟩)
                    have HF := Lib.hid (hB.out.next (c' := 0) (a' := some ⟨b, off, none⟩) hg0 hlt hbg HC.out (by omega) (by omega) hA6 hg6)
                    clear hA6 hg6
                    go_roundw
                    case rel => exact ⟨_, 0, 0, _, _, rfl, by omega, HF⟩
                    case measure => simp [lenV]
                  · have hc2 : (c = 64) = False := by simpa using hc64
                    go_wp2_with (go_at_call 193; refine HM.out.mono ?_; rintro e w6 ⟨rfl, hA6, hg6⟩)
                    have HF := Lib.hid (hB.out.next (c' := c - 64) (a' := some ⟨b, off + 64, none⟩) hg0 hlt hbg HC.out (by omega) (fun _ => rfl) hA6 hg6)
                    clear hA6 hg6
                    go_roundw
                    case rel => exact ⟨_, _, _, _, _, rfl, by omega, HF⟩
                    case measure => simp [lenV]; omega
                · obtain rfl : n = 0 := by omega
                  obtain ⟨h1, h2, h3, h4, h5, h6, h7, h8, h9⟩ := hB.out
                  have hsf : hs = mixN ((padded bs).length / 64) H0 (padded bs) := h5
                  have HD : Hid (digest hs = sha bs) := by show _ = _; rw [sha, hsf]
                  have HR := Lib.hid (h6.range)
                  have HS : Hid ((Tryz.prog.info? 275).map (·.size) = some (hs.map vw).length) := by show _ = _; rw [List.length_map, h4]; kernel_rfl
                  have HO : Hid (Out5 w wr (digest hs) 0 (List.replicate 32 0)) := ⟨by simp, rfl, by simpa using h8, h9⟩
                  have H4 := Lib.hid h4
                  clear h1 h2 h3 h4 h5 h6 h7 h8 h9 hB hsf
                  go_wp2_with (refine wpList_load_mid rfl 275 _ rfl g 0 rfl (hs.map vw) _ HR.out Tryz.underlying275 rfl HS.out ?_)
                  clear HR HS
                  go_loopw [60] (fun i wr => ∃ (k : Nat) (os : List UInt8), k ≤ 8 ∧ i = .int .i64 k ∧ Hid (Out5 w wr (digest hs) (4 * k) os)) (fun i _ => 8 - (intOf i).toNat)
                  case atStart => exact ⟨0, _, by omega, rfl, HO⟩
                  case round =>
                    clear HO
                    obtain ⟨k, os, hk, rfl, hO⟩ := hrel
                    by_cases hlt : k < 8
                    · have hkl : k < hs.length := by rw [H4.out]; exact hlt
                      obtain ⟨x, hx⟩ : ∃ z, hs[k] = z := ⟨_, rfl⟩
                      have HX : Hid (hs.getD k 0 = x) := by show _ = _; rw [← getD_of hkl]; exact hx
                      have hidx : ∀ W, (Instr.index 275 (.agg (hs.map vw).toArray) (.int .i64 k)).run Tryz.prog W = .ok (vw x) W := fun W => run_index_row8 (by rw [List.getElem?_map, List.getElem?_eq_getElem hkl, hx]; rfl) (by rw [List.length_map, H4.out])
                      clear hx hkl
                      go_wp2
                      clear hidx
                      obtain ⟨wo, rfl⟩ : ∃ wo : World, wo = wr := ⟨_, rfl⟩
                      go_loopw [64] (fun i wr => ∃ (j : Nat) (os : List UInt8), j ≤ 4 ∧ i = .int .i64 j ∧ Hid (Out5 w wr (digest hs) (4 * k + j) os)) (fun i _ => 4 - (intOf i).toNat)
                      case atStart => exact ⟨0, os, by omega, rfl, hO⟩
                      case round =>
                        clear hO
                        obtain ⟨j, os, hj, rfl, hO⟩ := hrel
                        by_cases hlj : j < 4
                        · have c1 := hO.out.2.2.1.frozen (4 * k + j)
                          have hol := hO.out.1
                          have hjl : 4 * k + j < (os.map bv).length := by rw [List.length_map]; omega
                          have c0 := hO.out.2.2.1.cell hjl
                          obtain ⟨y, hy⟩ : ∃ z, (os.map bv)[4 * k + j] = z := ⟨_, rfl⟩
                          rw [hy] at c0
                          have i1 : (0 : Int) ≤ 4 * (k : Int) + (j : Int) := by omega
                          have i2 : 4 * (k : Int) + (j : Int) < 32 := by omega
                          have i3 : (4 * (k : Int) + (j : Int)).toNat = 4 * k + j := by omega
                          have i4 : (0 : Int) ≤ 24 - 8 * (j : Int) := by omega
                          have i5 : 24 - 8 * (j : Int) ≤ 32 := by omega
                          have HJ := Lib.hid hj
                          clear hy hol hjl
                          go_wp2
                          go_roundw
                          case rel => exact ⟨j + 1, _, by omega, by go_num, hO.out.next (by have := HJ.out; omega) _ (by rw [show (4 * k + j) / 4 = k by omega, show (4 * k + j) % 4 = j by omega, HX.out]; exact bv_b8' _)⟩
                          case measure => simp [intOf]; omega
                        · obtain rfl : j = 4 := by omega
                          go_wp2
                          go_roundw
                          case rel => exact ⟨k + 1, os, by omega, by go_num, hO⟩
                          case measure => simp [intOf]; omega
                    · obtain rfl : k = 8 := by omega
                      have hA : Arr wr w.heap.size 214 ((sha bs).map bv) := by
                        obtain ⟨h1, h2, h3, -⟩ := hO.out
                        rw [List.take_of_length_le (by omega), List.take_of_length_le (by rw [digest_len]; omega), HD.out] at h2
                        rw [← h2]; exact h3
                      have hsl : ((sha bs).map bv).length = 32 := by rw [List.length_map, sha_len]
                      have HA := Lib.hid hA
                      have HR := Lib.hid hA.range
                      have HS : Hid ((Tryz.prog.info? 214).map (·.size) = some ((sha bs).map bv).length) := by show _ = _; rw [hsl]; kernel_rfl
                      have HT : Hid (wr.there w.heap.size 0 ((sha bs).map bv).toArray.size) := hA.there (by simp)
                      have HO : Hid (((sha bs).map bv).toArray.all (·.oneCell') = true) := all_oneCell_toArray (by intro v hv; obtain ⟨x, -, rfl⟩ := List.mem_map.1 hv; rfl)
                      have HB := Lib.hid hO.out.2.2.2
                      have HI : Hid ((Tryz.prog.info? 214).map (·.size) = some ((sha bs).map bv).toArray.size) := by show _ = _; rw [List.size_toArray]; exact HS.out
                      have tok1 : True := trivial
                      clear hA hsl hO HD
                      go_wp2_with (first | (have _t := tok1; refine wpList_load_mid rfl 214 _ rfl w.heap.size 0 rfl ((sha bs).map bv) _ HR.out Tryz.underlying214 rfl HS.out ?_; clear tok1 _t; have tok2 : True := trivial) | (have _t := tok2; refine wpList_store_mid (by rfl) 214 _ _ (by rfl) w.heap.size 0 ((sha bs).map bv).toArray (by rfl) (by rfl) HT.out HI.out HO.out ?_; clear tok2 _t))
                      exact ret_arr Tryz.results167 rfl rfl (HA.out.store (new := ((sha bs).map bv).toArray.toList) (by simp)) Tryz.underlying214 rfl HS.out ⟨rfl, below_cells (Nat.le_refl _) _ _ HB.out⟩
end Go.Proofs.YtinijohmdljieaaGreatDoor
