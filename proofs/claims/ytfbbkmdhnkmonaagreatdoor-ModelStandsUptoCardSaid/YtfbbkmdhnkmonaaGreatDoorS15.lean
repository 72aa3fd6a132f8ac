/- package guard: Names: the closure, walked. Written by wip/monamesgen.py. slices.Sort, slices.Compact at texts that a call has made: the same members. -/
import Derived.Test.YtfbbkmdhnkmonaaGreatDoorS14
import Derived.Test.YtfbbkmdhnkmonaaGreatDoorSrt0
import Derived.Sort.OwnSorted
import Derived.Lib.SlicesCompact
namespace Go.Proofs.YtfbbkmdhnkmonaaGreatDoor
open Go.RowKit

/-- the closure, with what it holds -/
def nmFun (Q : Nat → Nat) (F : Nat) : Value := .func (.func 83) #[] #[.pointer (some ⟨Q 0, 0, none⟩), .pointer (some ⟨Q 1, 0, none⟩), .pointer (some ⟨Q 2, 0, none⟩), .pointer (some ⟨F, 0, none⟩)]
abbrev nmArgs (Q : Nat → Nat) (F : Nat) (u : Value) : Array Value := #[u, .pointer (some ⟨Q 0, 0, none⟩), .pointer (some ⟨Q 1, 0, none⟩), .pointer (some ⟨Q 2, 0, none⟩), .pointer (some ⟨F, 0, none⟩)]
def NmEnd (Q : Nat → Nat) (B : Nat) (va : Nat → Option Addr) (L' : Nat → List ByteArray) (w : World) (e : Ending) (w' : World) : Prop := e = .returned (.tuple #[]) ∧ ∃ va' vc', NmIs w' B Q va' vc' L' ∧ KeepN Q va va' w w'
theorem namesOf_len (k : Nat) : ∀ t : GT, (namesOf k t).length ≤ t.toGD.size
  | .leaf k' n s => by simp only [namesOf, GT.toGD, GD.size, GD.sizes]; split <;> simp
  | .one k' a => by have := namesOf_len k a; simp only [namesOf, GT.toGD, GD.size, GD.sizes]; omega
  | .two k' a b => by have := namesOf_len k a; have := namesOf_len k b; simp only [namesOf, GT.toGD, GD.size, GD.sizes, List.length_append]; omega
/-- a list grows by what the kids name -/
def kidsL (L : Nat → List ByteArray) (ts : List GT) (m : Nat) : Nat → List ByteArray := fun i => L i ++ (ts.take m).flatMap (namesOf (5 + i))
theorem kidsL_zero (L : Nat → List ByteArray) (ts : List GT) : kidsL L ts 0 = L := by funext i; simp [kidsL]
theorem kidsL_succ (L : Nat → List ByteArray) (ts : List GT) (m : Nat) (h : m < ts.length) : (fun i => kidsL L ts m i ++ namesOf (5 + i) ts[m]) = kidsL L ts (m + 1) := by
  funext i
  simp only [kidsL]
  rw [List.take_succ_eq_append_getElem h, List.flatMap_append, List.append_assoc]
  simp
theorem far_cell {Q : Nat → Nat} {va va' : Nat → Option Addr} {w w' : World} (h : KeepN Q va va' w w') {a : Addr} {v : Value} (hc : w.cell? a = some v) (hq : ∀ i, i < 3 → a.block ≠ Q i) (hv : ∀ i, i < 3 → va i ≠ some ⟨a.block, 0, none⟩) : w'.cell? a = some v := by
  rw [World.cell?_of_block (h.block a.block (World.block_lt_of_cell? w a hc) hq hv)]; exact hc
set_option maxHeartbeats 8000000 in
set_option maxRecDepth 100000 in
theorem names_gen (T : TypeId) (p : Value) (kF : FuncId) (ts : List GT) (vs : List Value) (Q : Nat → Nat) (F B : Nat) (va : Nat → Option Addr) (vc : Nat → Nat) (L : Nat → List ByteArray) (w : World)
    (hta : ∀ W, (Instr.typeAssert (.iface T p) 133 138 true).run Tryz.prog W = .ok (.tuple #[.agg #[.int .u8 0, .int .i64 0, .string ⟨#[]⟩, .slice none 0 0], .bool false]) W)
    (hmk : ∀ W, (method 395 T p "docket/guard.kids").run Tryz.prog W = .ok (kF, p) W) (hek : ∀ args W, (callFunc kF args).run Tryz.prog W = .ok (.enter kF args) W) (hlen : vs.length = ts.length) (hl : ts.length ≤ 2)
    (hk : ∀ W, Calls Tryz.prog kF #[p] W (KidsE vs W))
    (hj : ∀ j (h : j < ts.length) (h' : j < vs.length) W va vc L, W.cell? ⟨F, 0, none⟩ = some (nmFun Q F) → NmIs W B Q va vc L → (∀ i, i < 3 → (L i).length + ts[j].toGD.size ≤ 1000000) → Calls Tryz.prog 83 (nmArgs Q F vs[j]) W (NmEnd Q B va (fun i => L i ++ namesOf (5 + i) ts[j]) W))
    (hsz : ∀ i, i < 3 → (L i).length + (ts.map fun t => t.toGD.size).sum ≤ 1000000) (hF : F < B ∧ ∀ i, i < 3 → F ≠ Q i) (hFc : w.cell? ⟨F, 0, none⟩ = some (nmFun Q F)) (hN : NmIs w B Q va vc L) :
    Calls Tryz.prog 83 (nmArgs Q F (.iface T p)) w (NmEnd Q B va (kidsL L ts ts.length) w) := by
  obtain ⟨w1, hw1⟩ : ∃ w1, w.alloc (.cells #[.int .u8 0, .int .i64 0, .string ⟨#[]⟩, .slice none 0 0] 138) = w1 := ⟨_, rfl⟩
  have hb1 : Below w.heap.size w w1 := hw1 ▸ (Below.refl _ _).alloc (Nat.le_refl _) _
  have HK := Lib.hid (hk w1)
  have HJ := Lib.hid hj
  have HSZ := Lib.hid hsz
  have HF := Lib.hid hF
  have HFC := Lib.hid hFc
  have HN := Lib.hid hN
  have HB1 := Lib.hid hb1
  have HW1 := Lib.hid hw1
  obtain ⟨n, hn⟩ : ∃ n, ts.length = n := ⟨_, rfl⟩
  rw [hn] at hlen hl
  have HNT := Lib.hid hn
  have HVL := Lib.hid hlen
  have eg : ∀ args w, (callFunc 83 args).run Tryz.prog w = .ok (.enter 83 args) w := enters_of Tryz.func83 (by kernel_rfl) rfl
  generalize hQE : NmEnd Q B va (kidsL L ts ts.length) w = QE
  have HQE := Lib.hid hQE
  clear hk hj hsz hF hFc hN hb1 hw1 hn hQE
  go_enter Tryz.func83, Tryz.ntmps83
  go_upto_region 1 with fail
  rw [HW1.out]
  go_wp2_with fail
  refine HK.out.mono ?_
  rintro e w2 ⟨hb2, a, c, b, off, rfl, ha, hcell⟩
  rw [hlen] at ha ⊢
  have hb12 := HB1.out.trans (hb2.mono HB1.out.size)
  have HB2 := Lib.hid hb12
  have hb1s := HB1.out.size
  have HA : Hid (0 < n → a = some ⟨b, off, none⟩ ∧ b < w2.heap.size ∧ w.heap.size ≤ b) := fun h0 => ⟨(ha h0).1, (ha h0).2.1, Nat.le_trans hb1s (ha h0).2.2⟩
  have HC := Lib.hid hcell
  have HN2 := Lib.hid (HN.out.below hb12)
  clear hb2 hcell HK hb12 ha hb1s
  go_wp2_with fail
  go_loopw [46] (fun i wr => ∃ m : Nat, m ≤ n ∧ i = .int .i64 (m : Int) ∧ Hid (∃ va' vc', NmIs wr B Q va' vc' (kidsL L ts m) ∧ KeepN Q va va' w2 wr)) (fun i _ => n - (intOf i).toNat)
  case atStart => exact ⟨0, Nat.zero_le _, rfl, va, vc, by rw [kidsL_zero]; exact HN2.out, KeepN.refl _ _ _⟩
  case round =>
    obtain ⟨m, hmn, rfl, HS⟩ := hrel
    obtain ⟨va', vc', hN', hK'⟩ := HS.out
    have hrow : ∀ i, i < 3 → ∀ g, va i = some ⟨g, 0, none⟩ → B ≤ g ∧ g < w.heap.size := fun i hi g e => (HN.out.own i hi).lt e
    by_cases hml : m < n
    · have i1 : (m : Int) < (n : Int) := by omega
      have i2 : (0 : Int) ≤ (m : Int) := by omega
      obtain ⟨rfl, hbl, hbg⟩ := HA.out (by omega)
      have hmv : m < vs.length := by rw [HVL.out]; exact hml
      have hmt : m < ts.length := by rw [HNT.out]; exact hml
      have hwB := HN.out.base
      have c0 : wr.cell? ⟨b, off + m, none⟩ = some (vs[m]'hmv) := far_cell hK' (HC.out m _ (List.getElem?_eq_getElem hmv)) (fun i hi => by have := HN.out.low i hi; simp only; omega) (fun i hi e => by have := (hrow i hi _ e).2; simp only at this; omega)
      have cF : wr.cell? ⟨F, 0, none⟩ = some (nmFun Q F) := far_cell hK' (cellBelow2 HB2.out HFC.out) (fun i hi => HF.out.2 i hi) (fun i hi e => by have := (hrow i hi _ e).1; have := HF.out.1; dsimp only at *; omega)
      have hsum : ∀ i, i < 3 → (kidsL L ts m i).length + (ts[m]'hmt).toGD.size ≤ 1000000 := fun i hi => by
        have h1 := HSZ.out i hi
        have h2 : ∀ (l : List GT) (m : Nat) (h : m < l.length), ((l.take m).flatMap (namesOf (5 + i))).length + (l[m]'h).toGD.size ≤ (l.map fun t => t.toGD.size).sum := by
          intro l
          induction l with
          | nil => intro m h; simp at h
          | cons t l ih =>
            intro m h
            cases m with
            | zero => simp
            | succ m =>
              have h3 := ih m (by simpa using h)
              have h4 := namesOf_len (5 + i) t
              simp only [List.take_succ_cons, List.flatMap_cons, List.length_append, List.getElem_cons_succ, List.map_cons, List.sum_cons]
              omega
        have h3 := h2 ts m hmt
        simp only [kidsL, List.length_append]
        omega
      have hJ := HJ.out m hmt hmv wr va' vc' _ cF hN' hsum
      rw [kidsL_succ L ts m hmt] at hJ
      obtain ⟨u, hu⟩ : ∃ u, vs[m]'hmv = u := ⟨_, rfl⟩
      rw [hu] at c0 hJ
      have HJ2 := Lib.hid hJ
      have HK2 := Lib.hid hK'
      have HML := Lib.hid hml
      have wr1 : IntKind.i64.wrap ((m : Int) + 1) = (m : Int) + 1 := wrap_i64 (by omega) (by omega)
      simp only [nmFun] at cF
      clear hJ hu hml hN' hK' hsum hrow HS
      go_wp2_with fail
      refine HJ2.out.mono ?_
      rintro e w4 ⟨rfl, va4, vc4, hN4, hK4⟩
      have HS4 : Hid (∃ va' vc', NmIs w4 B Q va' vc' (kidsL L ts (m + 1)) ∧ KeepN Q va va' w2 w4) := ⟨va4, vc4, hN4, HK2.out.trans hK4⟩
      clear hN4 hK4 HJ2 c0 cF
      go_wp2_with fail
      refine ⟨⟨m + 1, by have := HML.out; omega, by go_num, HS4⟩, by simp only [intOf]; have := HML.out; omega⟩
    · obtain rfl : m = n := by omega
      have i1 : ¬ (m : Int) < (m : Int) := by omega
      have HE : Hid (QE (.returned (.tuple #[])) wr) := by
        show QE _ _
        rw [← HQE.out, HNT.out]
        exact ⟨rfl, va', vc', hN', (KeepN.of_below HB2.out).trans hK'⟩
      clear hN' hK' hrow HS
      go_wp2_with fail
      refine bodyPost_end (v := .tuple #[]) (by simp [results, Tryz.results83]) rfl ?_
      exact HE.out
theorem assert_leafN (W : World) (v : Value) : (Instr.typeAssert (.iface 138 v) 133 138 true).run Tryz.prog W = .ok (.tuple #[v, .bool true]) W := by kernel_rfl
set_option maxHeartbeats 16000000 in
set_option maxRecDepth 100000 in
theorem names_leaf (K : Int) (k : Nat) (hK : (k : Int) = K) (n : Int) (s : ByteArray) (a : Option Addr) (c : Nat) (Q : Nat → Nat) (F B : Nat) (va : Nat → Option Addr) (vc : Nat → Nat) (L : Nat → List ByteArray) (w : World) (hk : 1 ≤ k ∧ k ≤ 7)
    (hsz : ∀ i, i < 3 → (L i).length ≤ 1000000) (hN : NmIs w B Q va vc L) :
    Calls Tryz.prog 83 (nmArgs Q F (.iface 138 (.agg #[.int .u8 K, .int .i64 n, .string s, .slice a 0 c]))) w (NmEnd Q B va (fun i => L i ++ namesOf (5 + i) (.leaf k n s)) w) := by
  obtain ⟨w1, hw1⟩ : ∃ w1, w.alloc (.cells #[.int .u8 K, .int .i64 n, .string s, .slice a 0 c] 138) = w1 := ⟨_, rfl⟩
  have hb1 : Below w.heap.size w w1 := hw1 ▸ (Below.refl _ _).alloc (Nat.le_refl _) _
  have hL1 : Arr w1 w.heap.size 138 [.int .u8 K, .int .i64 n, .string s, .slice a 0 c] := hw1 ▸ Arr.new w _ _
  have HN1 := Lib.hid (hN.below hb1)
  have HB1 := Lib.hid hb1
  have HW1 := Lib.hid hw1
  have HSZ := Lib.hid hsz
  obtain ⟨z0, z1, z2, z3⟩ := box4 hL1 (Below.refl _ _)
  have hta := assert_leafN
  have hmk : ∀ W, (method 395 138 (.agg #[.int .u8 K, .int .i64 n, .string s, .slice a 0 c]) "docket/guard.kids").run Tryz.prog W = .ok (230, (.agg #[.int .u8 K, .int .i64 n, .string s, .slice a 0 c])) W := fun W => by kernel_rfl
  have HLK : Hid (∀ W, Calls Tryz.prog 230 #[.agg #[.int .u8 K, .int .i64 n, .string s, .slice a 0 c]] W (KidsE [] W)) := fun W => by rw [← hK]; exact leafKids k n s a c W
  clear hsz hN hb1 hL1 hw1
  have : k = 1 ∨ k = 2 ∨ k = 3 ∨ k = 4 ∨ k = 5 ∨ k = 6 ∨ k = 7 := by omega
  clear hk
  rcases this with rfl | rfl | rfl | rfl | rfl | rfl | rfl
  · obtain rfl : K = 1 := by omega
    have hL : Hid (L = fun i => L i ++ namesOf (5 + i) (.leaf 1 n s)) := by
      show _ = _
      funext j
      have : ¬ 1 = 5 + j := by omega
      rw [show namesOf (5 + j) (.leaf 1 n s) = [] from if_neg this]; simp
    clear HSZ
    go_enter Tryz.func83, Tryz.ntmps83
    go_upto_region 1 with fail
    rw [HW1.out]
    go_wp2_with fail
    refine (HLK.out _).mono ?_
    rintro e w4 ⟨hb4, a4, c4, b4, o4, rfl, -, -⟩
    have HF4 : Hid (NmEnd Q B va (fun i => L i ++ namesOf (5 + i) (.leaf 1 n s)) w (.returned (.tuple #[])) w4) := ⟨rfl, va, vc, hL.out ▸ HN1.out.below hb4, (KeepN.of_below HB1.out).trans (KeepN.of_below hb4)⟩
    clear hb4
    go_wp2_with fail
    go_loopw [46] (fun i wr => i = .int .i64 0 ∧ wr = w4) (fun _ _ => 0)
    case atStart => exact ⟨rfl, rfl⟩
    case round =>
      obtain ⟨rfl, rfl⟩ := hrel
      go_wp2_with fail
      refine bodyPost_end (v := .tuple #[]) (by simp [results, Tryz.results83]) rfl ?_
      exact HF4.out
  · obtain rfl : K = 2 := by omega
    have hL : Hid (L = fun i => L i ++ namesOf (5 + i) (.leaf 2 n s)) := by
      show _ = _
      funext j
      have : ¬ 2 = 5 + j := by omega
      rw [show namesOf (5 + j) (.leaf 2 n s) = [] from if_neg this]; simp
    clear HSZ
    go_enter Tryz.func83, Tryz.ntmps83
    go_upto_region 1 with fail
    rw [HW1.out]
    go_wp2_with fail
    refine (HLK.out _).mono ?_
    rintro e w4 ⟨hb4, a4, c4, b4, o4, rfl, -, -⟩
    have HF4 : Hid (NmEnd Q B va (fun i => L i ++ namesOf (5 + i) (.leaf 2 n s)) w (.returned (.tuple #[])) w4) := ⟨rfl, va, vc, hL.out ▸ HN1.out.below hb4, (KeepN.of_below HB1.out).trans (KeepN.of_below hb4)⟩
    clear hb4
    go_wp2_with fail
    go_loopw [46] (fun i wr => i = .int .i64 0 ∧ wr = w4) (fun _ _ => 0)
    case atStart => exact ⟨rfl, rfl⟩
    case round =>
      obtain ⟨rfl, rfl⟩ := hrel
      go_wp2_with fail
      refine bodyPost_end (v := .tuple #[]) (by simp [results, Tryz.results83]) rfl ?_
      exact HF4.out
  · obtain rfl : K = 3 := by omega
    have hL : Hid (L = fun i => L i ++ namesOf (5 + i) (.leaf 3 n s)) := by
      show _ = _
      funext j
      have : ¬ 3 = 5 + j := by omega
      rw [show namesOf (5 + j) (.leaf 3 n s) = [] from if_neg this]; simp
    clear HSZ
    go_enter Tryz.func83, Tryz.ntmps83
    go_upto_region 1 with fail
    rw [HW1.out]
    go_wp2_with fail
    refine (HLK.out _).mono ?_
    rintro e w4 ⟨hb4, a4, c4, b4, o4, rfl, -, -⟩
    have HF4 : Hid (NmEnd Q B va (fun i => L i ++ namesOf (5 + i) (.leaf 3 n s)) w (.returned (.tuple #[])) w4) := ⟨rfl, va, vc, hL.out ▸ HN1.out.below hb4, (KeepN.of_below HB1.out).trans (KeepN.of_below hb4)⟩
    clear hb4
    go_wp2_with fail
    go_loopw [46] (fun i wr => i = .int .i64 0 ∧ wr = w4) (fun _ _ => 0)
    case atStart => exact ⟨rfl, rfl⟩
    case round =>
      obtain ⟨rfl, rfl⟩ := hrel
      go_wp2_with fail
      refine bodyPost_end (v := .tuple #[]) (by simp [results, Tryz.results83]) rfl ?_
      exact HF4.out
  · obtain rfl : K = 4 := by omega
    have hL : Hid (L = fun i => L i ++ namesOf (5 + i) (.leaf 4 n s)) := by
      show _ = _
      funext j
      have : ¬ 4 = 5 + j := by omega
      rw [show namesOf (5 + j) (.leaf 4 n s) = [] from if_neg this]; simp
    clear HSZ
    go_enter Tryz.func83, Tryz.ntmps83
    go_upto_region 1 with fail
    rw [HW1.out]
    go_wp2_with fail
    refine (HLK.out _).mono ?_
    rintro e w4 ⟨hb4, a4, c4, b4, o4, rfl, -, -⟩
    have HF4 : Hid (NmEnd Q B va (fun i => L i ++ namesOf (5 + i) (.leaf 4 n s)) w (.returned (.tuple #[])) w4) := ⟨rfl, va, vc, hL.out ▸ HN1.out.below hb4, (KeepN.of_below HB1.out).trans (KeepN.of_below hb4)⟩
    clear hb4
    go_wp2_with fail
    go_loopw [46] (fun i wr => i = .int .i64 0 ∧ wr = w4) (fun _ _ => 0)
    case atStart => exact ⟨rfl, rfl⟩
    case round =>
      obtain ⟨rfl, rfl⟩ := hrel
      go_wp2_with fail
      refine bodyPost_end (v := .tuple #[]) (by simp [results, Tryz.results83]) rfl ?_
      exact HF4.out
  · obtain rfl : K = 5 := by omega
    obtain ⟨g', c', W2, hap, hcq, hfq, hN2, hK2⟩ := HN1.out.app (i := 0) (by omega) s (by have := HSZ.out 0 (by omega); omega)
    have HAP := Lib.hid hap
    have hcQ := HN1.out.cell 0 (by omega)
    have hL : Hid (upd L 0 (L 0 ++ [s]) = fun i => L i ++ namesOf (5 + i) (.leaf 5 n s)) := by
      show _ = _
      funext j
      by_cases hji : j = 0
      · subst hji; rw [upd_at]; simp [namesOf]
      · rw [upd_ne _ _ hji]
        have : ¬ 5 = 5 + j := by omega
        rw [show namesOf (5 + j) (.leaf 5 n s) = [] from if_neg this]; simp
    have HE : Hid (NmEnd Q B va (fun i => L i ++ namesOf (5 + i) (.leaf 5 n s)) w1 (.returned (.tuple #[])) (W2.setCell ⟨Q 0, 0, none⟩ (.slice (some ⟨g', 0, none⟩) ((L 0).length + 1) c'))) := ⟨rfl, _, _, hL.out ▸ hN2, hK2⟩
    clear hap hN2 hK2 hL
    go_enter Tryz.func83, Tryz.ntmps83
    go_upto_region 1 with fail
    rw [HW1.out]
    go_wp2_with (at_builtin; refine wpList_append_run (by rfl) (.tmp 21) (.tmp 25) 26 (by rfl) (by rfl) (by rfl) HAP.out ?_)
    refine (HLK.out _).mono ?_
    rintro e w4 ⟨hb4, a4, c4, b4, o4, rfl, -, -⟩
    obtain ⟨-, va', vc', h1, h2⟩ := HE.out
    have HF4 : Hid (NmEnd Q B va (fun i => L i ++ namesOf (5 + i) (.leaf 5 n s)) w (.returned (.tuple #[])) w4) := ⟨rfl, va', vc', h1.below hb4, ((KeepN.of_below HB1.out).trans h2).trans (KeepN.of_below hb4)⟩
    clear h1 h2 hb4 HE
    go_wp2_with fail
    go_loopw [46] (fun i wr => i = .int .i64 0 ∧ wr = w4) (fun _ _ => 0)
    case atStart => exact ⟨rfl, rfl⟩
    case round =>
      obtain ⟨rfl, rfl⟩ := hrel
      go_wp2_with fail
      refine bodyPost_end (v := .tuple #[]) (by simp [results, Tryz.results83]) rfl ?_
      exact HF4.out
  · obtain rfl : K = 6 := by omega
    obtain ⟨g', c', W2, hap, hcq, hfq, hN2, hK2⟩ := HN1.out.app (i := 1) (by omega) s (by have := HSZ.out 1 (by omega); omega)
    have HAP := Lib.hid hap
    have hcQ := HN1.out.cell 1 (by omega)
    have hL : Hid (upd L 1 (L 1 ++ [s]) = fun i => L i ++ namesOf (5 + i) (.leaf 6 n s)) := by
      show _ = _
      funext j
      by_cases hji : j = 1
      · subst hji; rw [upd_at]; simp [namesOf]
      · rw [upd_ne _ _ hji]
        have : ¬ 6 = 5 + j := by omega
        rw [show namesOf (5 + j) (.leaf 6 n s) = [] from if_neg this]; simp
    have HE : Hid (NmEnd Q B va (fun i => L i ++ namesOf (5 + i) (.leaf 6 n s)) w1 (.returned (.tuple #[])) (W2.setCell ⟨Q 1, 0, none⟩ (.slice (some ⟨g', 0, none⟩) ((L 1).length + 1) c'))) := ⟨rfl, _, _, hL.out ▸ hN2, hK2⟩
    clear hap hN2 hK2 hL
    go_enter Tryz.func83, Tryz.ntmps83
    go_upto_region 1 with fail
    rw [HW1.out]
    go_wp2_with (at_builtin; refine wpList_append_run (by rfl) (.tmp 29) (.tmp 33) 26 (by rfl) (by rfl) (by rfl) HAP.out ?_)
    refine (HLK.out _).mono ?_
    rintro e w4 ⟨hb4, a4, c4, b4, o4, rfl, -, -⟩
    obtain ⟨-, va', vc', h1, h2⟩ := HE.out
    have HF4 : Hid (NmEnd Q B va (fun i => L i ++ namesOf (5 + i) (.leaf 6 n s)) w (.returned (.tuple #[])) w4) := ⟨rfl, va', vc', h1.below hb4, ((KeepN.of_below HB1.out).trans h2).trans (KeepN.of_below hb4)⟩
    clear h1 h2 hb4 HE
    go_wp2_with fail
    go_loopw [46] (fun i wr => i = .int .i64 0 ∧ wr = w4) (fun _ _ => 0)
    case atStart => exact ⟨rfl, rfl⟩
    case round =>
      obtain ⟨rfl, rfl⟩ := hrel
      go_wp2_with fail
      refine bodyPost_end (v := .tuple #[]) (by simp [results, Tryz.results83]) rfl ?_
      exact HF4.out
  · obtain rfl : K = 7 := by omega
    obtain ⟨g', c', W2, hap, hcq, hfq, hN2, hK2⟩ := HN1.out.app (i := 2) (by omega) s (by have := HSZ.out 2 (by omega); omega)
    have HAP := Lib.hid hap
    have hcQ := HN1.out.cell 2 (by omega)
    have hL : Hid (upd L 2 (L 2 ++ [s]) = fun i => L i ++ namesOf (5 + i) (.leaf 7 n s)) := by
      show _ = _
      funext j
      by_cases hji : j = 2
      · subst hji; rw [upd_at]; simp [namesOf]
      · rw [upd_ne _ _ hji]
        have : ¬ 7 = 5 + j := by omega
        rw [show namesOf (5 + j) (.leaf 7 n s) = [] from if_neg this]; simp
    have HE : Hid (NmEnd Q B va (fun i => L i ++ namesOf (5 + i) (.leaf 7 n s)) w1 (.returned (.tuple #[])) (W2.setCell ⟨Q 2, 0, none⟩ (.slice (some ⟨g', 0, none⟩) ((L 2).length + 1) c'))) := ⟨rfl, _, _, hL.out ▸ hN2, hK2⟩
    clear hap hN2 hK2 hL
    go_enter Tryz.func83, Tryz.ntmps83
    go_upto_region 1 with fail
    rw [HW1.out]
    go_wp2_with (at_builtin; refine wpList_append_run (by rfl) (.tmp 37) (.tmp 41) 26 (by rfl) (by rfl) (by rfl) HAP.out ?_)
    refine (HLK.out _).mono ?_
    rintro e w4 ⟨hb4, a4, c4, b4, o4, rfl, -, -⟩
    obtain ⟨-, va', vc', h1, h2⟩ := HE.out
    have HF4 : Hid (NmEnd Q B va (fun i => L i ++ namesOf (5 + i) (.leaf 7 n s)) w (.returned (.tuple #[])) w4) := ⟨rfl, va', vc', h1.below hb4, ((KeepN.of_below HB1.out).trans h2).trans (KeepN.of_below hb4)⟩
    clear h1 h2 hb4 HE
    go_wp2_with fail
    go_loopw [46] (fun i wr => i = .int .i64 0 ∧ wr = w4) (fun _ _ => 0)
    case atStart => exact ⟨rfl, rfl⟩
    case round =>
      obtain ⟨rfl, rfl⟩ := hrel
      go_wp2_with fail
      refine bodyPost_end (v := .tuple #[]) (by simp [results, Tryz.results83]) rfl ?_
      exact HF4.out
set_option maxHeartbeats 4000000 in
theorem names_walk (Q : Nat → Nat) (F B : Nat) (hF : F < B ∧ ∀ i, i < 3 → F ≠ Q i) : ∀ (t : GT) (u : Value) (w : World) (va : Nat → Option Addr) (vc : Nat → Nat) (L : Nat → List ByteArray), t.may → NodeV t u → (∀ i, i < 3 → (L i).length + t.toGD.size ≤ 1000000) → w.cell? ⟨F, 0, none⟩ = some (nmFun Q F) → NmIs w B Q va vc L →
    Calls Tryz.prog 83 (nmArgs Q F u) w (NmEnd Q B va (fun i => L i ++ namesOf (5 + i) t) w)
  | .leaf k n s, u, w, va, vc, L, hm, hv, hs, hc, hN => by
    obtain ⟨a, c, rfl⟩ := hv
    have hk : 1 ≤ k ∧ k ≤ 7 := by rcases hm with ⟨h, _⟩ | ⟨h, _⟩ | ⟨h, _⟩ | ⟨h, _⟩ <;> omega
    exact names_leaf _ k rfl n s a c Q F B va vc L w hk (fun i hi => by have := hs i hi; omega) hN
  | .one k a, u, w, va, vc, L, hm, hv, hs, hc, hN => by
    obtain ⟨u1, rfl, hu⟩ := hv
    obtain ⟨T, p, rfl⟩ := hu.iface
    have h := names_gen 209 (.agg #[.iface T p]) 239 [a] [.iface T p] Q F B va vc L w (fun W => by kernel_rfl) (fun W => by kernel_rfl) (enters_of Tryz.func239 (by kernel_rfl) rfl) rfl (by simp) (fun W => oneKids T p W)
      (fun j hj hj' W va vc L hc hN hs => by
        obtain rfl : j = 0 := by simpa using hj
        exact names_walk Q F B hF a _ W va vc L hm.2 hu hs hc hN) (fun i hi => by
        have := hs i hi
        simp only [GT.toGD, GD.size, GD.sizes] at this
        simp
        omega) hF hc hN
    have e : kidsL L [a] [a].length = fun i => L i ++ namesOf (5 + i) (.one k a) := by funext i; simp [kidsL, namesOf]
    rw [e] at h
    exact h
  | .two k a b, u, w, va, vc, L, hm, hv, hs, hc, hN => by
    obtain ⟨n0, s0, p0, l0, c0, u1, u2, rfl, hu1, hu2⟩ := hv
    obtain ⟨T, p, rfl⟩ := hu1.iface
    obtain ⟨T2, p2, rfl⟩ := hu2.iface
    have h := names_gen 211 (.agg #[.int .u8 k, .int .i64 n0, .string s0, .slice p0 l0 c0, .iface T p, .iface T2 p2]) 243 [a, b] [.iface T p, .iface T2 p2] Q F B va vc L w (fun W => by kernel_rfl) (fun W => by kernel_rfl) (enters_of Tryz.func243 (by kernel_rfl) rfl) rfl (by simp) (fun W => pairKids k n0 s0 p0 l0 c0 T T2 p p2 W)
      (fun j hj hj' W va vc L hc hN hs => by
        match j, hj with
        | 0, _ => exact names_walk Q F B hF a _ W va vc L hm.2.1 hu1 hs hc hN
        | 1, _ => exact names_walk Q F B hF b _ W va vc L hm.2.2 hu2 hs hc hN) (fun i hi => by
        have := hs i hi
        simp only [GT.toGD, GD.size, GD.sizes] at this
        simp
        omega) hF hc hN
    have e : kidsL L [a, b] [a, b].length = fun i => L i ++ namesOf (5 + i) (.two k a b) := by funext i; simp [kidsL, namesOf]
    rw [e] at h
    exact h
end Go.Proofs.YtfbbkmdhnkmonaaGreatDoor

namespace Go.Proofs.YtfbbkmdhnkmonaaGreatDoor
open Go.RowKit Go.Sort

theorem compact_mem {α : Type} [Inhabited α] [DecidableEq α] {zs : List α} {x : α} : x ∈ Lib.compact zs ↔ x ∈ zs := by
  unfold Lib.compact Lib.compactUpTo
  rw [List.mem_map]
  constructor
  · rintro ⟨i, hi, rfl⟩
    have hi' : i < zs.length := List.mem_range.1 (List.mem_filter.1 hi).1
    simp [getElem!_pos, hi']
  · intro hx
    obtain ⟨j, hj, hjx⟩ := List.mem_iff_getElem.1 hx
    have key : ∀ n (h : n < zs.length), zs[n] = x → ∃ a, a ∈ List.filter (Lib.keeps zs.toArray) (List.range zs.length) ∧ zs.toArray[a]! = x := by
      intro n
      induction n with
      | zero =>
        intro h he
        exact ⟨0, List.mem_filter.2 ⟨List.mem_range.2 h, by simp [Lib.keeps]⟩, by simpa [getElem!_pos, h] using he⟩
      | succ n ih =>
        intro h he
        have h1 : zs.toArray[n + 1]! = x := by simpa [getElem!_pos, h] using he
        have h2 : zs.toArray[n]! = zs[n] := by simp [getElem!_pos, show n < zs.length by omega]
        by_cases hk : zs[n] = x
        · exact ih (by omega) hk
        · refine ⟨n + 1, List.mem_filter.2 ⟨List.mem_range.2 h, ?_⟩, h1⟩
          have : zs.toArray[n + 1]! ≠ zs.toArray[n]! := by rw [h1, h2]; exact fun e => hk e.symm
          simp only [Lib.keeps, Nat.add_sub_cancel, decide_eq_true_eq]
          exact .inr this
    obtain ⟨a, h1, h2⟩ := key j hj hjx
    exact ⟨a, h1, h2⟩
theorem grow_nil (w : World) : grow w #[] = w := by cases w; simp [grow]
abbrev ba (l : List UInt8) : ByteArray := ⟨l.toArray⟩
theorem ba_list (s : ByteArray) : ba s.data.toList = s := by cases s; simp
theorem enc_list (rs : List ByteArray) : (rs.map fun s => s.data.toList).map encStr = rs.map Value.string := by
  rw [List.map_map]
  refine List.map_congr_left fun s _ => ?_
  show Value.string (ba s.data.toList) = _
  rw [ba_list]
theorem ba_maps (ls : List (List UInt8)) : ls.map encStr = (ls.map ba).map Value.string := by rw [List.map_map]; rfl
theorem mem_ba {rs : List ByteArray} {ls : List (List UInt8)} (h : ∀ l, l ∈ ls ↔ l ∈ rs.map fun s => s.data.toList) (s : ByteArray) : s ∈ ls.map ba ↔ s ∈ rs := by
  rw [List.mem_map]
  constructor
  · rintro ⟨l, hl, rfl⟩
    obtain ⟨t, ht, rfl⟩ := List.mem_map.1 ((h l).1 hl)
    rw [ba_list]; exact ht
  · intro hs
    exact ⟨s.data.toList, (h _).2 (List.mem_map.2 ⟨s, hs, rfl⟩), ba_list s⟩
theorem own_holds {w : World} {base g vc : Nat} {rs : List ByteArray} (h : Own w base 9 1 (some ⟨g, 0, none⟩) vc rs.length (rs.map Value.string)) : Holds encStr w g 0 (rs.map fun s => s.data.toList).toArray ∧ ∃ cur, w.heap[g]? = some (.cells cur 9 (0, 0)) ∧ cur.size = vc * 1 ∧ base ≤ g ∧ rs.length ≤ vc ∧ vc ≤ maxLen := by
  rcases h.block with ⟨h1, _⟩ | ⟨g', he, hb, hlt, cur, hcur, h1, h2, h3⟩
  · cases h1
  · cases he
    refine ⟨holds_of_block hcur ?_, cur, hcur, h2, hb, h.cap.1, h.cap.2⟩
    rw [List.length_map, enc_list]
    rw [Nat.mul_one] at h3
    exact h3
/-- slices.Sort -/
theorem sort_strs {w : World} {base vc : Nat} {va : Option Addr} {rs : List ByteArray} (h : Own w base 9 1 va vc rs.length (rs.map Value.string)) (hl : rs.length ≤ 4000000) :
    Calls Tryz.prog 84 #[.slice va rs.length vc] w fun e w' => e = .returned (.tuple #[]) ∧ ∃ rs' : List ByteArray, rs'.length = rs.length ∧ (∀ s, s ∈ rs' ↔ s ∈ rs) ∧ Own w' base 9 1 va vc rs'.length (rs'.map Value.string) ∧ w.grownBy w' (blockOf va) := by
  rcases h.block with ⟨rfl, h0, rfl⟩ | ⟨g, rfl, hb, hlt, -⟩
  · rw [h0]
    refine (Any.slices_Sort_string_none Tryz.laysSort none 0 w).mono ?_
    rintro e w' ⟨rfl, rfl⟩
    exact ⟨rfl, rs, h0, fun s => Iff.rfl, h, World.grownBy.refl _ _⟩
  · obtain ⟨hH, cur, hcur, h2, hb, h3, h4⟩ := own_holds h
    have hc := Any.slices_Sort_string Tryz.laysSort g 0 vc (rs.map fun s => s.data.toList) w hH hlt (by rw [List.length_map]; omega)
    rw [List.length_map] at hc
    refine hc.mono ?_
    rintro e w' ⟨rfl, n, os, rfl⟩
    have hml : ((rs.map fun s => s.data.toList).mergeSort fun x y => decide (x ≤ y)).length = rs.length := by rw [List.length_mergeSort, List.length_map]
    generalize hms : (rs.map fun s => s.data.toList).mergeSort (fun x y => decide (x ≤ y)) = ts at *
    have hmem : ∀ l, l ∈ ts ↔ l ∈ rs.map fun s => s.data.toList := fun l => by rw [← hms]; exact (List.mergeSort_perm _ _).mem_iff
    refine ⟨rfl, ts.map ba, by rw [List.length_map]; exact hml, mem_ba hmem, ?_, grownBy_sorted _⟩
    have ho := ownsRow_sorted (n := n) (os := os) (ss := rs.map fun s => s.data.toList) (ts := ts) (by rw [hml, List.length_map]) hb hcur (by rw [List.length_map]; exact h3) h4 h2
    rw [List.length_map, ba_maps, ← hml] at ho
    rw [List.length_map]
    exact ⟨ho⟩
/-- slices.Compact -/
theorem compact_strs {w : World} {base vc : Nat} {va : Option Addr} {rs : List ByteArray} (h : Own w base 9 1 va vc rs.length (rs.map Value.string)) (hl : rs.length ≤ 4000000) :
    Calls Tryz.prog 85 #[.slice va rs.length vc] w fun e w' => ∃ rs' : List ByteArray, e = .returned (.slice va rs'.length vc) ∧ rs'.length ≤ rs.length ∧ (∀ s, s ∈ rs' ↔ s ∈ rs) ∧ Own w' base 9 1 va vc rs'.length (rs'.map Value.string) ∧ w.grownBy w' (blockOf va) := by
  rcases h.block with ⟨rfl, h0, rfl⟩ | ⟨g, rfl, hb, hlt, -⟩
  · rw [h0]
    refine (Any.slices_Compact_string_empty Tryz.laysCompact none 0 w).mono ?_
    rintro e w' ⟨rfl, rfl⟩
    exact ⟨rs, by rw [h0], Nat.le_of_eq h0, fun s => Iff.rfl, h, World.grownBy.refl _ _⟩
  · obtain ⟨hH, cur, hcur, h2, hb, h3, h4⟩ := own_holds h
    have hc := Any.slices_Compact_string Tryz.laysCompact g 0 vc (rs.map fun s => s.data.toList) w hH (by rw [List.length_map]; omega) (by rw [List.length_map]; exact h3)
    rw [List.length_map] at hc
    refine hc.mono ?_
    have hcl : (Lib.compact (rs.map fun s => s.data.toList)).length ≤ (rs.map fun s => s.data.toList).length := by
      unfold Lib.compact Lib.compactUpTo
      rw [List.length_map]
      exact Nat.le_trans (List.length_filter_le _ _) (by simp)
    rw [List.length_map] at hcl
    generalize hcm : Lib.compact (rs.map fun s => s.data.toList) = ts at *
    rintro e w' ⟨rfl, q, rfl⟩
    have hmem : ∀ l, l ∈ ts ↔ l ∈ rs.map fun s => s.data.toList := fun l => by rw [← hcm]; exact compact_mem
    refine ⟨ts.map ba, by rw [List.length_map], by rw [List.length_map]; exact hcl, mem_ba hmem, ?_, ?_⟩
    · have hN : (ts ++ List.replicate (rs.length - ts.length) ([] : List UInt8)).length = rs.length := by simp; omega
      have hw : putRow encStr (Sort.ahead w q) g 0 (ts ++ List.replicate (rs.length - ts.length) []).toArray = grow (putRow encStr (Sort.ahead w q) g 0 (ts ++ List.replicate (rs.length - ts.length) []).toArray) #[] := (grow_nil _).symm
      rw [hw, List.length_map, ← ba_maps]
      have hp := heap_sorted (n := q) (os := #[]) (ts ++ List.replicate (rs.length - ts.length) ([] : List UInt8)).toArray hcur
      refine ⟨⟨by simp, .inr ⟨g, vc, _, rfl, hb, hp, by omega, h4, by simp [putCells, h2], ?_⟩⟩⟩
      rw [Nat.mul_one]
      have ht := take_putCells cur (ts ++ List.replicate (rs.length - ts.length) ([] : List UInt8)) (by rw [hN]; omega)
      have := congrArg (List.take ts.length) ht
      rw [List.take_take, List.map_append, List.take_left' (by simp), Nat.min_eq_left (by simp)] at this
      exact this
    · have hw : putRow encStr (Sort.ahead w q) g 0 (ts ++ List.replicate (rs.length - ts.length) []).toArray = grow (putRow encStr (Sort.ahead w q) g 0 (ts ++ List.replicate (rs.length - ts.length) []).toArray) #[] := (grow_nil _).symm
      rw [hw]
      exact grownBy_sorted _
end Go.Proofs.YtfbbkmdhnkmonaaGreatDoor
