/- docketref24.New at what may be. docketref24.Great at a state of roles alone. docketlaw24.StateBegins. -/
import Derived.Test.YtinijohmdljieaaGreatDoorGf
import Derived.Deep.RegionHeld3
import Derived.Test.YtinijohmdljieaaGreatDoorGa
namespace Go.Proofs.YtinijohmdljieaaGreatDoor
open Go.RowKit

/-- New while the roles are put in order -/
structure NwI (n s p : ByteArray) (uv : Value) (sec : ByteArray) (rs : List ByteArray) (l : List Rl) (base bx : Nat) (w W : World) (g uc : Nat) (ua : Option Addr) (uc2 : Nat) (va : Option Addr) (vc : Nat) (cur : List Rl) : Prop where
  nw : NwS n s p uv w W (stC ⟨#[]⟩ (.slice none 0 0) (.slice none 0 0))
  t : Own W w.heap.size 35 14 (some ⟨bx, 0, none⟩) 1 1 (stC sec (.slice (some ⟨g, 0, none⟩) 1 uc) (.slice va l.length vc))
  f : TwF n s p rs l base W g uc ua uc2 va vc cur
  gb : ∀ gr, va = some ⟨gr, 0, none⟩ → gr < bx
  bs : w.heap.size + 1 < base
section
variable {n s p : ByteArray} {uv : Value} {sec : ByteArray} {rs : List ByteArray} {l : List Rl} {base bx : Nat} {w W : World} {g uc : Nat} {ua : Option Addr} {uc2 : Nat} {va : Option Addr} {vc : Nat} {cur : List Rl}
theorem NwI.drew (h : NwI n s p uv sec rs l base bx w W g uc ua uc2 va vc cur) : NwI n s p uv sec rs l base bx w W.drew g uc ua uc2 va vc cur :=
  ⟨h.nw.call (Below.refl _ _).drew, h.t.drew, h.f.call (Below.refl _ _).drew, h.gb, h.bs⟩
theorem NwI.drewN (h : NwI n s p uv sec rs l base bx w W g uc ua uc2 va vc cur) (q : Nat) : NwI n s p uv sec rs l base bx w (W.drewN q) g uc ua uc2 va vc cur :=
  ⟨h.nw.call (below_drewN (Below.refl _ _) q), h.t.drewN q, h.f.call (below_drewN (Below.refl _ _) q), h.gb, h.bs⟩
theorem NwI.swap {gr : Nat} (h : NwI n s p uv sec rs l base bx w W g uc ua uc2 (some ⟨gr, 0, none⟩) vc cur) {K j : Nat} (hK : K = j + 1) (hj : K < cur.length) {x y : Rl} (hx : cur[j] = x) (hy : cur[K] = y) :
    NwI n s p uv sec rs l base bx w ((((((W.setCell ⟨gr, K * 3, none⟩ (.string x.name)).setCell ⟨gr, K * 3 + 1, none⟩ x.hv).setCell ⟨gr, K * 3 + 2, none⟩ x.mv).setCell ⟨gr, j * 3, none⟩ (.string y.name)).setCell ⟨gr, j * 3 + 1, none⟩ y.hv).setCell ⟨gr, j * 3 + 2, none⟩ y.mv) g uc ua uc2 (some ⟨gr, 0, none⟩) vc ((cur.set (j + 1) cur[j]).set j (cur[j + 1]'(by omega))) := by
  subst hK hx hy
  have hgr := h.f.ro.lt rfl
  have hgb := h.gb gr rfl
  have hbs := h.bs
  have hf := h.f.swap hj
  have far : ∀ (W' : World) (o : Nat) (v : Value) (k : Nat), k ≠ gr → (W'.setCell ⟨gr, o, none⟩ v).heap[k]? = W'.heap[k]? := fun W' o v k hk => Below.heap_setCell W' ⟨gr, o, none⟩ v k hk
  refine ⟨h.nw.kept (((((((h.nw.below.setCell (p := ⟨gr, _, none⟩) (by show w.heap.size ≤ gr; omega) _).setCell (p := ⟨gr, _, none⟩) (by show w.heap.size ≤ gr; omega) _).setCell (p := ⟨gr, _, none⟩) (by show w.heap.size ≤ gr; omega) _).setCell (p := ⟨gr, _, none⟩) (by show w.heap.size ≤ gr; omega) _).setCell (p := ⟨gr, _, none⟩) (by show w.heap.size ≤ gr; omega) _).setCell (p := ⟨gr, _, none⟩) (by show w.heap.size ≤ gr; omega) _)) (fun k hk => ?_), h.t.keptB fun q hq => ?_, hf, h.gb, h.bs⟩
  · rw [far _ _ _ k (by omega), far _ _ _ k (by omega), far _ _ _ k (by omega), far _ _ _ k (by omega), far _ _ _ k (by omega), far _ _ _ k (by omega)]
  · cases hq
    rw [far _ _ _ _ (by omega), far _ _ _ _ (by omega), far _ _ _ _ (by omega), far _ _ _ _ (by omega), far _ _ _ _ (by omega), far _ _ _ _ (by omega)]
theorem cell3_far {W : World} {bx gr : Nat} {v : Value} (h : W.cell? ⟨bx, 3, none⟩ = some v) (hne : bx ≠ gr) (o1 o2 o3 : Nat) (v1 v2 v3 : Value) : (((W.setCell ⟨gr, o1, none⟩ v1).setCell ⟨gr, o2, none⟩ v2).setCell ⟨gr, o3, none⟩ v3).cell? ⟨bx, 3, none⟩ = some v := by
  rw [World.cell?_of_block (w := ((W.setCell ⟨gr, o1, none⟩ v1).setCell ⟨gr, o2, none⟩ v2)) (Below.heap_setCell _ ⟨gr, o3, none⟩ v3 bx hne), World.cell?_of_block (w := (W.setCell ⟨gr, o1, none⟩ v1)) (Below.heap_setCell _ ⟨gr, o2, none⟩ v2 bx hne), World.cell?_of_block (w := W) (Below.heap_setCell _ ⟨gr, o1, none⟩ v1 bx hne)]
  exact h
theorem put3_far {W wy : World} {gr K q : Nat} {v1 v2 v3 u0 u1 u2 : Value} (hne : ¬ q = K) (h : (((W.setCell ⟨gr, K * 3, none⟩ v1).setCell ⟨gr, K * 3 + 1, none⟩ v2).setCell ⟨gr, K * 3 + 2, none⟩ v3).drew = wy)
    (e0 : W.cell? ⟨gr, q * 3, none⟩ = some u0) (e1 : W.cell? ⟨gr, q * 3 + 1, none⟩ = some u1) (e2 : W.cell? ⟨gr, q * 3 + 2, none⟩ = some u2) (ef : ∀ o, W.frozen? ⟨gr, o, none⟩ = false) :
    wy.cell? ⟨gr, q * 3, none⟩ = some u0 ∧ wy.cell? ⟨gr, q * 3 + 1, none⟩ = some u1 ∧ wy.cell? ⟨gr, q * 3 + 2, none⟩ = some u2 ∧ ∀ o, wy.frozen? ⟨gr, o, none⟩ = false := by
  subst h
  have far : ∀ o o' : Nat, o ≠ o' → (⟨gr, o, none⟩ : Addr) ≠ ⟨gr, o', none⟩ := fun o o' h he => h (by injection he)
  have key : ∀ o u, o ≠ K * 3 → o ≠ K * 3 + 1 → o ≠ K * 3 + 2 → W.cell? ⟨gr, o, none⟩ = some u → (((W.setCell ⟨gr, K * 3, none⟩ v1).setCell ⟨gr, K * 3 + 1, none⟩ v2).setCell ⟨gr, K * 3 + 2, none⟩ v3).drew.cell? ⟨gr, o, none⟩ = some u := by
    intro o u h1 h2 h3 hc
    show (((W.setCell ⟨gr, K * 3, none⟩ v1).setCell ⟨gr, K * 3 + 1, none⟩ v2).setCell ⟨gr, K * 3 + 2, none⟩ v3).cell? ⟨gr, o, none⟩ = some u
    rw [World.cell?_setCell_other (h := far _ _ (Ne.symm h3)), World.cell?_setCell_other (h := far _ _ (Ne.symm h2)), World.cell?_setCell_other (h := far _ _ (Ne.symm h1))]
    exact hc
  refine ⟨key _ _ (by omega) (by omega) (by omega) e0, key _ _ (by omega) (by omega) (by omega) e1, key _ _ (by omega) (by omega) (by omega) e2, fun o => ?_⟩
  show (((W.setCell ⟨gr, K * 3, none⟩ v1).setCell ⟨gr, K * 3 + 1, none⟩ v2).setCell ⟨gr, K * 3 + 2, none⟩ v3).frozen? ⟨gr, o, none⟩ = false
  rw [World.frozen?_setCell, World.frozen?_setCell, World.frozen?_setCell]
  exact ef o
theorem NwI.swap2 {n s p : ByteArray} {uv : Value} {sec : ByteArray} {rs : List ByteArray} {l : List Rl} {base bx : Nat} {w W wy : World} {g uc : Nat} {ua : Option Addr} {uc2 : Nat} {vc : Nat} {cur : List Rl} {gr : Nat} (h : NwI n s p uv sec rs l base bx w W g uc ua uc2 (some ⟨gr, 0, none⟩) vc cur) {K j : Nat} {x y : Rl}
    (hw : (((W.setCell ⟨gr, K * 3, none⟩ (.string x.name)).setCell ⟨gr, K * 3 + 1, none⟩ x.hv).setCell ⟨gr, K * 3 + 2, none⟩ x.mv).drew = wy) (hK : K = j + 1) (hj : K < cur.length) (hx : cur[j] = x) (hy : cur[K] = y) :
    NwI n s p uv sec rs l base bx w (((wy.setCell ⟨gr, j * 3, none⟩ (.string y.name)).setCell ⟨gr, j * 3 + 1, none⟩ y.hv).setCell ⟨gr, j * 3 + 2, none⟩ y.mv) g uc ua uc2 (some ⟨gr, 0, none⟩) vc ((cur.set (j + 1) cur[j]).set j (cur[j + 1]'(by omega))) := by
  have h1 := (h.swap hK hj hx hy).drew
  have e : ∀ (w : World) (a : Addr) (v : Value), w.drew.setCell a v = (w.setCell a v).drew := fun _ _ _ => rfl
  rw [← hw, e, e, e]
  exact h1
theorem InsR.stopK {cur : List Rl} {i K j : Nat} (h : InsR cur i K) (hK : K = j + 1) (hj : K < cur.length) {x y : Rl} (hx : cur[j] = x) (hy : cur[K] = y) (h0 : ltb y.name x.name = false) : UpTo cur (i + 1) := by
  subst hK hx hy
  exact h.stop fun _ => h0
theorem InsR.swapK {cur : List Rl} {i K j : Nat} (h : InsR cur i K) (hK : K = j + 1) (hj : K < cur.length) {x y : Rl} (hx : cur[j] = x) (hy : cur[K] = y) (h0 : ltb y.name x.name = true) : InsR ((cur.set (j + 1) cur[j]).set j (cur[j + 1]'(by omega))) i j := by
  subst hK hx hy
  exact h.swap hj h0
/-- the cells of a role in the list -/
theorem NwI.cells {gr : Nat} (h : NwI n s p uv sec rs l base bx w W g uc ua uc2 (some ⟨gr, 0, none⟩) vc cur) {j : Nat} (hj : j < cur.length) {x : Rl} (hx : cur[j] = x) :
    W.cell? ⟨gr, j * 3, none⟩ = some (.string x.name) ∧ W.cell? ⟨gr, j * 3 + 1, none⟩ = some x.hv ∧ W.cell? ⟨gr, j * 3 + 2, none⟩ = some x.mv ∧ ∀ o, W.frozen? ⟨gr, o, none⟩ = false := by
  subst hx
  obtain ⟨e0, e1, e2⟩ := flatR_at cur j hj
  exact ⟨h.f.ro.cellAt _ e0, h.f.ro.cellAt _ e1, h.f.ro.cellAt _ e2, fun o => h.f.ro.frozenAt o⟩
end
set_option maxHeartbeats 8000000 in
set_option maxRecDepth 100000 in
theorem refNew_ok (sec n s p : ByteArray) (a : Option Addr) (c : Nat) (rs : List ByteArray) (v : Value) (l : List Rl) (w : World) (h0 : ¬ sec.size = 0) (h64 : ¬ 64 < sec.size)
    (hn : n.size ≤ maxLen) (hs : s.size ≤ maxLen) (hp : p.size ≤ 1000000) (hr : ∀ x ∈ rs, x.size ≤ maxLen) (hrl : rs.length ≤ 1000000) (hu : Strs w.heap.size w (.slice a rs.length c) rs) (h : Rls w.heap.size w v l) (hl : l.length ≤ maxLen) (hk : chkP l = 0) (hm : mayB n s p rs = true) (hok : ∀ r ∈ l, r.Ok) :
    Calls Tryz.prog 7 #[.string sec, v, .agg #[.string n, .string s, .string p, .slice a rs.length c]] w (NewOk sec n s p rs l w) := by
  have HN0 := Lib.hid (NwS.start n s p (.slice a rs.length c) w)
  have hz : sec.toList.isEmpty = false := by
    rw [Go.ByteArray.toList_eq]
    cases he : sec.data.toList with
    | nil => exact absurd (by show sec.data.size = 0; rw [← Array.length_toList, he]; rfl) h0
    | cons x y => rfl
  have d1 : decide (64 < (sec.size : Int)) = false := decide_eq_false (by omega)
  have HC := Lib.hid (fun W (hb : Below w.heap.size w W) => (ref_Check W.heap.size v l W ((Rls.below h hb).mono hb.size) hl).mono (R' := fun e w' => e = .returned (.int .i64 (chkP l)) ∧ w' = W) (by
    rintro e w' ⟨x, rfl, hx, rfl⟩
    exact ⟨by rw [chk_same hx], rfl⟩))
  have HU := Lib.hid (fun W (hb : Below w.heap.size w W) => refMay_walk n s p a c rs W hn hs hp hr hrl ((hu.below hb).mono hb.size))
  rw [hk] at HC
  rw [hm] at HU
  obtain ⟨hk1, hk2, hk3⟩ := chk_ok hk
  have HTW := Lib.hid (fun W b (hb : Below w.heap.size w W) hA => twin24_walk sec n s p b a c rs v l W hA ((hu.below hb).mono hb.size) (by omega) (by omega) (fun r hr => by have := hk3 r hr; omega) ((Rls.below h hb).mono hb.size))
  have HOK := Lib.hid hok
  have hk2' : l.length ≤ 1000 := by omega
  obtain ⟨a0, c0, b0, o0, rfl, -, -⟩ := h.cells
  clear hk hm h hu hn hs hp hr h0 h64 hk1 hk2 hk3 hok hl hrl
  go_enter Tryz.func7, Tryz.ntmps7
  go_upto_region 3 with fail
  revert HN0
  generalize ((w.alloc (.cells #[.string n, .string s, .string p, .slice a rs.length c] 25)).alloc (stO ⟨#[]⟩ (.slice none 0 0) (.slice none 0 0))) = W0
  intro HN0
  go_wp2_with fail
  refine (HC.out _ HN0.out.below).mono ?_
  rintro e w1 ⟨rfl, rfl⟩
  have HN1 := HN0
  clear HC HN0
  have u0 := HN1.out.cp 0 _ rfl
  have u1 := HN1.out.cp 1 _ rfl
  have u2 := HN1.out.cp 2 _ rfl
  have u3 := HN1.out.cp 3 _ rfl
  go_wp2_with fail
  refine (HU.out _ HN1.out.below).mono ?_
  rintro e w2 ⟨rfl, hb2⟩
  have HN2 := Lib.hid (HN1.out.call hb2)
  clear hb2 HU HN1 u0 u1 u2 u3
  have u0 := HN2.out.cp 0 _ rfl
  have u1 := HN2.out.cp 1 _ rfl
  have u2 := HN2.out.cp 2 _ rfl
  have u3 := HN2.out.cp 3 _ rfl
  have HB3 := Lib.hid ((Below.refl w2.heap.size w2).alloc (Nat.le_refl _) (.cells #[.string n, .string s, .string p, .slice a rs.length c] 25))
  have HZ3 : Hid ((w2.alloc (.cells #[.string n, .string s, .string p, .slice a rs.length c] 25)).heap.size = w2.heap.size + 1) := by show _ = _; simp
  have HT := Lib.hid (HTW.out (w2.alloc (.cells #[.string n, .string s, .string p, .slice a rs.length c] 25)) w2.heap.size (HN2.out.call HB3.out).below (Arr.new w2 [.string n, .string s, .string p, .slice a rs.length c] 25))
  clear HTW
  go_wp2_with fail
  refine HT.out.mono ?_
  intro e w4 he
  obtain ⟨g, uc, ua, uv, va, vc, cur, rfl, hb4, hF⟩ := twF_of he
  clear he HT u0 u1 u2 u3
  have HN4 := Lib.hid ((HN2.out.call HB3.out).call hb4)
  have hbs : w.heap.size + 1 < (w2.alloc (.cells #[.string n, .string s, .string p, .slice a rs.length c] 25)).heap.size := by have := HN2.out.lt; have := HZ3.out; omega
  generalize (w2.alloc (.cells #[.string n, .string s, .string p, .slice a rs.length c] 25)).heap.size = base at *
  have HB5 := Lib.hid ((Below.refl w4.heap.size w4).alloc (Nat.le_refl _) (stO sec (.slice (some ⟨g, 0, none⟩) 1 uc) (.slice va l.length vc)))
  have HI : Hid (NwI n s p (.slice a rs.length c) sec rs l base w4.heap.size w (w4.alloc (stO sec (.slice (some ⟨g, 0, none⟩) 1 uc) (.slice va l.length vc))) g uc ua uv va vc cur) :=
    ⟨HN4.out.call HB5.out, ownBox w4 #[.int .i64 0, .string sec, .slice (some ⟨g, 0, none⟩) 1 uc, .slice va l.length vc, .slice none 0 0, .slice none 0 0, .slice none 0 0, .slice none 0 0, .slice none 0 0, .slice none 0 0, .int .i64 0, .int .i64 0, .int .i64 0, .int .i64 0] 35 14 w.heap.size (by have := HN4.out.lt; omega) rfl, hF.call HB5.out, fun gr hgr => (hF.ro.lt hgr).2, hbs⟩
  clear hF HN4 HN2 hb4 HB3 HZ3 HB5 hbs
  go_upto_region 7 with fail
  revert HI
  generalize w4.alloc (stO sec (.slice (some ⟨g, 0, none⟩) 1 uc) (.slice va l.length vc)) = w5
  intro HI
  generalize w4.heap.size = bx at *
  go_loopw [9] (fun i wx => ∃ (m : Nat) (cur : List Rl), 1 ≤ m ∧ (m ≤ l.length ∨ m = 1) ∧ i = .int .i64 m ∧ Hid (NwI n s p (.slice a rs.length c) sec rs l base bx w wx g uc ua uv va vc cur) ∧ Hid (UpTo cur m)) (fun i _ => l.length - (intOf i).toNat)
  case atStart => exact ⟨1, cur, Nat.le_refl _, .inr rfl, rfl, HI, fun a b ha hb h1 h2 => by omega⟩
  case round =>
    clear HI
    obtain ⟨m, cur, hm1, hm2, rfl, HI, HU⟩ := hrel
    have b3 := HI.out.t.cellAt 3 rfl
    by_cases hlt : m < l.length
    · obtain ⟨gr, rfl⟩ : ∃ gr, va = some ⟨gr, 0, none⟩ := by
        rcases HI.out.f.ro.block with ⟨_, h1, _⟩ | ⟨gr, h1, _⟩
        · omega
        · exact ⟨gr, h1⟩
      have hlen := HI.out.f.len
      have HS := Lib.hid (InsR.start HU.out (by omega))
      clear HU hlen
      go_wp2_with fail
      clear b3
      go_loopw [10] (fun i wx => ∃ (j : Nat) (cur : List Rl), i = .int .i64 j ∧ Hid (NwI n s p (.slice a rs.length c) sec rs l base bx w wx g uc ua uv (some ⟨gr, 0, none⟩) vc cur) ∧ Hid (InsR cur m j)) (fun i _ => (intOf i).toNat)
      case atStart => exact ⟨m, cur, rfl, HI, HS⟩
      case round =>
        clear HI HS
        obtain ⟨K, cur, rfl, HI, HS⟩ := hrel
        have hlen := HI.out.f.len
        have hKm := HS.out.ki
        have b3 := HI.out.t.cellAt 3 rfl
        by_cases hK : K = 0
        · subst hK
          have hup := HS.out.stop (fun h => absurd h (Nat.lt_irrefl _))
          have HU := Lib.hid hup
          clear hup hlen hKm
          go_upto_region 10 with fail
          go_quiet (fail)
          go_wp2_with fail
          go_roundw
          case rel => exact ⟨m + 1, cur, by omega, .inl (by omega), by go_num, HI.out.drewN _, HU⟩
          case measure => simp [intOf]; omega
        · obtain ⟨q, hq⟩ : ∃ q, K = q + 1 := ⟨K - 1, by omega⟩
          have hKl : K < cur.length := by omega
          have hql : q < cur.length := by omega
          obtain ⟨x, hx⟩ : ∃ x, cur[q] = x := ⟨_, rfl⟩
          obtain ⟨y, hy⟩ : ∃ y, cur[K] = y := ⟨_, rfl⟩
          obtain ⟨e0, e1, e2, ef⟩ := HI.out.cells hql hx
          obtain ⟨f0, f1, f2, -⟩ := HI.out.cells hKl hy
          obtain ⟨xn, xa, xc, xd, xe, xh, xm⟩ := x
          obtain ⟨yn, ya, yc, yd, ye, yh, ym⟩ := y
          simp only [Rl.hv, Rl.mv] at e0 e1 e2 f0 f1 f2
          have i1 : (0 : Int) ≤ (K : Int) := by omega
          have i2 : (K : Int) < (l.length : Int) := by omega
          have i3 : 0 < K := by omega
          have i4 : (0 : Int) ≤ (q : Int) := by omega
          have i5 : (q : Int) < (l.length : Int) := by omega
          have i6 : IntKind.i64.wrap ((K : Int) - 1) = (q : Int) := by rw [hq]; rw [wrap_i64 (by omega) (by omega)]; omega
          have HQ := Lib.hid hq; have HX := Lib.hid hx; have HY := Lib.hid hy
          clear hx hy hlen hKm hq
          cases hlb : Op.bytesLess yn.toList xn.toList
          · have HU := Lib.hid (InsR.stopK (x := ⟨xn, xa, xc, xd, xe, xh, xm⟩) (y := ⟨yn, ya, yc, yd, ye, yh, ym⟩) HS.out HQ.out hKl HX.out HY.out hlb)
            go_upto_region 10 with fail
            go_quiet (fail)
            go_wp2_with fail
            go_roundw
            case rel => exact ⟨m + 1, cur, by omega, .inl (by omega), by go_num, HI.out.drewN _, HU⟩
            case measure => simp [intOf]; omega
          · go_upto_region 10 with fail
            go_quiet (fail)
            go_upto_region 12 with fail
            have HIz := Lib.hid (HI.out.drewN nq)
            clear e0 e1 e2 ef f0 f1 f2 b3 i3 HI
            revert HIz
            generalize wr.drewN nq = wz
            intro HIz
            obtain ⟨e0, e1, e2, ef⟩ := HIz.out.cells hql HX.out
            obtain ⟨f0, f1, f2, -⟩ := HIz.out.cells hKl HY.out
            simp only [Rl.hv, Rl.mv] at e0 e1 e2 f0 f1 f2
            have hS0 := HIz.out.drew.t.cellAt 3 rfl
            have hbg : bx ≠ gr := by have := HIz.out.gb gr rfl; omega
            have j1 : ¬ q = K := by have := HQ.out; omega
            have j2 : ¬ q * 3 = K * 3 := by omega
            have j3 : ¬ q * 3 = K * 3 + 1 := by omega
            have j4 : ¬ q * 3 = K * 3 + 2 := by omega
            have j5 : ¬ q * 3 + 1 = K * 3 := by omega
            have j6 : ¬ q * 3 + 1 = K * 3 + 2 := by omega
            have j7 : ¬ q * 3 + 2 = K * 3 := by omega
            have j8 : ¬ q * 3 + 2 = K * 3 + 1 := by omega
            refine wp_region_held_drew (S := (fun W => W.cell? ⟨bx, 3, none⟩ = some (.slice (some ⟨gr, 0, none⟩) l.length vc))) (by kernel_rfl) hS0 (fun hH => ?_)
            refine wpAnyH_take (i := 0) (oi := { dst := some 62, op := Op.fieldAddr 35 (Operand.tmp 8) 3, type := 0, pos := "ref.go:390", after := #[], guard := none }) (v := .pointer (some ⟨bx, 3, none⟩)) rfl (by kernel_rfl) (by kernel_rfl) (by kernel_rfl) (fun _ _ _ h => h) (Or.inl ⟨by rfl, fun W hS => by go_simp⟩) hH ?_
            simp only [Act.put, List.setIfInBounds_toArray, List.set_cons_zero, List.set_cons_succ]
            refine wpAnyH_take (i := 1) (oi := { dst := some 63, op := Op.load 22 (Operand.tmp 62), type := 22, pos := "ref.go:390", after := #[{ on := 0, ground := Ground.data }], guard := none }) (v := .slice (some ⟨gr, 0, none⟩) l.length vc) rfl (by kernel_rfl) (by kernel_rfl) (by kernel_rfl) (fun _ _ _ h => h) (Or.inl ⟨by rfl, fun W hS => by have h0 : W.cell? ⟨bx, 3, none⟩ = some (.slice (some ⟨gr, 0, none⟩) l.length vc) := hS; go_simp⟩) hH ?_
            simp only [Act.put, List.setIfInBounds_toArray, List.set_cons_zero, List.set_cons_succ]
            refine wpAnyH_take (i := 2) (oi := { dst := some 64, op := Op.move (Operand.tmp 10), type := 3, pos := "ref.go:390", after := #[], guard := none }) (v := .int .i64 K) rfl (by kernel_rfl) (by kernel_rfl) (by kernel_rfl) (fun _ _ _ h => h) (Or.inl ⟨by rfl, fun W hS => by go_simp⟩) hH ?_
            simp only [Act.put, List.setIfInBounds_toArray, List.set_cons_zero, List.set_cons_succ]
            refine wpAnyH_take (i := 3) (oi := { dst := some 65, op := Op.fieldAddr 35 (Operand.tmp 8) 3, type := 0, pos := "ref.go:390", after := #[{ on := 19, ground := Ground.gcOnly Departure.lateStores }], guard := none }) (v := .pointer (some ⟨bx, 3, none⟩)) rfl (by kernel_rfl) (by kernel_rfl) (by kernel_rfl) (fun _ _ _ h => h) (Or.inl ⟨by rfl, fun W hS => by go_simp⟩) hH ?_
            simp only [Act.put, List.setIfInBounds_toArray, List.set_cons_zero, List.set_cons_succ]
            refine wpAnyH_take (i := 4) (oi := { dst := some 66, op := Op.load 22 (Operand.tmp 65), type := 22, pos := "ref.go:390", after := #[{ on := 3, ground := Ground.data }, { on := 19, ground := Ground.gcOnly Departure.lateStores }], guard := none }) (v := .slice (some ⟨gr, 0, none⟩) l.length vc) rfl (by kernel_rfl) (by kernel_rfl) (by kernel_rfl) (fun _ _ _ h => h) (Or.inl ⟨by rfl, fun W hS => by have h0 : W.cell? ⟨bx, 3, none⟩ = some (.slice (some ⟨gr, 0, none⟩) l.length vc) := hS; go_simp⟩) hH ?_
            simp only [Act.put, List.setIfInBounds_toArray, List.set_cons_zero, List.set_cons_succ]
            refine wpAnyH_take (i := 5) (oi := { dst := some 67, op := Op.move (Operand.tmp 10), type := 3, pos := "ref.go:390", after := #[{ on := 19, ground := Ground.gcOnly Departure.lateStores }], guard := none }) (v := .int .i64 K) rfl (by kernel_rfl) (by kernel_rfl) (by kernel_rfl) (fun _ _ _ h => h) (Or.inl ⟨by rfl, fun W hS => by go_simp⟩) hH ?_
            simp only [Act.put, List.setIfInBounds_toArray, List.set_cons_zero, List.set_cons_succ]
            refine wpAnyH_take (i := 6) (oi := { dst := some 68, op := Op.binOp BinOp.sub 3 (Operand.tmp 67) (Operand.const (Value.int IntKind.i64 1)) 3, type := 3, pos := "ref.go:390", after := #[{ on := 5, ground := Ground.data }, { on := 19, ground := Ground.gcOnly Departure.lateStores }], guard := none }) (v := .int .i64 q) rfl (by kernel_rfl) (by kernel_rfl) (by kernel_rfl) (fun _ _ _ h => h) (Or.inl ⟨by rfl, fun W hS => by go_simp⟩) hH ?_
            simp only [Act.put, List.setIfInBounds_toArray, List.set_cons_zero, List.set_cons_succ]
            refine wpAnyH_take (i := 7) (oi := { dst := some 69, op := Op.fieldAddr 35 (Operand.tmp 8) 3, type := 0, pos := "ref.go:390", after := #[], guard := none }) (v := .pointer (some ⟨bx, 3, none⟩)) rfl (by kernel_rfl) (by kernel_rfl) (by kernel_rfl) (fun _ _ _ h => h) (Or.inl ⟨by rfl, fun W hS => by go_simp⟩) hH ?_
            simp only [Act.put, List.setIfInBounds_toArray, List.set_cons_zero, List.set_cons_succ]
            refine wpAnyH_take (i := 8) (oi := { dst := some 70, op := Op.load 22 (Operand.tmp 69), type := 22, pos := "ref.go:390", after := #[{ on := 7, ground := Ground.data }], guard := none }) (v := .slice (some ⟨gr, 0, none⟩) l.length vc) rfl (by kernel_rfl) (by kernel_rfl) (by kernel_rfl) (fun _ _ _ h => h) (Or.inl ⟨by rfl, fun W hS => by have h0 : W.cell? ⟨bx, 3, none⟩ = some (.slice (some ⟨gr, 0, none⟩) l.length vc) := hS; go_simp⟩) hH ?_
            simp only [Act.put, List.setIfInBounds_toArray, List.set_cons_zero, List.set_cons_succ]
            refine wpAnyH_take (i := 9) (oi := { dst := some 71, op := Op.move (Operand.tmp 10), type := 3, pos := "ref.go:390", after := #[], guard := none }) (v := .int .i64 K) rfl (by kernel_rfl) (by kernel_rfl) (by kernel_rfl) (fun _ _ _ h => h) (Or.inl ⟨by rfl, fun W hS => by go_simp⟩) hH ?_
            simp only [Act.put, List.setIfInBounds_toArray, List.set_cons_zero, List.set_cons_succ]
            refine wpAnyH_take (i := 10) (oi := { dst := some 72, op := Op.binOp BinOp.sub 3 (Operand.tmp 71) (Operand.const (Value.int IntKind.i64 1)) 3, type := 3, pos := "ref.go:390", after := #[{ on := 9, ground := Ground.data }], guard := none }) (v := .int .i64 q) rfl (by kernel_rfl) (by kernel_rfl) (by kernel_rfl) (fun _ _ _ h => h) (Or.inl ⟨by rfl, fun W hS => by go_simp⟩) hH ?_
            simp only [Act.put, List.setIfInBounds_toArray, List.set_cons_zero, List.set_cons_succ]
            refine wpAnyH_take (i := 11) (oi := { dst := some 73, op := Op.indexAddr 22 (Operand.tmp 70) (Operand.tmp 72), type := 0, pos := "ref.go:390", after := #[{ on := 8, ground := Ground.data }, { on := 10, ground := Ground.data }], guard := none }) (v := .pointer (some ⟨gr, q * 3, none⟩)) rfl (by kernel_rfl) (by kernel_rfl) (by kernel_rfl) (fun _ _ _ h => h) (Or.inl ⟨by rfl, fun W hS => by go_simp⟩) hH ?_
            simp only [Act.put, List.setIfInBounds_toArray, List.set_cons_zero, List.set_cons_succ]
            refine wpAnyH_take (i := 13) (oi := { dst := some 75, op := Op.fieldAddr 35 (Operand.tmp 8) 3, type := 0, pos := "ref.go:390", after := #[], guard := none }) (v := .pointer (some ⟨bx, 3, none⟩)) rfl (by kernel_rfl) (by kernel_rfl) (by kernel_rfl) (fun _ _ _ h => h) (Or.inl ⟨by rfl, fun W hS => by go_simp⟩) hH ?_
            simp only [Act.put, List.setIfInBounds_toArray, List.set_cons_zero, List.set_cons_succ]
            refine wpAnyH_take (i := 14) (oi := { dst := some 76, op := Op.load 22 (Operand.tmp 75), type := 22, pos := "ref.go:390", after := #[{ on := 13, ground := Ground.data }], guard := none }) (v := .slice (some ⟨gr, 0, none⟩) l.length vc) rfl (by kernel_rfl) (by kernel_rfl) (by kernel_rfl) (fun _ _ _ h => h) (Or.inl ⟨by rfl, fun W hS => by have h0 : W.cell? ⟨bx, 3, none⟩ = some (.slice (some ⟨gr, 0, none⟩) l.length vc) := hS; go_simp⟩) hH ?_
            simp only [Act.put, List.setIfInBounds_toArray, List.set_cons_zero, List.set_cons_succ]
            refine wpAnyH_take (i := 15) (oi := { dst := some 77, op := Op.move (Operand.tmp 10), type := 3, pos := "ref.go:390", after := #[], guard := none }) (v := .int .i64 K) rfl (by kernel_rfl) (by kernel_rfl) (by kernel_rfl) (fun _ _ _ h => h) (Or.inl ⟨by rfl, fun W hS => by go_simp⟩) hH ?_
            simp only [Act.put, List.setIfInBounds_toArray, List.set_cons_zero, List.set_cons_succ]
            refine wpAnyH_take (i := 16) (oi := { dst := some 78, op := Op.indexAddr 22 (Operand.tmp 76) (Operand.tmp 77), type := 0, pos := "ref.go:390", after := #[{ on := 14, ground := Ground.data }, { on := 15, ground := Ground.data }], guard := none }) (v := .pointer (some ⟨gr, K * 3, none⟩)) rfl (by kernel_rfl) (by kernel_rfl) (by kernel_rfl) (fun _ _ _ h => h) (Or.inl ⟨by rfl, fun W hS => by go_simp⟩) hH ?_
            simp only [Act.put, List.setIfInBounds_toArray, List.set_cons_zero, List.set_cons_succ]
            refine wpAnyH_ready (rs := [12, 17]) (by kernel_rfl) (by simp) ?_
            refine AllReadyH.cons (o := { dst := some 74, op := Op.load 81 (Operand.tmp 73), type := 81, pos := "ref.go:390", after := #[{ on := 11, ground := Ground.data }], guard := none }) rfl (fun K hK => ?_) (AllReadyH.cons (o := { dst := some 79, op := Op.load 81 (Operand.tmp 78), type := 81, pos := "ref.go:390", after := #[{ on := 16, ground := Ground.data }], guard := none }) rfl (fun K hK => ?_) AllReadyH.nil)
            · go_simp
              refine hK.out _ _ hH (fun hH => ?_)
              clear hK K
              try simp only [Act.put, List.setIfInBounds_toArray, List.set_cons_zero, List.set_cons_succ]
              refine wpAnyH_ready (rs := [17]) (by kernel_rfl) (by simp) ?_
              refine AllReadyH.cons (o := { dst := some 79, op := Op.load 81 (Operand.tmp 78), type := 81, pos := "ref.go:390", after := #[{ on := 16, ground := Ground.data }], guard := none }) rfl (fun K hK => ?_) AllReadyH.nil
              go_simp
              refine hK.out _ _ hH (fun hH => ?_)
              clear hK K
              try simp only [Act.put, List.setIfInBounds_toArray, List.set_cons_zero, List.set_cons_succ]
              refine wpAnyH_take (i := 18) (oi := { dst := some 80, op := Op.indexAddr 22 (Operand.tmp 63) (Operand.tmp 64), type := 0, pos := "ref.go:390", after := #[{ on := 1, ground := Ground.data }, { on := 2, ground := Ground.data }, { on := 0, ground := Ground.phase }, { on := 1, ground := Ground.phase }, { on := 2, ground := Ground.phase }, { on := 3, ground := Ground.textOnly Departure.lateStores }, { on := 4, ground := Ground.textOnly Departure.lateStores }, { on := 5, ground := Ground.textOnly Departure.lateStores }, { on := 6, ground := Ground.textOnly Departure.lateStores }, { on := 7, ground := Ground.phase }, { on := 8, ground := Ground.phase }, { on := 9, ground := Ground.phase }, { on := 10, ground := Ground.phase }, { on := 11, ground := Ground.phase }, { on := 12, ground := Ground.phase }, { on := 13, ground := Ground.textOnly Departure.lateStores }, { on := 14, ground := Ground.textOnly Departure.lateStores }, { on := 15, ground := Ground.textOnly Departure.lateStores }, { on := 16, ground := Ground.textOnly Departure.lateStoresUnsure }, { on := 17, ground := Ground.phase }], guard := none }) (v := .pointer (some ⟨gr, K * 3, none⟩)) rfl (by kernel_rfl) (by kernel_rfl) (by kernel_rfl) (fun _ _ _ h => h) (Or.inl ⟨by rfl, fun W hS => by go_simp⟩) hH ?_
              simp only [Act.put, List.setIfInBounds_toArray, List.set_cons_zero, List.set_cons_succ]
              refine wpAnyH_ready (rs := [19]) (by kernel_rfl) (by simp) ?_
              refine AllReadyH.cons (o := { dst := none, op := Op.store 81 (Operand.tmp 80) (Operand.tmp 74), type := 0, pos := "ref.go:390", after := #[{ on := 18, ground := Ground.data }, { on := 12, ground := Ground.data }, { on := 0, ground := Ground.phase }, { on := 1, ground := Ground.phase }, { on := 2, ground := Ground.phase }, { on := 3, ground := Ground.textOnly Departure.lateStores }, { on := 4, ground := Ground.textOnly Departure.lateStores }, { on := 5, ground := Ground.textOnly Departure.lateStores }, { on := 6, ground := Ground.textOnly Departure.lateStores }, { on := 7, ground := Ground.phase }, { on := 8, ground := Ground.phase }, { on := 9, ground := Ground.phase }, { on := 10, ground := Ground.phase }, { on := 11, ground := Ground.phase }, { on := 12, ground := Ground.phase }, { on := 13, ground := Ground.textOnly Departure.lateStores }, { on := 14, ground := Ground.textOnly Departure.lateStores }, { on := 15, ground := Ground.textOnly Departure.lateStores }, { on := 16, ground := Ground.textOnly Departure.lateStoresUnsure }, { on := 17, ground := Ground.phase }], guard := none }) rfl (fun K hK => ?_) AllReadyH.nil
              go_simp
              refine hK.out _ _ (cell3_far hH hbg _ _ _ _ _ _) (fun hH => ?_)
              clear hK K
              try simp only [Act.put, List.setIfInBounds_toArray, List.set_cons_zero, List.set_cons_succ]
              obtain ⟨wy, hwy⟩ : ∃ wy, (((wz.setCell ⟨gr, K * 3, none⟩ (.string xn)).setCell ⟨gr, K * 3 + 1, none⟩ (.slice xa xh.length xc)).setCell ⟨gr, K * 3 + 2, none⟩ (.slice xd xm.length xe)).drew = wy := ⟨_, rfl⟩
              rw [hwy] at hH ⊢
              obtain ⟨g0, g1, g2, gf⟩ := put3_far j1 hwy e0 e1 e2 ef
              have HWY := Lib.hid hwy
              clear hwy e0 e1 e2 f0 f1 f2 ef
              refine wpAnyH_take (i := 20) (oi := { dst := some 81, op := Op.indexAddr 22 (Operand.tmp 66) (Operand.tmp 68), type := 0, pos := "ref.go:390", after := #[{ on := 4, ground := Ground.data }, { on := 6, ground := Ground.data }, { on := 0, ground := Ground.phase }, { on := 1, ground := Ground.phase }, { on := 2, ground := Ground.phase }, { on := 3, ground := Ground.phase }, { on := 4, ground := Ground.phase }, { on := 5, ground := Ground.phase }, { on := 6, ground := Ground.phase }, { on := 7, ground := Ground.phase }, { on := 8, ground := Ground.phase }, { on := 9, ground := Ground.phase }, { on := 10, ground := Ground.phase }, { on := 11, ground := Ground.phase }, { on := 12, ground := Ground.phase }, { on := 13, ground := Ground.phase }, { on := 14, ground := Ground.phase }, { on := 15, ground := Ground.phase }, { on := 16, ground := Ground.phase }, { on := 17, ground := Ground.phase }, { on := 18, ground := Ground.phase }, { on := 19, ground := Ground.phase }], guard := none }) (v := .pointer (some ⟨gr, q * 3, none⟩)) rfl (by kernel_rfl) (by kernel_rfl) (by kernel_rfl) (fun _ _ _ h => h) (Or.inl ⟨by rfl, fun W hS => by go_simp⟩) hH ?_
              simp only [Act.put, List.setIfInBounds_toArray, List.set_cons_zero, List.set_cons_succ]
              refine wpAnyH_ready (rs := [21]) (by kernel_rfl) (by simp) ?_
              refine AllReadyH.cons (o := { dst := none, op := Op.store 81 (Operand.tmp 81) (Operand.tmp 79), type := 0, pos := "ref.go:390", after := #[{ on := 20, ground := Ground.data }, { on := 17, ground := Ground.data }, { on := 19, ground := Ground.chain }, { on := 0, ground := Ground.phase }, { on := 1, ground := Ground.phase }, { on := 2, ground := Ground.phase }, { on := 3, ground := Ground.phase }, { on := 4, ground := Ground.phase }, { on := 5, ground := Ground.phase }, { on := 6, ground := Ground.phase }, { on := 7, ground := Ground.phase }, { on := 8, ground := Ground.phase }, { on := 9, ground := Ground.phase }, { on := 10, ground := Ground.phase }, { on := 11, ground := Ground.phase }, { on := 12, ground := Ground.phase }, { on := 13, ground := Ground.phase }, { on := 14, ground := Ground.phase }, { on := 15, ground := Ground.phase }, { on := 16, ground := Ground.phase }, { on := 17, ground := Ground.phase }, { on := 18, ground := Ground.phase }, { on := 19, ground := Ground.phase }], guard := none }) rfl (fun K hK => ?_) AllReadyH.nil
              go_simp
              refine hK.out _ _ (cell3_far hH hbg _ _ _ _ _ _) (fun hH => ?_)
              clear hK K
              try simp only [Act.put, List.setIfInBounds_toArray, List.set_cons_zero, List.set_cons_succ]
              refine wpAnyH_done (by kernel_rfl) ?_ _
              go_wp2_with fail
              have H1 := Lib.hid (NwI.swap2 (x := ⟨xn, xa, xc, xd, xe, xh, xm⟩) (y := ⟨yn, ya, yc, yd, ye, yh, ym⟩) HIz.out HWY.out HQ.out hKl HX.out HY.out)
              have H2 := Lib.hid (InsR.swapK (x := ⟨xn, xa, xc, xd, xe, xh, xm⟩) (y := ⟨yn, ya, yc, yd, ye, yh, ym⟩) HS.out HQ.out hKl HX.out HY.out hlb)
              go_roundw
              case rel => exact ⟨q, _, rfl, H1, H2⟩
              case measure => have := HQ.out; simp [intOf]; omega
            · go_simp
              refine hK.out _ _ hH (fun hH => ?_)
              clear hK K
              try simp only [Act.put, List.setIfInBounds_toArray, List.set_cons_zero, List.set_cons_succ]
              refine wpAnyH_ready (rs := [12]) (by kernel_rfl) (by simp) ?_
              refine AllReadyH.cons (o := { dst := some 74, op := Op.load 81 (Operand.tmp 73), type := 81, pos := "ref.go:390", after := #[{ on := 11, ground := Ground.data }], guard := none }) rfl (fun K hK => ?_) AllReadyH.nil
              go_simp
              refine hK.out _ _ hH (fun hH => ?_)
              clear hK K
              try simp only [Act.put, List.setIfInBounds_toArray, List.set_cons_zero, List.set_cons_succ]
              refine wpAnyH_take (i := 18) (oi := { dst := some 80, op := Op.indexAddr 22 (Operand.tmp 63) (Operand.tmp 64), type := 0, pos := "ref.go:390", after := #[{ on := 1, ground := Ground.data }, { on := 2, ground := Ground.data }, { on := 0, ground := Ground.phase }, { on := 1, ground := Ground.phase }, { on := 2, ground := Ground.phase }, { on := 3, ground := Ground.textOnly Departure.lateStores }, { on := 4, ground := Ground.textOnly Departure.lateStores }, { on := 5, ground := Ground.textOnly Departure.lateStores }, { on := 6, ground := Ground.textOnly Departure.lateStores }, { on := 7, ground := Ground.phase }, { on := 8, ground := Ground.phase }, { on := 9, ground := Ground.phase }, { on := 10, ground := Ground.phase }, { on := 11, ground := Ground.phase }, { on := 12, ground := Ground.phase }, { on := 13, ground := Ground.textOnly Departure.lateStores }, { on := 14, ground := Ground.textOnly Departure.lateStores }, { on := 15, ground := Ground.textOnly Departure.lateStores }, { on := 16, ground := Ground.textOnly Departure.lateStoresUnsure }, { on := 17, ground := Ground.phase }], guard := none }) (v := .pointer (some ⟨gr, K * 3, none⟩)) rfl (by kernel_rfl) (by kernel_rfl) (by kernel_rfl) (fun _ _ _ h => h) (Or.inl ⟨by rfl, fun W hS => by go_simp⟩) hH ?_
              simp only [Act.put, List.setIfInBounds_toArray, List.set_cons_zero, List.set_cons_succ]
              refine wpAnyH_ready (rs := [19]) (by kernel_rfl) (by simp) ?_
              refine AllReadyH.cons (o := { dst := none, op := Op.store 81 (Operand.tmp 80) (Operand.tmp 74), type := 0, pos := "ref.go:390", after := #[{ on := 18, ground := Ground.data }, { on := 12, ground := Ground.data }, { on := 0, ground := Ground.phase }, { on := 1, ground := Ground.phase }, { on := 2, ground := Ground.phase }, { on := 3, ground := Ground.textOnly Departure.lateStores }, { on := 4, ground := Ground.textOnly Departure.lateStores }, { on := 5, ground := Ground.textOnly Departure.lateStores }, { on := 6, ground := Ground.textOnly Departure.lateStores }, { on := 7, ground := Ground.phase }, { on := 8, ground := Ground.phase }, { on := 9, ground := Ground.phase }, { on := 10, ground := Ground.phase }, { on := 11, ground := Ground.phase }, { on := 12, ground := Ground.phase }, { on := 13, ground := Ground.textOnly Departure.lateStores }, { on := 14, ground := Ground.textOnly Departure.lateStores }, { on := 15, ground := Ground.textOnly Departure.lateStores }, { on := 16, ground := Ground.textOnly Departure.lateStoresUnsure }, { on := 17, ground := Ground.phase }], guard := none }) rfl (fun K hK => ?_) AllReadyH.nil
              go_simp
              refine hK.out _ _ (cell3_far hH hbg _ _ _ _ _ _) (fun hH => ?_)
              clear hK K
              try simp only [Act.put, List.setIfInBounds_toArray, List.set_cons_zero, List.set_cons_succ]
              obtain ⟨wy, hwy⟩ : ∃ wy, (((wz.setCell ⟨gr, K * 3, none⟩ (.string xn)).setCell ⟨gr, K * 3 + 1, none⟩ (.slice xa xh.length xc)).setCell ⟨gr, K * 3 + 2, none⟩ (.slice xd xm.length xe)).drew = wy := ⟨_, rfl⟩
              rw [hwy] at hH ⊢
              obtain ⟨g0, g1, g2, gf⟩ := put3_far j1 hwy e0 e1 e2 ef
              have HWY := Lib.hid hwy
              clear hwy e0 e1 e2 f0 f1 f2 ef
              refine wpAnyH_take (i := 20) (oi := { dst := some 81, op := Op.indexAddr 22 (Operand.tmp 66) (Operand.tmp 68), type := 0, pos := "ref.go:390", after := #[{ on := 4, ground := Ground.data }, { on := 6, ground := Ground.data }, { on := 0, ground := Ground.phase }, { on := 1, ground := Ground.phase }, { on := 2, ground := Ground.phase }, { on := 3, ground := Ground.phase }, { on := 4, ground := Ground.phase }, { on := 5, ground := Ground.phase }, { on := 6, ground := Ground.phase }, { on := 7, ground := Ground.phase }, { on := 8, ground := Ground.phase }, { on := 9, ground := Ground.phase }, { on := 10, ground := Ground.phase }, { on := 11, ground := Ground.phase }, { on := 12, ground := Ground.phase }, { on := 13, ground := Ground.phase }, { on := 14, ground := Ground.phase }, { on := 15, ground := Ground.phase }, { on := 16, ground := Ground.phase }, { on := 17, ground := Ground.phase }, { on := 18, ground := Ground.phase }, { on := 19, ground := Ground.phase }], guard := none }) (v := .pointer (some ⟨gr, q * 3, none⟩)) rfl (by kernel_rfl) (by kernel_rfl) (by kernel_rfl) (fun _ _ _ h => h) (Or.inl ⟨by rfl, fun W hS => by go_simp⟩) hH ?_
              simp only [Act.put, List.setIfInBounds_toArray, List.set_cons_zero, List.set_cons_succ]
              refine wpAnyH_ready (rs := [21]) (by kernel_rfl) (by simp) ?_
              refine AllReadyH.cons (o := { dst := none, op := Op.store 81 (Operand.tmp 81) (Operand.tmp 79), type := 0, pos := "ref.go:390", after := #[{ on := 20, ground := Ground.data }, { on := 17, ground := Ground.data }, { on := 19, ground := Ground.chain }, { on := 0, ground := Ground.phase }, { on := 1, ground := Ground.phase }, { on := 2, ground := Ground.phase }, { on := 3, ground := Ground.phase }, { on := 4, ground := Ground.phase }, { on := 5, ground := Ground.phase }, { on := 6, ground := Ground.phase }, { on := 7, ground := Ground.phase }, { on := 8, ground := Ground.phase }, { on := 9, ground := Ground.phase }, { on := 10, ground := Ground.phase }, { on := 11, ground := Ground.phase }, { on := 12, ground := Ground.phase }, { on := 13, ground := Ground.phase }, { on := 14, ground := Ground.phase }, { on := 15, ground := Ground.phase }, { on := 16, ground := Ground.phase }, { on := 17, ground := Ground.phase }, { on := 18, ground := Ground.phase }, { on := 19, ground := Ground.phase }], guard := none }) rfl (fun K hK => ?_) AllReadyH.nil
              go_simp
              refine hK.out _ _ (cell3_far hH hbg _ _ _ _ _ _) (fun hH => ?_)
              clear hK K
              try simp only [Act.put, List.setIfInBounds_toArray, List.set_cons_zero, List.set_cons_succ]
              refine wpAnyH_done (by kernel_rfl) ?_ _
              go_wp2_with fail
              have H1 := Lib.hid (NwI.swap2 (x := ⟨xn, xa, xc, xd, xe, xh, xm⟩) (y := ⟨yn, ya, yc, yd, ye, yh, ym⟩) HIz.out HWY.out HQ.out hKl HX.out HY.out)
              have H2 := Lib.hid (InsR.swapK (x := ⟨xn, xa, xc, xd, xe, xh, xm⟩) (y := ⟨yn, ya, yc, yd, ye, yh, ym⟩) HS.out HQ.out hKl HX.out HY.out hlb)
              go_roundw
              case rel => exact ⟨q, _, rfl, H1, H2⟩
              case measure => have := HQ.out; simp [intOf]; omega
    · have HUP : Hid (UpR cur) := fun i j hi hj hij => HU.out i j hi hj hij (by have := HI.out.f.len; omega)
      have i1 : ¬ (m : Int) < (l.length : Int) := by omega
      have b0 := HI.out.t.cellAt 0 rfl
      have b1 := HI.out.t.cellAt 1 rfl
      have b2 := HI.out.t.cellAt 2 rfl
      have b4 := HI.out.t.cellAt 4 rfl
      have b5 := HI.out.t.cellAt 5 rfl
      have b6 := HI.out.t.cellAt 6 rfl
      have b7 := HI.out.t.cellAt 7 rfl
      have b8 := HI.out.t.cellAt 8 rfl
      have b9 := HI.out.t.cellAt 9 rfl
      have b10 := HI.out.t.cellAt 10 rfl
      have b11 := HI.out.t.cellAt 11 rfl
      have b12 := HI.out.t.cellAt 12 rfl
      have b13 := HI.out.t.cellAt 13 rfl
      have q0 := HI.out.nw.cq 0 _ rfl
      have q1 := HI.out.nw.cq 1 _ rfl
      have q2 := HI.out.nw.cq 2 _ rfl
      have q3 := HI.out.nw.cq 3 _ rfl
      have q4 := HI.out.nw.cq 4 _ rfl
      have q5 := HI.out.nw.cq 5 _ rfl
      have q6 := HI.out.nw.cq 6 _ rfl
      have q7 := HI.out.nw.cq 7 _ rfl
      have q8 := HI.out.nw.cq 8 _ rfl
      have q9 := HI.out.nw.cq 9 _ rfl
      have q10 := HI.out.nw.cq 10 _ rfl
      have q11 := HI.out.nw.cq 11 _ rfl
      have q12 := HI.out.nw.cq 12 _ rfl
      have q13 := HI.out.nw.cq 13 _ rfl
      have hf := HI.out.nw.fq
      clear HU
      go_wp2_with fail
      have h7 := HI.out.nw.allQ (.int .i64 0) (.string sec) (.slice (some ⟨g, 0, none⟩) 1 uc) (.slice va l.length vc) (.slice none 0 0) (.slice none 0 0) (.slice none 0 0) (.slice none 0 0) (.slice none 0 0) (.slice none 0 0) (.int .i64 0) (.int .i64 0) (.int .i64 0) (.int .i64 0)
      have t7 := HI.out.f.allQ HI.out.bs (.int .i64 0) (.string sec) (.slice (some ⟨g, 0, none⟩) 1 uc) (.slice va l.length vc) (.slice none 0 0) (.slice none 0 0) (.slice none 0 0) (.slice none 0 0) (.slice none 0 0) (.slice none 0 0) (.int .i64 0) (.int .i64 0) (.int .i64 0) (.int .i64 0)
      exact ret_new24 (sec := sec) h7 rfl rfl rfl (NewOk.mk t7 h7.below HUP.out HOK.out)
end Go.Proofs.YtinijohmdljieaaGreatDoor

namespace Go.Proofs.YtinijohmdljieaaGreatDoor
open Go.RowKit

def sumR : List Rl → Nat
  | [] => 0
  | r :: l => r.may.length + r.holds.length + sumR l
theorem sumR_take : ∀ (l : List Rl) (k : Nat) (h : k < l.length), sumR (l.take (k + 1)) = sumR (l.take k) + (l[k].may.length + l[k].holds.length)
  | r :: l, 0, _ => by simp [sumR]
  | r :: l, k + 1, h => by
    have := sumR_take l k (by simpa using h)
    simp only [List.take_succ_cons, sumR, this, List.getElem_cons_succ]
    omega
theorem sumR_le : ∀ (l : List Rl) (m : Nat), (∀ r ∈ l, r.may.length ≤ m ∧ r.holds.length ≤ m) → sumR l ≤ l.length * (2 * m)
  | [], m, _ => Nat.zero_le _
  | r :: l, m, h => by
    have h1 := sumR_le l m fun x hx => h x (List.mem_cons_of_mem _ hx)
    obtain ⟨h2, h3⟩ := h r (List.mem_cons_self ..)
    simp only [sumR, List.length_cons, Nat.add_mul]
    omega
theorem sumR_mem : ∀ (l : List Rl) (r : Rl), r ∈ l → r.may.length + r.holds.length ≤ sumR l
  | x :: l, r, h => by
    rcases List.mem_cons.1 h with rfl | h
    · simp only [sumR]; omega
    · have := sumR_mem l r h; simp only [sumR]; omega
def greatR (sec : ByteArray) (l : List Rl) : Bool := decide (40 < l.length) || decide (40000 < sumR l) || decide (3000 < sec.size)
set_option maxHeartbeats 8000000 in
set_option maxRecDepth 100000 in
theorem great24_big (sec : ByteArray) (a : Option Addr) (c : Nat) (n : Nat) (w : World) (hn : 40 < n) :
    Calls Tryz.prog 5 #[.agg #[.int .i64 0, .string sec, .slice none 0 0, .slice a n c, .slice none 0 0, .slice none 0 0, .slice none 0 0, .slice none 0 0, .slice none 0 0, .slice none 0 0, .int .i64 0, .int .i64 0, .int .i64 0, .int .i64 0]] w fun e w' => e = .returned (.bool true) ∧ Below w.heap.size w w' := by
  have d1 : decide (40 < (n : Int)) = true := decide_eq_true (by omega)
  have hb := (Below.refl w.heap.size w).alloc (Nat.le_refl _) (.cells #[.int .i64 0, .string sec, .slice none 0 0, .slice a n c, .slice none 0 0, .slice none 0 0, .slice none 0 0, .slice none 0 0, .slice none 0 0, .slice none 0 0, .int .i64 0, .int .i64 0, .int .i64 0, .int .i64 0] 35)
  go_enter Tryz.func5, Tryz.ntmps5
  go_wp2_with fail
  go_ret
  exact ⟨rfl, hb⟩
def GreatEnd (sec : ByteArray) (w : World) (e : Ending) (w' : World) : Prop := ∃ g, e = .returned (.bool g) ∧ (g = false → sec.size ≤ 3000) ∧ Below w.heap.size w w'
set_option maxHeartbeats 8000000 in
set_option maxRecDepth 100000 in
theorem great24_small (sec : ByteArray) (a : Option Addr) (c b o : Nat) (l : List Rl) (w : World) (hn : l.length ≤ 40) (h : RlsC w.heap.size w a b o l) :
    Calls Tryz.prog 5 #[.agg #[.int .i64 0, .string sec, .slice none 0 0, .slice a l.length c, .slice none 0 0, .slice none 0 0, .slice none 0 0, .slice none 0 0, .slice none 0 0, .slice none 0 0, .int .i64 0, .int .i64 0, .int .i64 0, .int .i64 0]] w (GreatEnd sec w) := by
  have hb := (Below.refl w.heap.size w).alloc (Nat.le_refl _) (.cells #[.int .i64 0, .string sec, .slice none 0 0, .slice a l.length c, .slice none 0 0, .slice none 0 0, .slice none 0 0, .slice none 0 0, .slice none 0 0, .slice none 0 0, .int .i64 0, .int .i64 0, .int .i64 0, .int .i64 0] 35)
  have HB := Lib.hid hb
  have H := Lib.hid h
  have HC1 := Lib.hid (fun (W : World) (hW : Below w.heap.size w W) j (hj : j < l.length) => (hW.cell (p := ⟨b, o + j * 3 + 1, none⟩) (h.at0 (by omega)).2).trans (h.c1 j hj))
  have HC2 := Lib.hid (fun (W : World) (hW : Below w.heap.size w W) j (hj : j < l.length) => (hW.cell (p := ⟨b, o + j * 3 + 2, none⟩) (h.at0 (by omega)).2).trans (h.c2 j hj))
  clear hb h
  have d1 : decide (40 < (l.length : Int)) = false := decide_eq_false (by omega)
  go_enter Tryz.func5, Tryz.ntmps5
  go_wp2_with fail
  have x1 : (w.alloc (.cells #[.int .i64 0, .string sec, .slice none 0 0, .slice a l.length c, .slice none 0 0, .slice none 0 0, .slice none 0 0, .slice none 0 0, .slice none 0 0, .slice none 0 0, .int .i64 0, .int .i64 0, .int .i64 0, .int .i64 0] 35)).cell? ⟨w.heap.size, 1, none⟩ = some (.string sec) := by go_simp
  have x3 : (w.alloc (.cells #[.int .i64 0, .string sec, .slice none 0 0, .slice a l.length c, .slice none 0 0, .slice none 0 0, .slice none 0 0, .slice none 0 0, .slice none 0 0, .slice none 0 0, .int .i64 0, .int .i64 0, .int .i64 0, .int .i64 0] 35)).cell? ⟨w.heap.size, 3, none⟩ = some (.slice a l.length c) := by go_simp
  have x4 : (w.alloc (.cells #[.int .i64 0, .string sec, .slice none 0 0, .slice a l.length c, .slice none 0 0, .slice none 0 0, .slice none 0 0, .slice none 0 0, .slice none 0 0, .slice none 0 0, .int .i64 0, .int .i64 0, .int .i64 0, .int .i64 0] 35)).cell? ⟨w.heap.size, 4, none⟩ = some (.slice none 0 0) := by go_simp
  have x5 : (w.alloc (.cells #[.int .i64 0, .string sec, .slice none 0 0, .slice a l.length c, .slice none 0 0, .slice none 0 0, .slice none 0 0, .slice none 0 0, .slice none 0 0, .slice none 0 0, .int .i64 0, .int .i64 0, .int .i64 0, .int .i64 0] 35)).cell? ⟨w.heap.size, 5, none⟩ = some (.slice none 0 0) := by go_simp
  have x8 : (w.alloc (.cells #[.int .i64 0, .string sec, .slice none 0 0, .slice a l.length c, .slice none 0 0, .slice none 0 0, .slice none 0 0, .slice none 0 0, .slice none 0 0, .slice none 0 0, .int .i64 0, .int .i64 0, .int .i64 0, .int .i64 0] 35)).cell? ⟨w.heap.size, 8, none⟩ = some (.slice none 0 0) := by go_simp
  generalize hW : w.alloc (.cells #[.int .i64 0, .string sec, .slice none 0 0, .slice a l.length c, .slice none 0 0, .slice none 0 0, .slice none 0 0, .slice none 0 0, .slice none 0 0, .slice none 0 0, .int .i64 0, .int .i64 0, .int .i64 0, .int .i64 0] 35) = W at *
  clear hW
  go_loopw [4, 3] (fun i n wr => i = .int .i64 0 ∧ n = .int .i64 0 ∧ wr = W) (fun _ _ _ => 0)
  case atStart => exact ⟨rfl, rfl, rfl⟩
  case round =>
    obtain ⟨rfl, rfl, rfl⟩ := hrel
    go_wp2_with fail
    go_loopw [5, 3] (fun i n wr' => i = .int .i64 0 ∧ n = .int .i64 0 ∧ wr' = wr) (fun _ _ _ => 0)
    case atStart => exact ⟨rfl, rfl, rfl⟩
    case round =>
      obtain ⟨rfl, rfl, rfl⟩ := hrel
      go_wp2_with fail
      go_loopw [8, 3] (fun i n wr'' => i = .int .i64 0 ∧ n = .int .i64 0 ∧ wr'' = wr) (fun _ _ _ => 0)
      case atStart => exact ⟨rfl, rfl, rfl⟩
      case round =>
        obtain ⟨rfl, rfl, rfl⟩ := hrel
        go_wp2_with fail
        go_loopw [9, 3] (fun i n wz => ∃ (k q : Nat) (N : Int), k ≤ l.length ∧ i = .int .i64 k ∧ n = .int .i64 N ∧ wz = wr.drewN q) (fun i _ _ => l.length - (intOf i).toNat)
        case atStart => exact ⟨0, 0, 0, Nat.zero_le _, rfl, rfl, rfl⟩
        case round =>
          obtain ⟨k, q, N, hk, rfl, rfl, rfl⟩ := hrel
          by_cases hlt : k < l.length
          · obtain ⟨rfl, hl1⟩ := H.out.at0 (by omega)
            have y1 := HC1.out wr HB.out k hlt
            have y2 := HC2.out wr HB.out k hlt
            obtain ⟨r, hr⟩ : ∃ r, l[k] = r := ⟨_, rfl⟩
            rw [hr] at y1 y2
            have i1 : (0 : Int) ≤ (k : Int) := by omega
            have i2 : (k : Int) < (l.length : Int) := by omega
            clear hr
            go_wp2_with fail
            go_quiet (fail)
            go_wp2_with fail
            go_roundw
            case rel => exact ⟨k + 1, _, _, by omega, by go_num, rfl, rfl⟩
            case measure => simp [intOf]; omega
          · have hkl : ¬ ((k : Int) < (l.length : Int)) := by omega
            by_cases hN : 40000 < N
            · have d2 : decide (40000 < N) = true := decide_eq_true hN
              go_wp2_with fail
              go_ret
              exact ⟨true, rfl, (fun h => by cases h), below_drewN HB.out _⟩
            · have d2 : decide (40000 < N) = false := decide_eq_false hN
              by_cases hz : 3000 < sec.size
              · have d3 : decide (3000 < (sec.size : Int)) = true := decide_eq_true (by omega)
                go_wp2_with fail
                go_ret
                exact ⟨true, rfl, (fun h => by cases h), below_drewN HB.out _⟩
              · have d3 : decide (3000 < (sec.size : Int)) = false := decide_eq_false (by omega)
                go_wp2_with fail
                go_ret
                exact ⟨false, rfl, fun _ => by omega, below_drewN HB.out _⟩
/-- docketref24.Great, at a state of a secret and roles -/
theorem great24_walk (sec : ByteArray) (v : Value) (l : List Rl) (w : World) (h : Rls w.heap.size w v l) :
    Calls Tryz.prog 5 #[.agg #[.int .i64 0, .string sec, .slice none 0 0, v, .slice none 0 0, .slice none 0 0, .slice none 0 0, .slice none 0 0, .slice none 0 0, .slice none 0 0, .int .i64 0, .int .i64 0, .int .i64 0, .int .i64 0]] w
      fun e w' => ∃ g, e = .returned (.bool g) ∧ (g = false → l.length ≤ 40 ∧ sec.size ≤ 3000) ∧ Below w.heap.size w w' := by
  obtain ⟨a, c, b, o, rfl, -, hC⟩ := h.cells
  by_cases hn : l.length ≤ 40
  · refine (great24_small sec a c b o l w hn hC).mono ?_
    rintro e w' ⟨g, rfl, h1, h2⟩
    exact ⟨g, rfl, fun hg => ⟨hn, h1 hg⟩, h2⟩
  · refine (great24_big sec a c l.length w (by omega)).mono ?_
    rintro e w' ⟨rfl, h2⟩
    exact ⟨true, rfl, (fun hg => by cases hg), h2⟩
end Go.Proofs.YtinijohmdljieaaGreatDoor

namespace Go.Proofs.YtinijohmdljieaaGreatDoor
open Go.RowKit

theorem newE_cases (sec n s p : ByteArray) (rs : List ByteArray) (l : List Rl) :
    ((sec.size = 0 ∨ 64 < sec.size) ∧ newE sec n s p rs l = 3) ∨ (¬ sec.size = 0 ∧ ¬ 64 < sec.size ∧ chkP l ≠ 0 ∧ newE sec n s p rs l = 8) ∨ (¬ sec.size = 0 ∧ ¬ 64 < sec.size ∧ chkP l = 0 ∧ mayB n s p rs = false ∧ newE sec n s p rs l = 8) ∨ (¬ sec.size = 0 ∧ ¬ 64 < sec.size ∧ chkP l = 0 ∧ mayB n s p rs = true ∧ newE sec n s p rs l = 0) := by
  unfold newE
  by_cases h1 : sec.size = 0 ∨ 64 < sec.size
  · exact .inl ⟨h1, if_pos h1⟩
  · rw [if_neg h1]
    have h2 : ¬ sec.size = 0 := fun h => h1 (.inl h)
    have h3 : ¬ 64 < sec.size := fun h => h1 (.inr h)
    by_cases h4 : chkP l = 0
    · cases h5 : mayB n s p rs
      · exact .inr (.inr (.inl ⟨h2, h3, h4, rfl, by simp⟩))
      · exact .inr (.inr (.inr ⟨h2, h3, h4, rfl, by simp [h4]⟩))
    · exact .inr (.inl ⟨h2, h3, h4, by simp [h4]⟩)
def NewNo (x : Int) (w : World) (e : Ending) (w' : World) : Prop := e = .returned (.tuple #[stV ⟨#[]⟩ (.slice none 0 0) (.slice none 0 0), .int .i64 x]) ∧ Below w.heap.size w w'
/-- the two New's at the same arguments -/
theorem new_both (sec n s p : ByteArray) (a : Option Addr) (c : Nat) (rs : List ByteArray) (v : Value) (l : List Rl) (w : World)
    (hn : n.size ≤ maxLen) (hs : s.size ≤ maxLen) (hp : p.size ≤ 1000000) (hr : ∀ x ∈ rs, x.size ≤ maxLen) (hrl : rs.length ≤ 1000000) (hu : Strs w.heap.size w (.slice a rs.length c) rs) (h : Rls w.heap.size w v l) (hl : l.length ≤ maxLen) (hok : ∀ r ∈ l, r.Ok) :
    (∃ x, Calls Tryz.prog 6 #[.string sec, v, .agg #[.string n, .string s, .string p, .slice a rs.length c]] w (NewNo x w) ∧ ∀ w2, Below w.heap.size w w2 → Calls Tryz.prog 7 #[.string sec, v, .agg #[.string n, .string s, .string p, .slice a rs.length c]] w2 (NewNo x w2)) ∨
    (chkP l = 0 ∧ Calls Tryz.prog 6 #[.string sec, v, .agg #[.string n, .string s, .string p, .slice a rs.length c]] w (NewOk sec n s p rs l w) ∧ ∀ w2, Below w.heap.size w w2 → Calls Tryz.prog 7 #[.string sec, v, .agg #[.string n, .string s, .string p, .slice a rs.length c]] w2 (NewOk sec n s p rs l w2)) := by
  have hh := fun (w2 : World) (hb : Below w.heap.size w w2) => (Rls.below h hb).mono hb.size
  have hs2 := fun (w2 : World) (hb : Below w.heap.size w w2) => (hu.below hb).mono hb.size
  rcases newE_cases sec n s p rs l with ⟨h1, -⟩ | ⟨h1, h2, h3, -⟩ | ⟨h1, h2, h3, h4, -⟩ | ⟨h1, h2, h3, h4, -⟩
  · exact .inl ⟨3, stNew_short sec n s p v (.slice a rs.length c) w h1, fun w2 _ => refNew_short sec n s p v (.slice a rs.length c) w2 h1⟩
  · exact .inl ⟨8, stNew_roles sec n s p a c rs v l w h1 h2 h hl h3, fun w2 hb => refNew_roles sec n s p a c rs v l w2 h1 h2 (hh w2 hb) hl h3⟩
  · exact .inl ⟨8, stNew_user sec n s p a c rs v l w h1 h2 hn hs hp hr hrl hu h hl h3 h4, fun w2 hb => refNew_user sec n s p a c rs v l w2 h1 h2 hn hs hp hr hrl (hs2 w2 hb) (hh w2 hb) hl h3 h4⟩
  · exact .inr ⟨h3, stNew_ok sec n s p a c rs v l w h1 h2 hn hs hp hr hrl hu h hl h3 h4 hok, fun w2 hb => refNew_ok sec n s p a c rs v l w2 h1 h2 hn hs hp hr hrl (hs2 w2 hb) (hh w2 hb) hl h3 h4 hok⟩
theorem rlsC_up {w w' : World} {a : Option Addr} {b o : Nat} {l : List Rl} (h : RlsC w.heap.size w a b o l) (hb : Below w.heap.size w w') : RlsC w'.heap.size w' a b o l :=
  ⟨fun h0 => ⟨(h.at0 h0).1, Nat.lt_of_lt_of_le (h.at0 h0).2 hb.size⟩, fun j hj => cellBelow2 hb (h.c0 j hj), fun j hj => cellBelow2 hb (h.c1 j hj), fun j hj => cellBelow2 hb (h.c2 j hj), fun j hj => ((h.hs j hj).below hb).mono hb.size, fun j hj => ((h.ms j hj).below hb).mono hb.size, h.ok⟩
/-- the two first states are the same -/
theorem same_both {l c1 c2 : List Rl} (hk : chkP l = 0) (p1 : (c1.map datR).Perm (l.map datR)) (p2 : (c2.map datR).Perm (l.map datR)) (u1 : UpR c1) (u2 : UpR c2) : SameD c1 c2 ∧ (∀ r ∈ c1, r.holds.length ≤ 1000000 ∧ r.may.length ≤ 1000000) ∧ c1.length = l.length ∧ l.length ≤ 1000 := by
  obtain ⟨k1, k2, k3⟩ := chk_ok hk
  have hnm : ∀ c : List Rl, (c.map datR).map Prod.fst = c.map Rl.name := fun c => by rw [List.map_map]; rfl
  have hn : (c2.map Rl.name).Nodup := by
    rw [← hnm, (p2.map Prod.fst).nodup_iff, hnm]; exact k1
  refine ⟨sameD_map.2 (upR_unique hn (p2.trans p1.symm) u2 u1), fun r hr => ?_, by simpa using p1.length_eq, by omega⟩
  obtain ⟨r0, h0, he⟩ := List.mem_map.1 (p1.subset (List.mem_map_of_mem hr))
  have := k3 r0 h0
  simp only [datR, Prod.mk.injEq] at he
  rw [← he.2.1, ← he.2.2]
  omega
set_option maxHeartbeats 8000000 in
set_option maxRecDepth 100000 in
theorem stateBegins_walk (sec : ByteArray) (v : Value) (l : List Rl) (n s p : ByteArray) (a : Option Addr) (c : Nat) (rs : List ByteArray) (w : World) (h : Rls w.heap.size w v l) (hl : l.length ≤ maxLen)
    (hn : n.size ≤ maxLen) (hs : s.size ≤ maxLen) (hr : ∀ x ∈ rs, x.size ≤ maxLen) (hu : Strs w.heap.size w (.slice a rs.length c) rs) :
    Calls Tryz.prog 3 #[.string sec, v, .agg #[.string n, .string s, .string p, .slice a rs.length c]] w fun e w' => e = .returned (.bool true) ∧ Below w.heap.size w w' := by
  have hok : ∀ r ∈ l, r.Ok := by
    obtain ⟨_, _, _, _, _, _, hC⟩ := h.cells
    intro r hr
    obtain ⟨j, hj, rfl⟩ := List.mem_iff_getElem.1 hr
    exact hC.ok j hj
  have HB0 := Lib.hid ((Below.refl w.heap.size w).alloc (Nat.le_refl _) (.cells #[.string n, .string s, .string p, .slice a rs.length c] 25))
  have HBU := Lib.hid (ownBox w #[.string n, .string s, .string p, .slice a rs.length c] 25 4 w.heap.size (Nat.le_refl _) rfl)
  have HG := Lib.hid (fun W (hb : Below w.heap.size w W) => great24_walk sec v l W ((Rls.below h hb).mono hb.size))
  have HH := Lib.hid (fun W (hb : Below w.heap.size w W) => (⟨(Rls.below h hb).mono hb.size, (hu.below hb).mono hb.size⟩ : Rls W.heap.size W v l ∧ Strs W.heap.size W (.slice a rs.length c) rs))
  have HR := Lib.hid hr
  have HOK := Lib.hid hok
  obtain ⟨a0, c0, b0, o0, rfl, -, -⟩ := h.cells
  clear h hu hr hok
  go_enter Tryz.func3, Tryz.ntmps3
  go_upto_region 1 with fail
  revert HB0 HBU
  generalize w.alloc (.cells #[.string n, .string s, .string p, .slice a rs.length c] 25) = W0
  intro HB0 HBU
  go_wp2_with fail
  refine (HG.out _ HB0.out).mono ?_
  rintro e w1 ⟨g, rfl, hg, hb1⟩
  have HBU1 := Lib.hid (HBU.out.below hb1 (Nat.le_refl _))
  have HB1 := Lib.hid (HB0.out.trans (hb1.mono HB0.out.size))
  clear hb1 HB0 HBU HG
  have u0 := HBU1.out.cellAt 0 rfl
  have u1 := HBU1.out.cellAt 1 rfl
  have u2 := HBU1.out.cellAt 2 rfl
  have u3 := HBU1.out.cellAt 3 rfl
  cases g
  case true =>
    clear hg
    go_wp2_with fail
    go_ret
    exact ⟨rfl, HB1.out⟩
  obtain ⟨hg1, hg2⟩ := hg rfl
  by_cases h1 : 3000 < n.size
  · have d1 : decide (3000 < (n.size : Int)) = true := decide_eq_true (by omega)
    clear hg1 hg2 hg h1
    go_wp2_with fail
    go_ret
    exact ⟨rfl, HB1.out⟩
  have d1 : decide (3000 < (n.size : Int)) = false := decide_eq_false (by omega)
  by_cases h2 : 3000 < s.size
  · have d2 : decide (3000 < (s.size : Int)) = true := decide_eq_true (by omega)
    clear hg1 hg2 hg h1 h2
    go_wp2_with fail
    go_ret
    exact ⟨rfl, HB1.out⟩
  have d2 : decide (3000 < (s.size : Int)) = false := decide_eq_false (by omega)
  by_cases h3 : 3000 < p.size
  · have d3 : decide (3000 < (p.size : Int)) = true := decide_eq_true (by omega)
    clear hg1 hg2 hg h1 h2 h3
    go_wp2_with fail
    go_ret
    exact ⟨rfl, HB1.out⟩
  have d3 : decide (3000 < (p.size : Int)) = false := decide_eq_false (by omega)
  by_cases h4 : 100 < rs.length
  · have d4 : decide (100 < (rs.length : Int)) = true := decide_eq_true (by omega)
    clear hg1 hg2 hg h1 h2 h3 h4
    go_wp2_with fail
    go_ret
    exact ⟨rfl, HB1.out⟩
  have d4 : decide (100 < (rs.length : Int)) = false := decide_eq_false (by omega)
  have hrl : rs.length ≤ 1000000 := by omega
  obtain ⟨hh1, hh2⟩ := HH.out w1 HB1.out
  have hNB := new_both sec n s p a c rs (.slice a0 l.length c0) l w1 hn hs (by omega) HR.out (by omega) hh2 hh1 hl HOK.out
  clear hg1 hg2 hg h1 h2 h3 h4 hh1 hh2 HH HR HOK hl hn hs
  rcases hNB with ⟨x, hN1, hN2⟩ | ⟨hk, hN1, hN2⟩
  · have HN1 := Lib.hid hN1; have HN2 := Lib.hid hN2
    clear hN1 hN2
    go_wp2_with fail
    refine HN1.out.mono ?_
    rintro e w2 ⟨rfl, hb2⟩
    have HBU2 := Lib.hid ((HBU1.out.below hb2 (Nat.le_refl _)).alloc (stO ⟨#[]⟩ (.slice none 0 0) (.slice none 0 0)))
    have HB2 := Lib.hid (hb2.alloc hb2.size (stO ⟨#[]⟩ (.slice none 0 0) (.slice none 0 0)))
    have HX2 := Lib.hid (ownBox w2 #[.int .i64 0, .string ⟨#[]⟩, .slice none 0 0, .slice none 0 0, .slice none 0 0, .slice none 0 0, .slice none 0 0, .slice none 0 0, .slice none 0 0, .slice none 0 0, .int .i64 0, .int .i64 0, .int .i64 0, .int .i64 0] 35 14 w1.heap.size hb2.size rfl)
    clear hb2 HN1 HBU1 u0 u1 u2 u3
    go_upto_region 4 with fail
    revert HBU2 HB2 HX2
    generalize w2.alloc (stO ⟨#[]⟩ (.slice none 0 0) (.slice none 0 0)) = w3
    intro HBU2 HB2 HX2
    have u0 := HBU2.out.cellAt 0 rfl
    have u1 := HBU2.out.cellAt 1 rfl
    have u2 := HBU2.out.cellAt 2 rfl
    have u3 := HBU2.out.cellAt 3 rfl
    go_wp2_with fail
    refine (HN2.out _ HB2.out).mono ?_
    rintro e w4 ⟨rfl, hb4⟩
    have HX4 := Lib.hid ((HX2.out.below hb4 (Nat.le_refl _)).alloc (stO ⟨#[]⟩ (.slice none 0 0) (.slice none 0 0)))
    have HY4 := Lib.hid (ownBox w4 #[.int .i64 0, .string ⟨#[]⟩, .slice none 0 0, .slice none 0 0, .slice none 0 0, .slice none 0 0, .slice none 0 0, .slice none 0 0, .slice none 0 0, .slice none 0 0, .int .i64 0, .int .i64 0, .int .i64 0, .int .i64 0] 35 14 w3.heap.size hb4.size rfl)
    have HB4 := Lib.hid ((HB1.out.trans ((HB2.out.trans (hb4.mono HB2.out.size)).mono HB1.out.size)).alloc (Nat.le_trans HB1.out.size (Nat.le_trans HB2.out.size hb4.size)) (stO ⟨#[]⟩ (.slice none 0 0) (.slice none 0 0)))
    clear hb4 HN2 HBU2 HB2 HX2 HB1 u0 u1 u2 u3
    go_upto_region 5 with fail
    revert HX4 HY4 HB4
    generalize w4.alloc (stO ⟨#[]⟩ (.slice none 0 0) (.slice none 0 0)) = w5
    intro HX4 HY4 HB4
    have x0 := HX4.out.cellAt 0 rfl
    have x1 := HX4.out.cellAt 1 rfl
    have x2 := HX4.out.cellAt 2 rfl
    have x3 := HX4.out.cellAt 3 rfl
    have x4 := HX4.out.cellAt 4 rfl
    have x5 := HX4.out.cellAt 5 rfl
    have x6 := HX4.out.cellAt 6 rfl
    have x7 := HX4.out.cellAt 7 rfl
    have x8 := HX4.out.cellAt 8 rfl
    have x9 := HX4.out.cellAt 9 rfl
    have x10 := HX4.out.cellAt 10 rfl
    have x11 := HX4.out.cellAt 11 rfl
    have x12 := HX4.out.cellAt 12 rfl
    have x13 := HX4.out.cellAt 13 rfl
    have y0 := HY4.out.cellAt 0 rfl
    have y1 := HY4.out.cellAt 1 rfl
    have y2 := HY4.out.cellAt 2 rfl
    have y3 := HY4.out.cellAt 3 rfl
    have y4 := HY4.out.cellAt 4 rfl
    have y5 := HY4.out.cellAt 5 rfl
    have y6 := HY4.out.cellAt 6 rfl
    have y7 := HY4.out.cellAt 7 rfl
    have y8 := HY4.out.cellAt 8 rfl
    have y9 := HY4.out.cellAt 9 rfl
    have y10 := HY4.out.cellAt 10 rfl
    have y11 := HY4.out.cellAt 11 rfl
    have y12 := HY4.out.cellAt 12 rfl
    have y13 := HY4.out.cellAt 13 rfl
    go_wp2_with fail
    refine (refSame24_nil w5).mono ?_
    rintro e w6 ⟨rfl, hb6⟩
    go_wp2_with fail
    go_ret
    exact ⟨rfl, HB4.out.trans (hb6.mono HB4.out.size)⟩
  · have HN1 := Lib.hid hN1; have HN2 := Lib.hid hN2; have HK := Lib.hid hk
    clear hN1 hN2 hk
    go_wp2_with fail
    refine HN1.out.mono ?_
    rintro e w2 ⟨g1, uc1, ua1, uv1, va1, vc1, gr1, cur1, rfl, hb2, hu1, hs1, hr1, hp1, hup1⟩
    have HBU2 := Lib.hid ((HBU1.out.below hb2 (Nat.le_refl _)).alloc (stO sec (.slice (some ⟨g1, 0, none⟩) 1 uc1) (.slice va1 l.length vc1)))
    have HB2 := Lib.hid (hb2.alloc hb2.size (stO sec (.slice (some ⟨g1, 0, none⟩) 1 uc1) (.slice va1 l.length vc1)))
    have HX2 := Lib.hid (ownBox w2 #[.int .i64 0, .string sec, .slice (some ⟨g1, 0, none⟩) 1 uc1, .slice va1 l.length vc1, .slice none 0 0, .slice none 0 0, .slice none 0 0, .slice none 0 0, .slice none 0 0, .slice none 0 0, .int .i64 0, .int .i64 0, .int .i64 0, .int .i64 0] 35 14 w1.heap.size hb2.size rfl)
    have HF1 := Lib.hid (fun W (hb : Below w2.heap.size w2 W) => (⟨hu1.below hb, (hs1.below hb).mono hb.size, rlsC_up hr1 hb⟩ : UsrC W g1 n s p (.slice ua1 rs.length uv1) ∧ Strs W.heap.size W (.slice ua1 rs.length uv1) rs ∧ RlsC W.heap.size W va1 gr1 0 cur1))
    have HA2 := Lib.hid ((Below.refl w2.heap.size w2).alloc (Nat.le_refl _) (stO sec (.slice (some ⟨g1, 0, none⟩) 1 uc1) (.slice va1 l.length vc1)))
    have HP1 := Lib.hid hp1; have HUP1 := Lib.hid hup1
    clear hb2 hu1 hs1 hr1 hp1 hup1 HN1 HBU1 u0 u1 u2 u3
    go_upto_region 4 with fail
    revert HBU2 HB2 HX2 HA2
    generalize w2.alloc (stO sec (.slice (some ⟨g1, 0, none⟩) 1 uc1) (.slice va1 l.length vc1)) = w3
    intro HBU2 HB2 HX2 HA2
    have u0 := HBU2.out.cellAt 0 rfl
    have u1 := HBU2.out.cellAt 1 rfl
    have u2 := HBU2.out.cellAt 2 rfl
    have u3 := HBU2.out.cellAt 3 rfl
    go_wp2_with fail
    refine (HN2.out _ HB2.out).mono ?_
    rintro e w4 ⟨g2, uc2, ua2, uv2, va2, vc2, gr2, cur2, rfl, hb4, hu2, hs2, hr2, hp2, hup2⟩
    have hb5 := (Below.refl w4.heap.size w4).alloc (Nat.le_refl _) (stO sec (.slice (some ⟨g2, 0, none⟩) 1 uc2) (.slice va2 l.length vc2))
    have HX4 := Lib.hid ((HX2.out.below hb4 (Nat.le_refl _)).alloc (stO sec (.slice (some ⟨g2, 0, none⟩) 1 uc2) (.slice va2 l.length vc2)))
    have HY4 := Lib.hid (ownBox w4 #[.int .i64 0, .string sec, .slice (some ⟨g2, 0, none⟩) 1 uc2, .slice va2 l.length vc2, .slice none 0 0, .slice none 0 0, .slice none 0 0, .slice none 0 0, .slice none 0 0, .slice none 0 0, .int .i64 0, .int .i64 0, .int .i64 0, .int .i64 0] 35 14 w3.heap.size hb4.size rfl)
    have HB4 := Lib.hid ((HB1.out.trans ((HB2.out.trans (hb4.mono HB2.out.size)).mono HB1.out.size)).alloc (Nat.le_trans HB1.out.size (Nat.le_trans HB2.out.size hb4.size)) (stO sec (.slice (some ⟨g2, 0, none⟩) 1 uc2) (.slice va2 l.length vc2)))
    obtain ⟨q1, q2, q3, q4⟩ := same_both HK.out HP1.out hp2 HUP1.out hup2
    obtain ⟨f1, f2, f3⟩ := HF1.out _ ((HA2.out.trans (hb4.mono HA2.out.size)).trans (hb5.mono (Nat.le_trans HA2.out.size hb4.size)))
    have hSM := refSame24 sec n s p g1 uc1 g2 uc2 ua1 ua2 uv1 uv2 rs va1 va2 vc1 vc2 gr1 0 gr2 0 cur1 cur2 _ f1 (hu2.below hb5) f2 ((hs2.below hb5).mono hb5.size) hrl f3 (rlsC_up hr2 hb5) q1 q2 (by omega)
    rw [q3] at hSM
    have HSM := Lib.hid hSM
    clear hSM f1 f2 f3 q1 q2 q3 q4 hb5 hb4 hu2 hs2 hr2 hp2 hup2 HF1 HP1 HUP1 HA2 HN2 HBU2 HB2 HX2 HB1 u0 u1 u2 u3
    go_upto_region 5 with fail
    revert HX4 HY4 HB4 HSM
    generalize w4.alloc (stO sec (.slice (some ⟨g2, 0, none⟩) 1 uc2) (.slice va2 l.length vc2)) = w5
    intro HX4 HY4 HB4 HSM
    have x0 := HX4.out.cellAt 0 rfl
    have x1 := HX4.out.cellAt 1 rfl
    have x2 := HX4.out.cellAt 2 rfl
    have x3 := HX4.out.cellAt 3 rfl
    have x4 := HX4.out.cellAt 4 rfl
    have x5 := HX4.out.cellAt 5 rfl
    have x6 := HX4.out.cellAt 6 rfl
    have x7 := HX4.out.cellAt 7 rfl
    have x8 := HX4.out.cellAt 8 rfl
    have x9 := HX4.out.cellAt 9 rfl
    have x10 := HX4.out.cellAt 10 rfl
    have x11 := HX4.out.cellAt 11 rfl
    have x12 := HX4.out.cellAt 12 rfl
    have x13 := HX4.out.cellAt 13 rfl
    have y0 := HY4.out.cellAt 0 rfl
    have y1 := HY4.out.cellAt 1 rfl
    have y2 := HY4.out.cellAt 2 rfl
    have y3 := HY4.out.cellAt 3 rfl
    have y4 := HY4.out.cellAt 4 rfl
    have y5 := HY4.out.cellAt 5 rfl
    have y6 := HY4.out.cellAt 6 rfl
    have y7 := HY4.out.cellAt 7 rfl
    have y8 := HY4.out.cellAt 8 rfl
    have y9 := HY4.out.cellAt 9 rfl
    have y10 := HY4.out.cellAt 10 rfl
    have y11 := HY4.out.cellAt 11 rfl
    have y12 := HY4.out.cellAt 12 rfl
    have y13 := HY4.out.cellAt 13 rfl
    go_wp2_with fail
    refine HSM.out.mono ?_
    rintro e w6 ⟨rfl, hb6⟩
    go_wp2_with fail
    go_ret
    exact ⟨rfl, HB4.out.trans (hb6.mono HB4.out.size)⟩
end Go.Proofs.YtinijohmdljieaaGreatDoor
