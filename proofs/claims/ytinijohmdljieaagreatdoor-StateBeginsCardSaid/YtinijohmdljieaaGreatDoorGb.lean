/- package state: user; Twin of the first state. docketref24: words, texts. docketref22, 23, 15: Same at nil. -/
import Derived.Test.YtinijohmdljieaaGreatDoorFits
import Derived.Test.YtinijohmdljieaaGreatDoorGa
import Derived.Deep.RegionHeld3
import Derived.Deep.DeepCutAuto
import Derived.Test.YtinijohmdljieaaGreatDoorStSame
import Derived.Test.YtinijohmdljieaaGreatDoorCloneStrs
namespace Go.Proofs.YtinijohmdljieaaGreatDoor
open Go.RowKit

theorem fits_x (n s p : ByteArray) (rs : List ByteArray) : fitsE n s p rs ⟨#[120]⟩ = if mayB n s p rs then 0 else 8 := by
  unfold fitsE
  cases mayB n s p rs <;> rfl
set_option maxHeartbeats 4000000 in
set_option maxRecDepth 100000 in
theorem user_walk (n s p : ByteArray) (a : Option Addr) (c : Nat) (rs : List ByteArray) (w : World) (hn : n.size ≤ maxLen) (hs : s.size ≤ maxLen) (hp : p.size ≤ 1000000) (hr : ∀ x ∈ rs, x.size ≤ maxLen) (hl : rs.length ≤ 1000000)
    (h : Strs w.heap.size w (.slice a rs.length c) rs) :
    Calls Tryz.prog 23 #[.agg #[.string n, .string s, .string p, .slice a rs.length c]] w fun e w' => e = .returned (.bool (mayB n s p rs)) ∧ Below w.heap.size w w' := by
  have hb0 : Below w.heap.size w (w.alloc (.cells #[.string n, .string s, .string p, .slice a rs.length c] 25)) := (Below.refl _ _).alloc (Nat.le_refl _) _
  have HF := Lib.hid (Fits_walk n s p a c rs ⟨#[120]⟩ (w.alloc (.cells #[.string n, .string s, .string p, .slice a rs.length c] 25)) hn hs hp hr hl (by decide) (Row.mono (h.below hb0) hb0.size))
  rw [fits_x] at HF
  have HB0 := Lib.hid hb0
  obtain ⟨m, hm⟩ : ∃ m, mayB n s p rs = m := ⟨_, rfl⟩
  rw [hm] at HF ⊢
  generalize fitsB n s p rs ⟨#[120]⟩ = fb at HF
  clear h hb0 hm hr
  cases m
  all_goals
    go_enter Tryz.func23, Tryz.ntmps23
    go_wp2_with fail
    refine HF.out.mono ?_
    rintro e w1 ⟨rfl, hb1⟩
    have HB1 := Lib.hid (HB0.out.trans (hb1.mono HB0.out.size))
    clear hb1 HF
    go_wp2_with fail
    go_ret
    exact ⟨rfl, HB1.out⟩
/-- the cells of a state that has a secret, users and roles alone -/
def stC (sec : ByteArray) (us rs : Value) : List Value := [.int .i64 0, .string sec, us, rs, .slice none 0 0, .slice none 0 0, .slice none 0 0, .slice none 0 0, .slice none 0 0, .slice none 0 0, .int .i64 0, .int .i64 0, .int .i64 0, .int .i64 0]
abbrev stV (sec : ByteArray) (us rs : Value) : Value := .agg #[.int .i64 0, .string sec, us, rs, .slice none 0 0, .slice none 0 0, .slice none 0 0, .slice none 0 0, .slice none 0 0, .slice none 0 0, .int .i64 0, .int .i64 0, .int .i64 0, .int .i64 0]
abbrev stO (sec : ByteArray) (us rs : Value) : Obj := .cells #[.int .i64 0, .string sec, us, rs, .slice none 0 0, .slice none 0 0, .slice none 0 0, .slice none 0 0, .slice none 0 0, .slice none 0 0, .int .i64 0, .int .i64 0, .int .i64 0, .int .i64 0] 35
/-- the boxes of Twin: the state under way at w's end, the result behind it -/
structure StW (w W : World) (x y : List Value) : Prop where
  p : Own W w.heap.size 35 14 (some ⟨w.heap.size, 0, none⟩) 1 1 x
  q : Own W w.heap.size 35 14 (some ⟨w.heap.size + 1, 0, none⟩) 1 1 y
  below : Below w.heap.size w W
theorem StW.lt {w W : World} {x y : List Value} (h : StW w W x y) : w.heap.size + 1 < W.heap.size := (h.q.lt rfl).2
theorem StW.call {w W W' : World} {x y : List Value} (h : StW w W x y) (hb : Below W.heap.size W W') : StW w W' x y :=
  ⟨h.p.below hb (Nat.le_refl _), h.q.below hb (Nat.le_refl _), h.below.trans (hb.mono h.below.size)⟩
theorem StW.setP {w W : World} {x y : List Value} (h : StW w W x y) (j : Nat) (v : Value) : StW w (W.setCell ⟨w.heap.size, j, none⟩ v) (x.set j v) y :=
  ⟨h.p.set v, h.q.setCell (a := ⟨w.heap.size, j, none⟩) (fun g hg => by cases hg; show _ ≠ w.heap.size; omega) v, h.below.setCell (p := ⟨w.heap.size, j, none⟩) (Nat.le_refl _) v⟩
theorem StW.cp {w W : World} {x y : List Value} (h : StW w W x y) (j : Nat) (v : Value) (hj : x[j]? = some v) : W.cell? ⟨w.heap.size, j, none⟩ = some v := by
  obtain ⟨g, he, -, -, hc, -⟩ := h.p.cell (by omega)
  cases he
  exact hc j v hj
theorem StW.fp {w W : World} {x y : List Value} (h : StW w W x y) (j : Nat) : W.frozen? ⟨w.heap.size, j, none⟩ = false := by
  obtain ⟨g, he, -, -, -, hf⟩ := h.p.cell (by omega)
  cases he
  exact hf j
theorem StW.cq {w W : World} {x y : List Value} (h : StW w W x y) (j : Nat) (v : Value) (hj : y[j]? = some v) : W.cell? ⟨w.heap.size + 1, j, none⟩ = some v := by
  obtain ⟨g, he, -, -, hc, -⟩ := h.q.cell (by omega)
  cases he
  exact hc j v hj
theorem StW.fq {w W : World} {x y : List Value} (h : StW w W x y) (j : Nat) : W.frozen? ⟨w.heap.size + 1, j, none⟩ = false := by
  obtain ⟨g, he, -, -, -, hf⟩ := h.q.cell (by omega)
  cases he
  exact hf j
theorem ownBox (w : World) (cur : Array Value) (E k base : Nat) (hb : base ≤ w.heap.size) (hs : cur.size = k) : Own (w.alloc (.cells cur E)) base E k (some ⟨w.heap.size, 0, none⟩) 1 1 cur.toList :=
  ⟨⟨by simp [hs], .inr ⟨w.heap.size, 1, cur, rfl, hb, heap_alloc_new w _, Nat.le_refl _, by unfold maxLen; omega, by omega, by rw [List.take_of_length_le (by simp [hs])]⟩⟩⟩
theorem StW.start (w : World) (sec : ByteArray) (us rs : Value) : StW w ((w.alloc (stO sec us rs)).alloc (stO ⟨#[]⟩ (.slice none 0 0) (.slice none 0 0))) (stC sec us rs) (stC ⟨#[]⟩ (.slice none 0 0) (.slice none 0 0)) := by
  refine ⟨(ownBox w _ _ 14 _ (Nat.le_refl _) rfl).alloc _, ?_, ((Below.refl _ _).alloc (Nat.le_refl _) _).alloc (by simp) _⟩
  have h := ownBox (w.alloc (stO sec us rs)) #[.int .i64 0, .string ⟨#[]⟩, .slice none 0 0, .slice none 0 0, .slice none 0 0, .slice none 0 0, .slice none 0 0, .slice none 0 0, .slice none 0 0, .slice none 0 0, .int .i64 0, .int .i64 0, .int .i64 0, .int .i64 0] 35 14 w.heap.size (by simp) rfl
  have hz : (w.alloc (stO sec us rs)).heap.size = w.heap.size + 1 := by simp
  rw [hz] at h
  exact h
/-- Twin under way: the user's list and the roles are new -/
structure TwS (n s p : ByteArray) (rs : List ByteArray) (l : List Rl) (w W : World) (x y : List Value) (g uc : Nat) (ua : Option Addr) (uv : Nat) (va : Option Addr) (vc : Nat) (lm : List Rl) : Prop where
  st : StW w W x y
  us : Own W (w.heap.size + 2) 25 4 (some ⟨g, 0, none⟩) uc 1 [.string n, .string s, .string p, .slice ua rs.length uv]
  ur : Strs W.heap.size W (.slice ua rs.length uv) rs
  un : ∀ b o, ua = some ⟨b, o, none⟩ → w.heap.size + 2 ≤ b
  ro : Own W (w.heap.size + 2) 81 3 va vc l.length (flatR lm)
  sd : SameD l lm
  ne : ∀ gr, va = some ⟨gr, 0, none⟩ → g < gr ∧ (0 < rs.length → ∀ b o, ua = some ⟨b, o, none⟩ → b < gr)
  ol : ∀ g, va = some ⟨g, 0, none⟩ → ∀ j (h : j < lm.length), OwnL (w.heap.size + 2) g W lm[j]
theorem Own.far {W : World} {base vc n k : Nat} {E : TypeId} {va : Option Addr} {cells : List Value} (h : Own W base E k va vc n cells) {a : Addr} (ha : a.block < base) (u : Value) : Own (W.setCell a u) base E k va vc n cells :=
  h.setCell (fun g hg => by have := (h.lt hg).1; omega) u
theorem TwS.setP {n s p : ByteArray} {rs : List ByteArray} {l lm : List Rl} {w W : World} {x y : List Value} {g uc uv vc : Nat} {ua va : Option Addr} (h : TwS n s p rs l w W x y g uc ua uv va vc lm) (j : Nat) (v : Value) : TwS n s p rs l w (W.setCell ⟨w.heap.size, j, none⟩ v) (x.set j v) y g uc ua uv va vc lm := by
  have hz : (W.setCell ⟨w.heap.size, j, none⟩ v).heap.size = W.heap.size := by simp [World.setCell]
  have hk : ∀ k, k < W.heap.size → k ≠ w.heap.size → (W.setCell ⟨w.heap.size, j, none⟩ v).heap[k]? = W.heap[k]? := fun k _ hne => Below.heap_setCell W ⟨w.heap.size, j, none⟩ v k hne
  have hle : W.heap.size ≤ (W.setCell ⟨w.heap.size, j, none⟩ v).heap.size := by rw [hz]; exact Nat.le_refl _
  refine ⟨h.st.setP j v, h.us.far (by show w.heap.size < _; omega) v, strs_kept h.ur (fun b o he => by have := h.un b o he; omega) hk hle, h.un, h.ro.far (by show w.heap.size < _; omega) v, h.sd, h.ne, fun g hg i hi => ?_⟩
  obtain ⟨h1, h2, h3, h4⟩ := h.ol g hg i hi
  exact ⟨strs_kept h1 (fun b o he => by have := (h3 b o he).1; omega) hk hle, strs_kept h2 (fun b o he => by have := (h4 b o he).1; omega) hk hle, h3, h4⟩
/-- a store of what is there already -/
theorem TwS.same {n s p : ByteArray} {rs : List ByteArray} {l lm : List Rl} {w W : World} {x y : List Value} {g uc uv vc : Nat} {ua va : Option Addr} (h : TwS n s p rs l w W x y g uc ua uv va vc lm) (j : Nat) (v : Value) (hj : x.set j v = x) : TwS n s p rs l w (W.setCell ⟨w.heap.size, j, none⟩ v) x y g uc ua uv va vc lm := by
  have := h.setP j v
  rwa [hj] at this
theorem strs_lt {w : World} {B : Nat} {a : Option Addr} {n c : Nat} {xs : List ByteArray} (h : Strs B w (.slice a n c) xs) (h0 : 0 < xs.length) {b o : Nat} (he : a = some ⟨b, o, none⟩) : b < B := by
  obtain ⟨a', c', b', off, hv, hle, ha, hc⟩ := h.ex
  injection hv with e1 e2 e3
  subst e1
  obtain ⟨h1, h2⟩ := ha h0
  rw [he] at h1
  cases h1
  exact h2
theorem TwS.start {n s p : ByteArray} {rs : List ByteArray} {l lm : List Rl} {w W W' : World} {x y : List Value} {g uc uv vc : Nat} {ua va : Option Addr} (h : StW w W x y) (hb : Below W.heap.size W W')
    (h1 : Own W (w.heap.size + 2) 25 4 (some ⟨g, 0, none⟩) uc 1 [.string n, .string s, .string p, .slice ua rs.length uv]) (h2 : Strs W.heap.size W (.slice ua rs.length uv) rs) (h3 : ∀ b o, ua = some ⟨b, o, none⟩ → w.heap.size + 2 ≤ b)
    (h4 : Own W' W.heap.size 81 3 va vc l.length (flatR lm)) (h5 : SameD l lm) (h6 : ∀ g, va = some ⟨g, 0, none⟩ → ∀ j (h : j < lm.length), OwnL W.heap.size g W' lm[j]) : TwS n s p rs l w W' x y g uc ua uv va vc lm := by
  have hz := h.lt
  refine ⟨h.call hb, h1.below hb (Nat.le_refl _), (h2.below hb).mono hb.size, h3, h4.base_le (by omega), h5, fun gr hgr => ⟨Nat.lt_of_lt_of_le (h1.lt rfl).2 (h4.lt hgr).1, fun h0 b o he => Nat.lt_of_lt_of_le (strs_lt h2 h0 he) (h4.lt hgr).1⟩, fun g hg j hj => ?_⟩
  obtain ⟨q1, q2, q3, q4⟩ := h6 g hg j hj
  exact ⟨q1, q2, fun b o he => ⟨by have := (q3 b o he).1; omega, (q3 b o he).2⟩, fun b o he => ⟨by have := (q4 b o he).1; omega, (q4 b o he).2⟩⟩
theorem TwS.call {n s p : ByteArray} {rs : List ByteArray} {l lm : List Rl} {w W W' : World} {x y : List Value} {g uc uv vc : Nat} {ua va : Option Addr} (h : TwS n s p rs l w W x y g uc ua uv va vc lm) (hb : Below W.heap.size W W') : TwS n s p rs l w W' x y g uc ua uv va vc lm :=
  ⟨h.st.call hb, h.us.below hb (Nat.le_refl _), (h.ur.below hb).mono hb.size, h.un, h.ro.below hb (Nat.le_refl _), h.sd, h.ne, fun g hg j hj => by
    obtain ⟨h1, h2, h3, h4⟩ := h.ol g hg j hj
    exact ⟨(h1.below hb).mono hb.size, (h2.below hb).mono hb.size, h3, h4⟩⟩
theorem TwS.sameD {n s p : ByteArray} {rs : List ByteArray} {l lm : List Rl} {w W : World} {x y : List Value} {g uc uv vc : Nat} {ua va : Option Addr} (h : TwS n s p rs l w W.drew x y g uc ua uv va vc lm) (j : Nat) (v : Value) (hj : x.set j v = x) : TwS n s p rs l w (W.setCell ⟨w.heap.size, j, none⟩ v).drew x y g uc ua uv va vc lm := h.same j v hj
theorem TwS.pack {n s p : ByteArray} {rs : List ByteArray} {l lm : List Rl} {w W : World} {sec : ByteArray} {us ro : Value} {y : List Value} {g uc uv vc : Nat} {ua va : Option Addr} (h : TwS n s p rs l w W (stC sec us ro) y g uc ua uv va vc lm) : TwS n s p rs l w W (stC sec us ro) y g uc ua uv va vc lm ∧
    W.cell? ⟨w.heap.size, 6, none⟩ = some (.slice none 0 0) ∧ W.cell? ⟨w.heap.size, 7, none⟩ = some (.slice none 0 0) ∧ W.cell? ⟨w.heap.size, 8, none⟩ = some (.slice none 0 0) ∧ W.cell? ⟨w.heap.size, 9, none⟩ = some (.slice none 0 0) ∧
    W.frozen? ⟨w.heap.size, 6, none⟩ = false ∧ W.frozen? ⟨w.heap.size, 7, none⟩ = false ∧ W.frozen? ⟨w.heap.size, 8, none⟩ = false ∧ W.frozen? ⟨w.heap.size, 9, none⟩ = false :=
  ⟨h, h.st.cp 6 _ rfl, h.st.cp 7 _ rfl, h.st.cp 8 _ rfl, h.st.cp 9 _ rfl, h.st.fp _, h.st.fp _, h.st.fp _, h.st.fp _⟩
theorem StW.setQ {w W : World} {x y : List Value} (h : StW w W x y) (j : Nat) (v : Value) : StW w (W.setCell ⟨w.heap.size + 1, j, none⟩ v) x (y.set j v) :=
  ⟨h.p.setCell (a := ⟨w.heap.size + 1, j, none⟩) (fun g hg => by cases hg; show _ ≠ w.heap.size + 1; omega) v, h.q.set v, h.below.setCell (p := ⟨w.heap.size + 1, j, none⟩) (Nat.le_succ _) v⟩
theorem TwS.setQ {n s p : ByteArray} {rs : List ByteArray} {l lm : List Rl} {w W : World} {x y : List Value} {g uc uv vc : Nat} {ua va : Option Addr} (h : TwS n s p rs l w W x y g uc ua uv va vc lm) (j : Nat) (v : Value) : TwS n s p rs l w (W.setCell ⟨w.heap.size + 1, j, none⟩ v) x (y.set j v) g uc ua uv va vc lm := by
  have hz : (W.setCell ⟨w.heap.size + 1, j, none⟩ v).heap.size = W.heap.size := by simp [World.setCell]
  have hk : ∀ k, k < W.heap.size → k ≠ w.heap.size + 1 → (W.setCell ⟨w.heap.size + 1, j, none⟩ v).heap[k]? = W.heap[k]? := fun k _ hne => Below.heap_setCell W ⟨w.heap.size + 1, j, none⟩ v k hne
  have hle : W.heap.size ≤ (W.setCell ⟨w.heap.size + 1, j, none⟩ v).heap.size := by rw [hz]; exact Nat.le_refl _
  refine ⟨h.st.setQ j v, h.us.far (by show w.heap.size + 1 < _; omega) v, strs_kept h.ur (fun b o he => by have := h.un b o he; omega) hk hle, h.un, h.ro.far (by show w.heap.size + 1 < _; omega) v, h.sd, h.ne, fun g hg i hi => ?_⟩
  obtain ⟨h1, h2, h3, h4⟩ := h.ol g hg i hi
  exact ⟨strs_kept h1 (fun b o he => by have := (h3 b o he).1; omega) hk hle, strs_kept h2 (fun b o he => by have := (h4 b o he).1; omega) hk hle, h3, h4⟩
theorem TwS.all {n s p : ByteArray} {rs : List ByteArray} {l lm : List Rl} {w W : World} {x : List Value} {sec : ByteArray} {us ro : Value} {g uc uv vc : Nat} {ua va : Option Addr} (h : TwS n s p rs l w W x (stC sec us ro) g uc ua uv va vc lm) (v0 v1 v2 v3 v4 v5 v6 v7 v8 v9 v10 v11 v12 v13 : Value) :
    TwS n s p rs l w ((((((((((((((W.setCell ⟨w.heap.size + 1, 0, none⟩ v0).setCell ⟨w.heap.size + 1, 1, none⟩ v1).setCell ⟨w.heap.size + 1, 2, none⟩ v2).setCell ⟨w.heap.size + 1, 3, none⟩ v3).setCell ⟨w.heap.size + 1, 4, none⟩ v4).setCell ⟨w.heap.size + 1, 5, none⟩ v5).setCell ⟨w.heap.size + 1, 6, none⟩ v6).setCell ⟨w.heap.size + 1, 7, none⟩ v7).setCell ⟨w.heap.size + 1, 8, none⟩ v8).setCell ⟨w.heap.size + 1, 9, none⟩ v9).setCell ⟨w.heap.size + 1, 10, none⟩ v10).setCell ⟨w.heap.size + 1, 11, none⟩ v11).setCell ⟨w.heap.size + 1, 12, none⟩ v12).setCell ⟨w.heap.size + 1, 13, none⟩ v13) x [v0, v1, v2, v3, v4, v5, v6, v7, v8, v9, v10, v11, v12, v13] g uc ua uv va vc lm := ((((((((((((((h.setQ 0 v0).setQ 1 v1).setQ 2 v2).setQ 3 v3).setQ 4 v4).setQ 5 v5).setQ 6 v6).setQ 7 v7).setQ 8 v8).setQ 9 v9).setQ 10 v10).setQ 11 v11).setQ 12 v12).setQ 13 v13)
theorem ret_twin {w W : World} {a : Act} {x : List Value} {sec : ByteArray} {us ro : Value} {R : Ending → World → Prop} (h : StW w W x (stC sec us ro)) (hp : a.tmps.getD 2 undef = .pointer (some ⟨w.heap.size + 1, 0, none⟩)) (hd : a.defers = [])
    (hR : R (.returned (stV sec us ro)) W) : bodyPost Tryz.prog Tryz.f24 R .ret a W := by
  refine bodyPost_ret ?_ hd hR
  have hp' : a.tmps[2]?.getD undef = .pointer (some ⟨w.heap.size + 1, 0, none⟩) := by simpa using hp
  simp [results, Tryz.results24, hp', go_sem, h.cq 0 _ rfl, h.cq 1 _ rfl, h.cq 2 _ rfl, h.cq 3 _ rfl, h.cq 4 _ rfl, h.cq 5 _ rfl, h.cq 6 _ rfl, h.cq 7 _ rfl, h.cq 8 _ rfl, h.cq 9 _ rfl, h.cq 10 _ rfl, h.cq 11 _ rfl, h.cq 12 _ rfl, h.cq 13 _ rfl]
/-- how Twin ends, at a state of one user -/
def TwinEnd (sec n s p : ByteArray) (rs : List ByteArray) (l : List Rl) (w : World) (e : Ending) (w' : World) : Prop :=
  ∃ (g uc : Nat) (ua : Option Addr) (uv : Nat) (va : Option Addr) (vc : Nat) (lm : List Rl), e = .returned (stV sec (.slice (some ⟨g, 0, none⟩) 1 uc) (.slice va l.length vc)) ∧ Below w.heap.size w w' ∧
    Own w' w.heap.size 25 4 (some ⟨g, 0, none⟩) uc 1 [.string n, .string s, .string p, .slice ua rs.length uv] ∧ Strs w'.heap.size w' (.slice ua rs.length uv) rs ∧
    Own w' w.heap.size 81 3 va vc l.length (flatR lm) ∧ SameD l lm ∧ (∀ gr, va = some ⟨gr, 0, none⟩ → g < gr ∧ (0 < rs.length → ∀ b o, ua = some ⟨b, o, none⟩ → b < gr)) ∧ (∀ g, va = some ⟨g, 0, none⟩ → ∀ j (h : j < lm.length), OwnL w.heap.size g w' lm[j]) ∧ ∀ b o, ua = some ⟨b, o, none⟩ → w.heap.size ≤ b
set_option maxHeartbeats 8000000 in
set_option maxRecDepth 100000 in
theorem twin_walk (sec n s p : ByteArray) (b : Nat) (ua : Option Addr) (uc : Nat) (rs : List ByteArray) (v : Value) (l : List Rl) (w : World)
    (hu : Arr w b 25 [.string n, .string s, .string p, .slice ua rs.length uc]) (hs : Strs w.heap.size w (.slice ua rs.length uc) rs) (hrl : rs.length ≤ 1048576)
    (hl : l.length ≤ 1000) (hn : ∀ r ∈ l, r.holds.length ≤ 1048576 ∧ r.may.length ≤ 1048576) (h : Rls w.heap.size w v l) :
    Calls Tryz.prog 24 #[stV sec (.slice (some ⟨b, 0, none⟩) 1 1) v] w (TwinEnd sec n s p rs l w) := by
  have HS0 := Lib.hid (StW.start w sec (.slice (some ⟨b, 0, none⟩) 1 1) v)
  have HU := Lib.hid (fun W (hb : Below w.heap.size w W) => eachUser b n s p ua uc rs W (hu.below hb hu.lt) ((hs.below hb).mono hb.size) hrl)
  have HR := Lib.hid (fun W (hb : Below w.heap.size w W) => eachRoles v l W hl hn ((h.below hb).mono hb.size))
  obtain ⟨a, c, b', o, rfl, -, -⟩ := h.cells
  clear hu hs hrl hl hn h
  unfold stV
  go_enter Tryz.func24, Tryz.ntmps24
  go_wp2_with fail
  refine (HU.out _ HS0.out.below).mono ?_
  rintro e w1 ⟨g1, vc1, va1, c1, rfl, hb1, hO1, hS1, hv1⟩
  have HS1 := Lib.hid (HS0.out.call hb1)
  have hz : ((w.alloc (stO sec (.slice (some ⟨b, 0, none⟩) 1 1) (.slice a l.length c))).alloc (stO ⟨#[]⟩ (.slice none 0 0) (.slice none 0 0))).heap.size = w.heap.size + 2 := by simp
  rw [hz] at hO1 hv1
  have HO1 := Lib.hid hO1
  have HT1 := Lib.hid hS1
  have HV1 := Lib.hid hv1
  have f2 := HS1.out.fp 2
  have k2 := HS1.out.cp 2 _ rfl
  have k3 := HS1.out.cp 3 _ rfl
  clear hb1 hO1 hS1 hv1 HU hz
  go_wp2_with fail
  have HS2 := Lib.hid (HS1.out.setP 2 (.slice (some ⟨g1, 0, none⟩) 1 vc1))
  refine (HR.out _ HS2.out.below).mono ?_
  rintro e w2 ⟨va2, vc2, lm, rfl, hb2, hO2, hS2, hL2⟩
  have HW2 : Hid (TwS n s p rs l w w2 (stC sec (.slice (some ⟨g1, 0, none⟩) 1 vc1) (.slice a l.length c)) (stC ⟨#[]⟩ (.slice none 0 0) (.slice none 0 0)) g1 vc1 va1 c1 va2 vc2 lm) := by
    have hlt := HS1.out.lt
    exact TwS.start HS2.out hb2 (HO1.out.far (by show w.heap.size < _; omega) _) (strs_kept HT1.out (g := w.heap.size) (fun b o he => by have := HV1.out b o he; omega) (fun k _ hne => Below.heap_setCell _ ⟨w.heap.size, 2, none⟩ _ k hne) (by simp [World.setCell])) HV1.out hO2 hS2 hL2
  have f3 := HW2.out.st.fp 3
  have k3' := HW2.out.st.cp 3 _ rfl
  have k4 := HW2.out.st.cp 4 _ rfl
  clear hb2 hO2 hS2 hL2 HR HS1 HO1 HT1 HV1 f2 k2 k3 HS0
  go_wp2_with fail
  refine (eachNilV _ _).mono ?_
  rintro e w3 ⟨rfl, hw3⟩
  have HW3 : Hid (TwS n s p rs l w w3 (stC sec (.slice (some ⟨g1, 0, none⟩) 1 vc1) (.slice va2 l.length vc2)) (stC ⟨#[]⟩ (.slice none 0 0) (.slice none 0 0)) g1 vc1 va1 c1 va2 vc2 lm) := by
    rw [hw3]; exact HW2.out.setP 3 _
  clear hw3 HW2 f3 k3' k4 HS2
  have f4 := HW3.out.st.fp 4
  have k4 := HW3.out.st.cp 4 _ rfl
  have k5 := HW3.out.st.cp 5 _ rfl
  go_wp2_with fail
  refine (eachNilC _ _).mono ?_
  rintro e w4 ⟨rfl, hw4⟩
  have HW4 : Hid (TwS n s p rs l w w4 (stC sec (.slice (some ⟨g1, 0, none⟩) 1 vc1) (.slice va2 l.length vc2)) (stC ⟨#[]⟩ (.slice none 0 0) (.slice none 0 0)) g1 vc1 va1 c1 va2 vc2 lm) := by
    rw [hw4]; exact HW3.out.same 4 _ rfl
  clear hw4 HW3 f4 k4 k5
  have f5 := HW4.out.st.fp 5
  have k5 := HW4.out.st.cp 5 _ rfl
  go_upto_region 5 with fail
  go_cut [] (fun wx => Hid (TwS n s p rs l w wx (stC sec (.slice (some ⟨g1, 0, none⟩) 1 vc1) (.slice va2 l.length vc2)) (stC ⟨#[]⟩ (.slice none 0 0) (.slice none 0 0)) g1 vc1 va1 c1 va2 vc2 lm))
  case first =>
    have hw5 := (HW4.out.same 5 (.slice none 0 0) rfl).call (Below.refl _ _).drew
    clear HW4 k5 f5
    go_region_held3 (fun W => TwS n s p rs l w W (stC sec (.slice (some ⟨g1, 0, none⟩) 1 vc1) (.slice va2 l.length vc2)) (stC ⟨#[]⟩ (.slice none 0 0) (.slice none 0 0)) g1 vc1 va1 c1 va2 vc2 lm ∧
      W.cell? ⟨w.heap.size, 6, none⟩ = some (.slice none 0 0) ∧ W.cell? ⟨w.heap.size, 7, none⟩ = some (.slice none 0 0) ∧ W.cell? ⟨w.heap.size, 8, none⟩ = some (.slice none 0 0) ∧ W.cell? ⟨w.heap.size, 9, none⟩ = some (.slice none 0 0) ∧
      W.frozen? ⟨w.heap.size, 6, none⟩ = false ∧ W.frozen? ⟨w.heap.size, 7, none⟩ = false ∧ W.frozen? ⟨w.heap.size, 8, none⟩ = false ∧ W.frozen? ⟨w.heap.size, 9, none⟩ = false)
      (first | exact TwS.pack (by assumption) | exact TwS.pack (TwS.sameD (by assumption) _ _ rfl) | exact TwS.pack (TwS.sameD (And.left (by assumption)) _ _ rfl) | exact TwS.pack (TwS.same (by assumption) _ _ rfl))
      (first
        | (go_at_call 62; refine (cloneNilT _).mono ?_; rintro e W' ⟨rfl, rfl⟩)
        | (go_at_call 63; refine (cloneNilW _).mono ?_; rintro e W' ⟨rfl, rfl⟩)
        | (go_at_call 64; refine (cloneNilR _).mono ?_; rintro e W' ⟨rfl, rfl⟩)
        | (go_at_call 65; refine (cloneNilS _).mono ?_; rintro e W' ⟨rfl, rfl⟩))
    all_goals
      rename_i hS
      have hS1 := Lib.hid hS.1
      clear hw5 hS
      go_wp2_with fail
      go_meet
      exact hS1
  have HW6 := hcut
  clear hcut HW4 k5 f5
  have k0 := HW6.out.st.cp 0 _ rfl
  have k1 := HW6.out.st.cp 1 _ rfl
  have k2 := HW6.out.st.cp 2 _ rfl
  have k3 := HW6.out.st.cp 3 _ rfl
  have k4 := HW6.out.st.cp 4 _ rfl
  have k5 := HW6.out.st.cp 5 _ rfl
  have k6 := HW6.out.st.cp 6 _ rfl
  have k7 := HW6.out.st.cp 7 _ rfl
  have k8 := HW6.out.st.cp 8 _ rfl
  have k9 := HW6.out.st.cp 9 _ rfl
  have k10 := HW6.out.st.cp 10 _ rfl
  have k11 := HW6.out.st.cp 11 _ rfl
  have k12 := HW6.out.st.cp 12 _ rfl
  have k13 := HW6.out.st.cp 13 _ rfl
  have q0 := HW6.out.st.cq 0 _ rfl
  have q1 := HW6.out.st.cq 1 _ rfl
  have q2 := HW6.out.st.cq 2 _ rfl
  have q3 := HW6.out.st.cq 3 _ rfl
  have q4 := HW6.out.st.cq 4 _ rfl
  have q5 := HW6.out.st.cq 5 _ rfl
  have q6 := HW6.out.st.cq 6 _ rfl
  have q7 := HW6.out.st.cq 7 _ rfl
  have q8 := HW6.out.st.cq 8 _ rfl
  have q9 := HW6.out.st.cq 9 _ rfl
  have q10 := HW6.out.st.cq 10 _ rfl
  have q11 := HW6.out.st.cq 11 _ rfl
  have q12 := HW6.out.st.cq 12 _ rfl
  have q13 := HW6.out.st.cq 13 _ rfl
  have hf := HW6.out.st.fq
  go_wp2_with fail
  have h7 := HW6.out.all (.int .i64 0) (.string sec) (.slice (some ⟨g1, 0, none⟩) 1 vc1) (.slice va2 l.length vc2) (.slice none 0 0) (.slice none 0 0) (.slice none 0 0) (.slice none 0 0) (.slice none 0 0) (.slice none 0 0) (.int .i64 0) (.int .i64 0) (.int .i64 0) (.int .i64 0)
  refine ret_twin (sec := sec) (us := .slice (some ⟨g1, 0, none⟩) 1 vc1) (ro := .slice va2 l.length vc2) h7.st rfl rfl ?_
  refine ⟨g1, vc1, va1, c1, va2, vc2, lm, rfl, h7.st.below, h7.us.base_le (by omega), h7.ur, h7.ro.base_le (by omega), h7.sd, h7.ne, fun g hg j hj => ?_, fun b o he => by have := h7.un b o he; omega⟩
  obtain ⟨z1, z2, z3, z4⟩ := h7.ol g hg j hj
  exact ⟨z1, z2, fun b o he => ⟨by have := (z3 b o he).1; omega, (z3 b o he).2⟩, fun b o he => ⟨by have := (z4 b o he).1; omega, (z4 b o he).2⟩⟩
end Go.Proofs.YtinijohmdljieaaGreatDoor

namespace Go.Proofs.YtinijohmdljieaaGreatDoor
open Go.RowKit

set_option maxHeartbeats 4000000 in
set_option maxRecDepth 100000 in
/-- texts in memory of their own -/
theorem refWords (v : Value) (rs : List ByteArray) (w : World) (hl : rs.length ≤ 1000000) (hs : Strs w.heap.size w v rs) :
    Calls Tryz.prog 34 #[v] w fun e w' => ∃ va vc, e = .returned (.slice va rs.length vc) ∧ Own w' w.heap.size 9 1 va vc rs.length (rs.map Value.string) ∧ Below w.heap.size w w' := by
  obtain ⟨a, c, b, o, rfl, -, -⟩ := hs.cells
  obtain ⟨va, vc, w6, hap, hO6, hg6⟩ := Own.appStrs (xs := []) (Own.nil w w.heap.size _ _) (Nat.le_refl _) hs (by omega)
  rw [Nat.zero_add, List.nil_append] at hO6
  rw [Nat.zero_add] at hap
  have hb6 : Below w.heap.size w w6 := (Below.refl _ _).grown hg6 (Nat.le_refl _) (fun k hk => by cases hk)
  have HAP := Lib.hid hap; have HO6 := Lib.hid hO6; have HB6 := Lib.hid hb6
  clear hap hO6 hb6 hg6 hs hl
  go_enter Tryz.func34, Tryz.ntmps34
  go_wp2_with (at_builtin; refine wpList_append_run rfl _ _ _ rfl rfl rfl HAP.out ?_)
  go_ret
  exact ⟨_, _, rfl, HO6.out, HB6.out⟩
set_option maxHeartbeats 4000000 in
set_option maxRecDepth 100000 in
/-- two lists of the same texts -/
theorem refTexts_yes (a1 a2 : Option Addr) (c1 c2 : Nat) (rs : List ByteArray) (B : Nat) (w : World) (hl : rs.length ≤ 1000000)
    (h1 : Strs B w (.slice a1 rs.length c1) rs) (h2 : Strs B w (.slice a2 rs.length c2) rs) :
    Calls Tryz.prog 30 #[.slice a1 rs.length c1, .slice a2 rs.length c2] w fun e w' => e = .returned (.bool true) ∧ Below w.heap.size w w' := by
  obtain ⟨a', c', b1, o1, he, -, ha1, hc1⟩ := h1.cells
  injection he with e1 e2 e3
  subst e1 e3
  obtain ⟨a', c', b2, o2, he, -, ha2, hc2⟩ := h2.cells
  injection he with e1 e2 e3
  subst e1 e3
  have HA1 := Lib.hid ha1; have HC1 := Lib.hid hc1; have HA2 := Lib.hid ha2; have HC2 := Lib.hid hc2
  clear h1 h2 ha1 hc1 ha2 hc2
  go_enter Tryz.func30, Tryz.ntmps30
  go_wp2
  go_loopw [5] (fun i wr => ∃ k q : Nat, k ≤ rs.length ∧ i = .int .i64 k ∧ wr = w.drewN q) (fun i _ => rs.length - (intOf i).toNat)
  case atStart => exact ⟨0, 0, by omega, rfl, rfl⟩
  case round =>
    obtain ⟨k, q, hk, rfl, rfl⟩ := hrel
    by_cases hlt : k < rs.length
    · obtain ⟨rfl, hl1⟩ := HA1.out (by omega)
      obtain ⟨rfl, hl2⟩ := HA2.out (by omega)
      have x1 := HC1.out k hlt
      have x2 := HC2.out k hlt
      obtain ⟨t, ht⟩ : ∃ t, rs[k] = t := ⟨_, rfl⟩
      rw [ht] at x1 x2
      have i1 : (0 : Int) ≤ (k : Int) := by omega
      have i2 : (k : Int) < (rs.length : Int) := by omega
      clear ht
      go_wp2
      go_quiet (fail)
      go_wp2
      go_roundw
      case rel => exact ⟨k + 1, _, by omega, by go_num, rfl⟩
      case measure => simp [intOf]; omega
    · have hkl : rs.length ≤ k := by omega
      go_wp2
      go_ret
      exact ⟨rfl, below_drewN (Below.refl _ _) _⟩
end Go.Proofs.YtinijohmdljieaaGreatDoor

namespace Go.Proofs.YtinijohmdljieaaGreatDoor
open Go.RowKit

set_option maxHeartbeats 4000000 in
set_option maxRecDepth 100000 in
theorem sameNilT (w : World) : Calls Tryz.prog 31 #[.slice none 0 0, .slice none 0 0] w fun e w' => e = .returned (.bool true) ∧ w' = w := by
  go_enter Tryz.func31, Tryz.ntmps31
  go_wp2_with fail
  go_loopw [5] (fun i wr => i = .int .i64 0 ∧ wr = w) (fun _ _ => 0)
  case atStart => exact ⟨rfl, rfl⟩
  case round =>
    obtain ⟨rfl, rfl⟩ := hrel
    go_wp2_with fail
    go_ret
    exact ⟨rfl, rfl⟩
set_option maxHeartbeats 4000000 in
set_option maxRecDepth 100000 in
theorem sameNilW (w : World) : Calls Tryz.prog 32 #[.slice none 0 0, .slice none 0 0] w fun e w' => e = .returned (.bool true) ∧ w' = w := by
  go_enter Tryz.func32, Tryz.ntmps32
  go_wp2_with fail
  go_loopw [5] (fun i wr => i = .int .i64 0 ∧ wr = w) (fun _ _ => 0)
  case atStart => exact ⟨rfl, rfl⟩
  case round =>
    obtain ⟨rfl, rfl⟩ := hrel
    go_wp2_with fail
    go_ret
    exact ⟨rfl, rfl⟩
set_option maxHeartbeats 4000000 in
set_option maxRecDepth 100000 in
theorem sameNilA (w : World) : Calls Tryz.prog 33 #[.slice none 0 0, .slice none 0 0] w fun e w' => e = .returned (.bool true) ∧ w' = w := by
  go_enter Tryz.func33, Tryz.ntmps33
  go_wp2_with fail
  go_loopw [5] (fun i wr => i = .int .i64 0 ∧ wr = w) (fun _ _ => 0)
  case atStart => exact ⟨rfl, rfl⟩
  case round =>
    obtain ⟨rfl, rfl⟩ := hrel
    go_wp2_with fail
    go_ret
    exact ⟨rfl, rfl⟩
end Go.Proofs.YtinijohmdljieaaGreatDoor
