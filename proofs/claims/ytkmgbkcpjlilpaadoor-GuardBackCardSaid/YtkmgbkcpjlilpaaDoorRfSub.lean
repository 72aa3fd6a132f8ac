/- docketref17: what the grammar's functions come to, behind a fault too; is, in any state; two. -/
import Derived.Test.YtkmgbkcpjlilpaaDoorRfStep
namespace Go.Proofs.YtkmgbkcpjlilpaaDoor
open Go.RowKit

/-- a guard that was read; or four cells -/
def GX (X : Nat → Prop) (w : World) : Option GT → List Value → Prop
  | some g, cs => GIs X w g cs
  | none, cs => Four cs
theorem GX.keepR {X : Nat → Prop} {R : Nat} {w w' : World} (hX : X R) (hk : KeepR R w w') : ∀ {t : Option GT} {cs : List Value}, GX X w t cs → GX X w' t cs
  | some _, _, h => GIs.keepR hX hk h
  | none, _, h => h
theorem GX.below {X : Nat → Prop} {w w' : World} (hb : Below w.heap.size w w') : ∀ {t : Option GT} {cs : List Value}, GX X w t cs → GX X w' t cs
  | some _, _, h => GIs.below hb h
  | none, _, h => h
theorem GX.setCell {X : Nat → Prop} {w : World} {p : Addr} (hX : X p.block) (v : Value) : ∀ {t : Option GT} {cs : List Value}, GX X w t cs → GX X (w.setCell p v) t cs
  | some _, _, h => GIs.setCell hX v h
  | none, _, h => h
theorem GX.mono {X Y : Nat → Prop} {w : World} (hXY : ∀ k, k < w.heap.size → Y k → X k) : ∀ {t : Option GT} {cs : List Value}, GX X w t cs → GX Y w t cs
  | some _, _, h => GIs.mono hXY h
  | none, _, h => h
theorem GX.four {X : Nat → Prop} {w : World} : ∀ {t : Option GT} {cs : List Value}, GX X w t cs → Four cs
  | some _, _, h => GIs.four h
  | none, _, h => h
def twoO (k : Nat) : Option GT → Option GT → Option GT
  | some a, some b => some (.two k a b)
  | _, _ => none
def oneO (k : Nat) : Option GT → Option GT
  | some a => some (.one k a)
  | none => none
set_option maxHeartbeats 2000000 in
set_option maxRecDepth 100000 in
theorem rfTwo_walk (X : Nat → Prop) (k : Nat) (a b : Option GT) (da db : List Value) (w : World) (hX : ∀ k, X k → k < w.heap.size) (ha : GX X w a da) (hb : GX X w b db) :
    Calls Tryd.prog 32 #[.int .u8 k, .agg da.toArray, .agg db.toArray] w fun e w' => Below w.heap.size w w' ∧ ∃ cs : List Value, e = .returned (.agg cs.toArray) ∧ GX X w' (twoO k a b) cs := by
  have HA := Lib.hid ha
  have HB := Lib.hid hb
  obtain ⟨k1, n1, s1, a1, l1, c1, rfl⟩ := ha.four
  obtain ⟨k2, n2, s2, a2, l2, c2, rfl⟩ := hb.four
  clear ha hb
  go_enter Tryd.func32, Tryd.ntmps32
  go_wp2_with fail
  refine ret_guard (fn := Tryd.f32) rfl (g := w.heap.size + 1 + 1) (cs := [.int .u8 k, .int .i64 0, .string ⟨#[]⟩, .slice (some ⟨w.heap.size + 1 + 1 + 1, 0, none⟩) 2 2]) rfl rfl rfl (Arr.alloc ⟨alloc_at (by rw [size_alloc, size_alloc])⟩ _) ?_
  have hbel : Below w.heap.size w _ := ((((Below.refl w.heap.size w).alloc (Nat.le_refl _) (.cells #[.int .u8 k1, .int .i64 n1, .string s1, .slice a1 l1 c1] 24)).alloc (by simp) (.cells #[.int .u8 k2, .int .i64 n2, .string s2, .slice a2 l2 c2] 24)).alloc (by simp <;> omega) (.cells #[.int .u8 k, .int .i64 0, .string ⟨#[]⟩, .slice (some ⟨w.heap.size + 1 + 1 + 1, 0, none⟩) 2 2] 24)).alloc (by simp <;> omega) (.cells #[.int .u8 k1, .int .i64 n1, .string s1, .slice a1 l1 c1, .int .u8 k2, .int .i64 n2, .string s2, .slice a2 l2 c2] 24)
  refine ⟨hbel, _, rfl, ?_⟩
  cases a with
  | none => exact ⟨_, _, _, _, _, _, rfl⟩
  | some a =>
    cases b with
    | none => exact ⟨_, _, _, _, _, _, rfl⟩
    | some b => exact ⟨_, _, _, rfl, fun hx => by have := hX _ hx; omega, ⟨alloc_at (by rw [size_alloc, size_alloc, size_alloc])⟩, GIs.below hbel HA.out, GIs.below hbel HB.out⟩
/-- is, in any state -/
def isX (s : ByteArray) (y : ByteArray) : Except Nat GSt → Bool × Except Nat GSt
  | .ok st => if st.now = y then (true, stepB s st.i) else (false, .ok st)
  | .error a => (false, .error a)
theorem rfIsX (R : Nat) (s : ByteArray) (x : Except Nat GSt) (y : ByteArray) (w : World) (hs : s.size ≤ 17000) (hi : ∀ st, x = .ok st → st.i ≤ s.size) (h : RfIs R w s x) :
    Calls Tryd.prog 31 #[.pointer (some ⟨R, 0, none⟩), .string y] w (AdvR R s (isX s y x).2 (.bool (isX s y x).1) w) := by
  cases x with
  | ok st =>
    by_cases hy : st.now = y
    · subst hy
      have := rfIs_yes R s st w hs (hi st rfl) h
      rw [isX, if_pos rfl]
      exact this
    · rw [isX, if_neg hy]
      refine (rfIs_no R s st y w hy h).mono ?_
      rintro e w' ⟨rfl, rfl⟩
      exact ⟨KeepR.refl _ _, rfl, h⟩
  | error a =>
    refine (rfIs_bad R s a y w h).mono ?_
    rintro e w' ⟨rfl, rfl⟩
    exact ⟨KeepR.refl _ _, rfl, h⟩
theorem isX_yes {s y : ByteArray} {x : Except Nat GSt} (h : (isX s y x).1 = true) : ∃ st, x = .ok st ∧ st.now = y ∧ (isX s y x).2 = stepB s st.i := by
  cases x with
  | ok st =>
    by_cases hy : st.now = y
    · rw [isX, if_pos hy]; exact ⟨st, rfl, hy, rfl⟩
    · rw [isX, if_neg hy] at h; cases h
  | error a => cases h
theorem isX_no {s y : ByteArray} {x : Except Nat GSt} (h : (isX s y x).1 = false) : (isX s y x).2 = x ∧ ∀ st, x = .ok st → ¬ st.now = y := by
  cases x with
  | ok st =>
    by_cases hy : st.now = y
    · rw [isX, if_pos hy] at h; cases h
    · rw [isX, if_neg hy]; exact ⟨rfl, fun st' h => by cases h; exact hy⟩
  | error a => exact ⟨rfl, fun _ h => by cases h⟩
/-- a state that steps came to -/
def GSX (s : ByteArray) (x : Except Nat GSt) : Prop := ∀ st, x = .ok st → GS s st
theorem GSX.le {s : ByteArray} {x : Except Nat GSt} (h : GSX s x) : ∀ st, x = .ok st → st.i ≤ s.size := fun st hx => (h st hx).le
theorem GSX.step {s : ByteArray} {st : GSt} (h : GS s st) : GSX s (stepB s st.i) := fun _ hx => (step_gs h.le hx).1
/-- what a function of the grammar comes to -/
def PX (s : ByteArray) (nt : NT) (x x' : Except Nat GSt) (t : Option GT) : Prop := match x with
  | .error a => x' = .error a
  | .ok st => ∃ fu r, pars s fu nt st = some r ∧ match r with
    | .ok (g, st1) => x' = .ok st1 ∧ t = some g ∧ GS s st1 ∧ st.pos ≤ st1.pos
    | .error a => x' = .error a
theorem PX.gsx {s : ByteArray} {nt : NT} {x x' : Except Nat GSt} {t : Option GT} (h : PX s nt x x' t) : GSX s x' := by
  intro st1 h1
  subst h1
  cases x with
  | error a => cases (show Except.ok st1 = Except.error a from h)
  | ok st =>
    obtain ⟨fu, r, -, hr⟩ := h
    cases r with
    | error a => cases (show Except.ok st1 = Except.error a from hr)
    | ok gs =>
      obtain ⟨g, st2⟩ := gs
      obtain ⟨h1, -, h2, -⟩ := hr
      injection h1 with h1
      exact h1 ▸ h2
/-- a function of the grammar, at states that leave less than N, and behind a fault -/
def SubX (R : Nat) (s : ByteArray) (N : Nat) (F : FuncId) (nt : NT) : Prop :=
  ∀ (x : Except Nat GSt) (w : World), (∀ st, x = .ok st → s.size - st.pos < N) → GSX s x → RfIs R w s x → Calls Tryd.prog F #[.pointer (some ⟨R, 0, none⟩)] w fun e w' =>
    KeepR R w w' ∧ ∃ x' t cs, e = .returned (.agg (List.toArray cs)) ∧ GX (fun k => k < w.heap.size) w' t cs ∧ RfIs R w' s x' ∧ PX s nt x x' t
/-- a row, at its loop's head -/
def LoopX (s : ByteArray) (nt : NT) (kinds : ByteArray → Option Nat) (x0 x : Except Nat GSt) (t : Option GT) : Prop := match x0 with
  | .error b => x = .error b
  | .ok st0 => match x with
    | .ok st => ∃ g, t = some g ∧ GS s st ∧ st0.pos ≤ st.pos ∧ Cont s nt kinds (fun fu => thenP (pars s fu nt st0) fun g st1 => rowL s (pars s fu nt) kinds fu g st1) g st
    | .error a => ∃ fu, thenP (pars s fu nt st0) (fun g st1 => rowL s (pars s fu nt) kinds fu g st1) = some (.error a)
theorem loop_first {s : ByteArray} {nt : NT} {kinds : ByteArray → Option Nat} {x0 x : Except Nat GSt} {t : Option GT} (h : PX s nt x0 x t) : LoopX s nt kinds x0 x t := by
  cases x0 with
  | error b => exact h
  | ok st0 =>
    obtain ⟨fu, r, hp, hr⟩ := h
    cases r with
    | error a =>
      obtain rfl : x = .error a := hr
      exact ⟨fu, by rw [hp]; rfl⟩
    | ok gs =>
      obtain ⟨g, st1⟩ := gs
      obtain ⟨rfl, rfl, h1, h2⟩ := hr
      exact ⟨g, rfl, h1, h2, cont_first hp⟩
theorem LoopX.gsx {s : ByteArray} {nt : NT} {kinds : ByteArray → Option Nat} {x0 x : Except Nat GSt} {t : Option GT} (h : LoopX s nt kinds x0 x t) : GSX s x := by
  intro st1 h1
  subst h1
  cases x0 with
  | error a => cases (show Except.ok st1 = Except.error a from h)
  | ok st0 =>
    obtain ⟨g, -, h2, -⟩ := h
    exact h2
theorem loop_next {s : ByteArray} {nt : NT} {kinds : ByteArray → Option Nat} {x0 x2 : Except Nat GSt} {st : GSt} {t t2 : Option GT} {k : Nat} (h : LoopX s nt kinds x0 (.ok st) t) (hk : kinds st.now = some k) (hp : PX s nt (stepB s st.i) x2 t2) : LoopX s nt kinds x0 x2 (twoO k t t2) := by
  cases x0 with
  | error b => cases (show Except.ok st = Except.error b from h)
  | ok st0 =>
    obtain ⟨g, rfl, h1, h2, h3⟩ := h
    cases hs : stepB s st.i with
    | error a =>
      rw [hs] at hp
      obtain rfl : x2 = .error a := hp
      exact cont_step_err h3 hk hs
    | ok st1 =>
      rw [hs] at hp
      obtain ⟨fu, r, hp, hr⟩ := hp
      cases r with
      | error a =>
        obtain rfl : x2 = .error a := hr
        exact cont_sub_err h3 hk hs hp
      | ok gs =>
        obtain ⟨g2, st2⟩ := gs
        obtain ⟨rfl, rfl, h5, h6⟩ := hr
        have h7 := (step_gs h1.le hs).2
        have h8 := h1.pos
        exact ⟨_, rfl, h5, by omega, cont_next h3 hk hs hp⟩
theorem loop_end {s : ByteArray} {nt ntO : NT} {kinds : ByteArray → Option Nat} {x0 x : Except Nat GSt} {t : Option GT} (h : LoopX s nt kinds x0 x t) (hk : ∀ st, x = .ok st → kinds st.now = none)
    (hO : ∀ fu st0, pars s (fu + 1) ntO st0 = thenP (pars s fu nt st0) fun g st1 => rowL s (pars s fu nt) kinds fu g st1) : PX s ntO x0 x t := by
  cases x0 with
  | error b => exact h
  | ok st0 =>
    cases x with
    | error a =>
      obtain ⟨fu, h⟩ := h
      exact ⟨fu + 1, .error a, by rw [hO]; exact h, rfl⟩
    | ok st =>
      obtain ⟨g, rfl, h1, h2, h3⟩ := h
      obtain ⟨fu, h4⟩ := cont_end h3 (hk st rfl)
      exact ⟨fu + 1, .ok (g, st), by rw [hO]; exact h4, rfl, rfl, h1, h2⟩
/-- what is left to read -/
def remR (R : Nat) (s : ByteArray) (w : World) : Nat := match w.cell? ⟨R, 4, none⟩ with
  | some (.bool true) => 0
  | _ => s.size + 1 - posI R w
theorem remR_ok {R : Nat} {w : World} {s : ByteArray} {st : GSt} (h : RfIs R w s (.ok st)) : remR R s w = s.size + 1 - st.pos := by
  have h' : Arr w R 47 [.string s, .int .i64 (st.i : Int), .int .i64 (st.pos : Int), .string st.now, .bool false, .int .i64 0] := h
  obtain ⟨-, -, x2, -, x4, -⟩ := rf_cells h'
  rw [remR, x4]
  show s.size + 1 - posI R w = _
  rw [posI, x2]
  simp [intOf]
theorem remR_bad {R : Nat} {w : World} {s : ByteArray} {a : Nat} (h : RfIs R w s (.error a)) : remR R s w = 0 := by
  obtain ⟨i, p, h⟩ := h
  obtain ⟨-, -, -, -, x4, -⟩ := rf_cells h
  rw [remR, x4]
/-- it goes on -/
theorem remR_lt {R : Nat} {s : ByteArray} {w w' : World} {st : GSt} {nt : NT} {x2 : Except Nat GSt} {t2 : Option GT} (hg : GS s st) (hne : st.now.size ≠ 0) (h : RfIs R w s (.ok st)) (hp : PX s nt (stepB s st.i) x2 t2) (h' : RfIs R w' s x2) : remR R s w' < remR R s w := by
  have h1 := hg.pos
  have h2 := hg.le
  rw [remR_ok h]
  cases x2 with
  | error a => rw [remR_bad h']; omega
  | ok st2 =>
    rw [remR_ok h']
    have h3 : st.pos < st.i := by rcases hg.adv with h | h; exact absurd h hne; exact h
    cases hs : stepB s st.i with
    | error a => rw [hs] at hp; cases (show Except.ok st2 = Except.error a from hp)
    | ok st1 =>
      rw [hs] at hp
      have h4 := (step_gs hg.le hs).2
      obtain ⟨fu, r, -, hr⟩ := hp
      cases r with
      | error a => cases (show Except.ok st2 = Except.error a from hr)
      | ok gs =>
        obtain ⟨g2, st3⟩ := gs
        obtain ⟨h5, -, -, h6⟩ := hr
        injection h5 with h5
        subst h5
        omega
/-- a row's loop, in memory -/
structure LoopW (R : Nat) (s : ByteArray) (w : World) (gb : Nat) (wr : World) (x : Except Nat GSt) (t : Option GT) (cs : List Value) : Prop where
  rd : RfIs R wr s x
  keep : KeepR R w wr
  out : Arr wr w.heap.size 24 zeroG
  cell : Arr wr gb 24 cs
  gx : GX (fun k => k < w.heap.size + 1 ∨ k = gb) wr t cs
theorem RfIs.far {R j : Nat} {w : World} {s : ByteArray} {b : Nat} (hb : R ≠ b) (v : Value) : ∀ {x : Except Nat GSt}, RfIs R w s x → RfIs R (w.setCell ⟨b, j, none⟩ v) s x
  | .ok _, h => Arr.far (a := ⟨b, j, none⟩) h hb v
  | .error _, ⟨i, p, h⟩ => ⟨i, p, Arr.far (a := ⟨b, j, none⟩) h hb v⟩
theorem RfIs.keepO {R : Nat} {w w' : World} {s : ByteArray} {x : Except Nat GSt} (h : RfIs R w s x) (hk : w'.heap[R]? = w.heap[R]?) : RfIs R w' s x := by
  cases x with
  | ok st => exact ⟨hk.trans (Arr.heap h)⟩
  | error a => obtain ⟨i, p, h⟩ := h; exact ⟨i, p, ⟨hk.trans h.heap⟩⟩
/-- four cells written into a block of one's own -/
theorem LoopW.store {R : Nat} {s : ByteArray} {w w6 : World} {gb : Nat} {x : Except Nat GSt} {t : Option GT} {c0 c1 c2 c3 d0 d1 d2 d3 : Value} (hk : KeepR R w w6) (hr : RfIs R w6 s x) (ho : Arr w6 w.heap.size 24 zeroG)
    (hc : Arr w6 gb 24 [c0, c1, c2, c3]) (hx : GX (fun k => k < w.heap.size + 1 ∨ k = gb) w6 t [d0, d1, d2, d3]) (hRw : R < w.heap.size) (hgb : w.heap.size < gb) :
    LoopW R s w gb ((((w6.setCell ⟨gb, 0, none⟩ d0).setCell ⟨gb, 1, none⟩ d1).setCell ⟨gb, 2, none⟩ d2).setCell ⟨gb, 3, none⟩ d3) x t [d0, d1, d2, d3] := by
  have hK : ∀ {W : World} (j : Nat) (v : Value), KeepR R w W → KeepR R w (W.setCell ⟨gb, j, none⟩ v) := fun j v h => h.setNew (p := ⟨gb, j, none⟩) (by show _ ≤ gb; omega) v
  have hF : ∀ {W : World} (j : Nat) (v : Value), RfIs R W s x → RfIs R (W.setCell ⟨gb, j, none⟩ v) s x := fun j v h => h.far (by omega) v
  have hX : ∀ {W : World} (j : Nat) (v : Value), GX (fun k => k < w.heap.size + 1 ∨ k = gb) W t [d0, d1, d2, d3] → GX (fun k => k < w.heap.size + 1 ∨ k = gb) (W.setCell ⟨gb, j, none⟩ v) t [d0, d1, d2, d3] := fun j v h => h.setCell (p := ⟨gb, j, none⟩) (.inr rfl) v
  have hO : ∀ {W : World} (j : Nat) (v : Value), Arr W w.heap.size 24 zeroG → Arr (W.setCell ⟨gb, j, none⟩ v) w.heap.size 24 zeroG := fun j v h => Arr.far h (a := ⟨gb, j, none⟩) (by show w.heap.size ≠ gb; omega) v
  exact ⟨hF 3 _ (hF 2 _ (hF 1 _ (hF 0 _ hr))), hK 3 _ (hK 2 _ (hK 1 _ (hK 0 _ hk))), hO 3 _ (hO 2 _ (hO 1 _ (hO 0 _ ho))), (((hc.set 0 d0).set 1 d1).set 2 d2).set 3 d3, hX 3 _ (hX 2 _ (hX 1 _ (hX 0 _ hx)))⟩
/-- the answer written -/
theorem storeO {R : Nat} {s : ByteArray} {w W : World} {x : Except Nat GSt} {t : Option GT} {c0 c1 c2 c3 d0 d1 d2 d3 : Value} (hk : KeepR R w W) (hr : RfIs R W s x) (ho : Arr W w.heap.size 24 [c0, c1, c2, c3])
    (hx : GX (fun k => k < w.heap.size + 1) W t [d0, d1, d2, d3]) (hRw : R < w.heap.size) :
    KeepR R w ((((W.setCell ⟨w.heap.size, 0, none⟩ d0).setCell ⟨w.heap.size, 1, none⟩ d1).setCell ⟨w.heap.size, 2, none⟩ d2).setCell ⟨w.heap.size, 3, none⟩ d3) ∧
    RfIs R ((((W.setCell ⟨w.heap.size, 0, none⟩ d0).setCell ⟨w.heap.size, 1, none⟩ d1).setCell ⟨w.heap.size, 2, none⟩ d2).setCell ⟨w.heap.size, 3, none⟩ d3) s x ∧
    Arr ((((W.setCell ⟨w.heap.size, 0, none⟩ d0).setCell ⟨w.heap.size, 1, none⟩ d1).setCell ⟨w.heap.size, 2, none⟩ d2).setCell ⟨w.heap.size, 3, none⟩ d3) w.heap.size 24 [d0, d1, d2, d3] ∧
    GX (fun k => k < w.heap.size) ((((W.setCell ⟨w.heap.size, 0, none⟩ d0).setCell ⟨w.heap.size, 1, none⟩ d1).setCell ⟨w.heap.size, 2, none⟩ d2).setCell ⟨w.heap.size, 3, none⟩ d3) t [d0, d1, d2, d3] := by
  have hK : ∀ {W : World} (j : Nat) (v : Value), KeepR R w W → KeepR R w (W.setCell ⟨w.heap.size, j, none⟩ v) := fun j v h => h.setNew (p := ⟨w.heap.size, j, none⟩) (Nat.le_refl _) v
  have hF : ∀ {W : World} (j : Nat) (v : Value), RfIs R W s x → RfIs R (W.setCell ⟨w.heap.size, j, none⟩ v) s x := fun j v h => h.far (by omega) v
  have hX : ∀ {W : World} (j : Nat) (v : Value), GX (fun k => k < w.heap.size + 1) W t [d0, d1, d2, d3] → GX (fun k => k < w.heap.size + 1) (W.setCell ⟨w.heap.size, j, none⟩ v) t [d0, d1, d2, d3] := fun j v h => h.setCell (p := ⟨w.heap.size, j, none⟩) (Nat.lt_succ_self _) v
  exact ⟨hK 3 _ (hK 2 _ (hK 1 _ (hK 0 _ hk))), hF 3 _ (hF 2 _ (hF 1 _ (hF 0 _ hr))), (((ho.set 0 d0).set 1 d1).set 2 d2).set 3 d3, (hX 3 _ (hX 2 _ (hX 1 _ (hX 0 _ hx)))).mono fun k _ h => Nat.lt_succ_of_lt h⟩
end Go.Proofs.YtkmgbkcpjlilpaaDoor
