/- package guard: is, need, name, two. -/
import Derived.Test.YtkmgbkcpjlilpaaDoorGStep2
namespace Go.Proofs.YtkmgbkcpjlilpaaDoor
open Go.RowKit

/-- a token that a step told -/
def TokOk (now : ByteArray) : Prop := now.size = 0 ∨ ∃ l : List UInt8, now.data.toList = l.take (longB l) ∧ 0 < longB l
/-- a reader's state that steps came to -/
structure GS (s : ByteArray) (st : GSt) : Prop where
  le : st.i ≤ s.size
  pos : st.pos ≤ st.i
  tok : TokOk st.now
  adv : st.now.size = 0 ∨ st.pos < st.i
  short : st.now.size ≤ s.size
theorem step_gs {s : ByteArray} {i : Nat} {st : GSt} (hi : i ≤ s.size) (h : stepB s i = .ok st) : GS s st ∧ i ≤ st.pos := by
  obtain ⟨_, h2, h3, h4, h5⟩ := stepB_ok hi h
  refine ⟨⟨h2, h3, ?_, h5.imp id And.left, by rcases h5 with h5 | h5 <;> omega⟩, h4⟩
  unfold stepB at h
  split at h
  · injection h with h; subst h; exact .inl rfl
  · split at h
    · cases h
    · rename_i h0
      injection h with h; subst h
      refine .inr ⟨s.data.toList.drop (fromB s i), ?_, by omega⟩
      simp only [ByteArray.data_extract, Array.toList_extract]
      show (s.data.toList.drop (fromB s i)).take (fromB s i + longB (s.data.toList.drop (fromB s i)) - fromB s i) = _
      rw [Nat.add_sub_cancel_left]

def AdvE (R : Nat) (s : ByteArray) (r : Except Nat GSt) (v : Value) (w : World) (e : Ending) (w' : World) : Prop :=
  KeepR R w w' ∧ match r with
    | .ok st => e = .returned v ∧ RdIs R w' s st
    | .error a => e = faultE a
set_option maxHeartbeats 2000000 in
set_option maxRecDepth 100000 in
theorem is_yes (R : Nat) (s : ByteArray) (st : GSt) (w : World) (hs : s.size ≤ 17000) (hi : st.i ≤ s.size) (h : RdIs R w s st) (hv : GW R w) :
    Calls Tryd.prog 60 #[.pointer (some ⟨R, 0, none⟩), .string st.now] w (AdvE R s (stepB s st.i) (.bool true) w) := by
  have HS := Lib.hid (step_walk R s st w hs hi h hv)
  generalize stepB s st.i = X at *
  obtain ⟨x0, x1, x2, x3⟩ := rd_cells h
  clear h hv
  go_enter Tryd.func60, Tryd.ntmps60
  go_wp2_with fail
  refine HS.out.mono ?_
  rintro e w2 ⟨hk, h2⟩
  have HK := Lib.hid hk
  clear hk HS
  cases X with
  | error a =>
    simp only at h2
    subst h2
    exact ⟨rfl, HK.out, rfl⟩
  | ok st1 =>
    obtain ⟨rfl, h3⟩ := h2
    have HR := Lib.hid h3
    clear h3
    go_wp2_with fail
    go_ret
    exact ⟨HK.out, rfl, HR.out⟩
set_option maxHeartbeats 2000000 in
set_option maxRecDepth 100000 in
theorem is_no (R : Nat) (s : ByteArray) (st : GSt) (x : ByteArray) (w : World) (hx : ¬ st.now = x) (h : RdIs R w s st) :
    Calls Tryd.prog 60 #[.pointer (some ⟨R, 0, none⟩), .string x] w fun e w' => e = .returned (.bool false) ∧ w = w' := by
  obtain ⟨x0, x1, x2, x3⟩ := rd_cells h
  have g : (st.now.toList == x.toList) = false := by rw [ba_eq]; exact decide_eq_false hx
  clear h
  go_enter Tryd.func60, Tryd.ntmps60
  go_wp2_with fail
  go_ret
  exact ⟨rfl, rfl⟩
set_option maxHeartbeats 2000000 in
set_option maxRecDepth 100000 in
theorem need_walk (R : Nat) (s : ByteArray) (st : GSt) (x : ByteArray) (w : World) (hs : s.size ≤ 17000) (hi : st.i ≤ s.size) (h : RdIs R w s st) (hv : GW R w) :
    Calls Tryd.prog 83 #[.pointer (some ⟨R, 0, none⟩), .string x] w (AdvE R s (needB s x st) (.tuple #[]) w) := by
  obtain ⟨x0, x1, x2, x3⟩ := rd_cells h
  by_cases hx : st.now = x
  · subst hx
    rw [needB, if_pos rfl]
    have HS := Lib.hid (is_yes R s st w hs hi h hv)
    generalize stepB s st.i = X at *
    clear h hv
    go_enter Tryd.func83, Tryd.ntmps83
    go_wp2_with fail
    refine HS.out.mono ?_
    rintro e w2 ⟨hk, h2⟩
    have HK := Lib.hid hk
    clear hk HS
    cases X with
    | error a =>
      simp only at h2
      subst h2
      exact ⟨rfl, HK.out, rfl⟩
    | ok st1 =>
      obtain ⟨rfl, h3⟩ := h2
      have HR := Lib.hid h3
      clear h3
      go_wp2_with fail
      go_end0
      exact ⟨HK.out, rfl, HR.out⟩
  · rw [needB, if_neg hx]
    have HS := Lib.hid (is_no R s st x w hx h)
    clear h hv
    go_enter Tryd.func83, Tryd.ntmps83
    go_wp2_with fail
    refine HS.out.mono ?_
    rintro e w2 ⟨rfl, rfl⟩
    clear HS
    go_wp2_with fail
    exact ⟨rfl, KeepR.refl _ _, rfl⟩
set_option maxHeartbeats 2000000 in
set_option maxRecDepth 100000 in
theorem name_walk (R : Nat) (s : ByteArray) (st : GSt) (w : World) (hs : s.size ≤ 17000) (hi : st.i ≤ s.size) (h : RdIs R w s st) (hv : GW R w) :
    Calls Tryd.prog 84 #[.pointer (some ⟨R, 0, none⟩)] w (AdvE R s (if namedG st.now = true then stepB s st.i else .error st.pos) (.string st.now) w) := by
  obtain ⟨x0, x1, x2, x3⟩ := rd_cells h
  have HN := Lib.hid (fun W => namedG_walk st.now W)
  have HSS := Lib.hid (fun (W : World) (h : RdIs R W s st) (hv : GW R W) => step_walk R s st W hs hi h hv)
  generalize stepB s st.i = X at *
  have HR0 := Lib.hid h
  have HV0 := Lib.hid hv
  clear h hv
  generalize namedG st.now = nb at *
  cases nb with
  | false =>
    rw [if_neg (by decide)]
    go_enter Tryd.func84, Tryd.ntmps84
    go_wp2_with fail
    refine (HN.out _).mono ?_
    rintro e w2 ⟨rfl, hb⟩
    have HR1 : Hid (RdIs R w2 s st) := ⟨(hb.block R (Arr.lt HR0.out)).trans HR0.out.heap⟩
    have HB := Lib.hid hb
    obtain ⟨y0, y1, y2, y3⟩ := rd_cells HR1.out
    clear hb HN
    go_wp2_with fail
    exact ⟨rfl, KeepR.of HB.out, rfl⟩
  | true =>
    rw [if_pos rfl]
    go_enter Tryd.func84, Tryd.ntmps84
    go_wp2_with fail
    refine (HN.out _).mono ?_
    rintro e w2 ⟨rfl, hb⟩
    have HR1 : Hid (RdIs R w2 s st) := ⟨(hb.block R (Arr.lt HR0.out)).trans HR0.out.heap⟩
    have HB := Lib.hid hb
    have HS := Lib.hid (HSS.out w2 HR1.out (HV0.out.keep (.of hb)))
    clear hb HN
    go_wp2_with fail
    refine HS.out.mono ?_
    rintro e w3 ⟨hk, h2⟩
    have HK := Lib.hid ((KeepR.of HB.out).trans hk)
    clear hk HS
    cases X with
    | error a =>
      simp only at h2
      subst h2
      exact ⟨rfl, HK.out, rfl⟩
    | ok st1 =>
      obtain ⟨rfl, h3⟩ := h2
      have HR := Lib.hid h3
      clear h3
      go_wp2_with fail
      go_ret
      exact ⟨HK.out, rfl, HR.out⟩
theorem results_cellG {fn : Func} {p : Tmp} {ty : TypeId} (h : fn.results = #[.cell p ty]) (tmps : Array Value) (P : Program) (w : World) :
    (results fn tmps).run P w = ((asAddr (tmps.getD p undef)).run P w).andThen fun a w₁ => (loadVar ty a).run P w₁ := by
  simp only [results, h]
  simp [Sem.run_bind, Result.andThen]
theorem size_alloc (w : World) (o : Obj) : (w.alloc o).heap.size = w.heap.size + 1 := by
  rw [show (w.alloc o).heap = w.heap.push o from rfl, Array.size_push]
theorem alloc_at {w : World} {o : Obj} {k : Nat} (h : k = w.heap.size) : (w.alloc o).heap[k]? = some o := by
  subst h
  rw [show (w.alloc o).heap = w.heap.push o from rfl, Array.getElem?_push_size]
theorem ret_guard {fn : Func} {p : Tmp} {g : Nat} {w : World} {a : Act} {cs : List Value} {R : Ending → World → Prop} (h : fn.results = #[.cell p 24]) (hp : a.tmps.getD p undef = .pointer (some ⟨g, 0, none⟩))
    (hd : a.defers = []) (hl : cs.length = 4) (hA : Arr w g 24 cs) (hR : R (.returned (.agg cs.toArray)) w) : bodyPost Tryd.prog fn R .ret a w := by
  refine bodyPost_ret ?_ hd hR
  rw [results_cellG h, hp]
  simp only [asAddr, Sem.run_pure, Result.andThen_ok]
  exact run_loadVar_mid w g 0 _ cs _ hA.range Tryd.underlying24 rfl (by rw [hl]; kernel_rfl)
set_option maxHeartbeats 2000000 in
set_option maxRecDepth 100000 in
theorem two_walk (X : Nat → Prop) (k : Nat) (a b : GT) (da db : List Value) (w : World) (hX : ∀ k, X k → k < w.heap.size) (ha : GIs X w a da) (hb : GIs X w b db) :
    Calls Tryd.prog 43 #[.int .u8 k, .agg da.toArray, .agg db.toArray] w fun e w' => Below w.heap.size w w' ∧ ∃ cs : List Value, e = .returned (.agg cs.toArray) ∧ GIs X w' (.two k a b) cs := by
  have HA := Lib.hid ha
  have HB := Lib.hid hb
  obtain ⟨k1, n1, s1, a1, l1, c1, rfl⟩ := ha.four
  obtain ⟨k2, n2, s2, a2, l2, c2, rfl⟩ := hb.four
  clear ha hb
  go_enter Tryd.func43, Tryd.ntmps43
  go_wp2_with fail
  refine ret_guard rfl (g := w.heap.size + 1 + 1) (cs := [.int .u8 k, .int .i64 0, .string ⟨#[]⟩, .slice (some ⟨w.heap.size + 1 + 1 + 1, 0, none⟩) 2 2]) rfl rfl rfl (Arr.alloc ⟨alloc_at (by rw [size_alloc, size_alloc])⟩ _) ?_
  have hbel : Below w.heap.size w _ := ((((Below.refl w.heap.size w).alloc (Nat.le_refl _) (.cells #[.int .u8 k1, .int .i64 n1, .string s1, .slice a1 l1 c1] 24)).alloc (by simp) (.cells #[.int .u8 k2, .int .i64 n2, .string s2, .slice a2 l2 c2] 24)).alloc (by simp <;> omega) (.cells #[.int .u8 k, .int .i64 0, .string ⟨#[]⟩, .slice (some ⟨w.heap.size + 1 + 1 + 1, 0, none⟩) 2 2] 24)).alloc (by simp <;> omega) (.cells #[.int .u8 k1, .int .i64 n1, .string s1, .slice a1 l1 c1, .int .u8 k2, .int .i64 n2, .string s2, .slice a2 l2 c2] 24)
  exact ⟨hbel, _, rfl, _, _, _, rfl, fun hx => by have := hX _ hx; omega, ⟨alloc_at (by rw [size_alloc, size_alloc, size_alloc])⟩, HA.out.below hbel, HB.out.below hbel⟩
end Go.Proofs.YtkmgbkcpjlilpaaDoor
