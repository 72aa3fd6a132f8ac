/- pass.Make. -/
import Derived.Test.YtflckjabjhmnfaaDoorFits
import Derived.Test.YtflckjabjhmnfaaDoorCloneStrs
namespace Go.Proofs.YtflckjabjhmnfaaDoor
open Go.RowKit

def makeE (n s pw : ByteArray) (rs : List ByteArray) : Int := if namedS n then (if 64 < s.size then 3 else if wordN pw.size then (if 32 < rs.length then 4 else if rs.all namedS then 0 else 5) else 210) else 5
abbrev noUser : Value := .agg #[.string ⟨#[]⟩, .string ⟨#[]⟩, .string ⟨#[]⟩, .slice none 0 0]
/-- what Make hands back -/
def MakeEnd (n s pw : ByteArray) (rs : List ByteArray) (w : World) (e : Ending) (w' : World) : Prop :=
  (makeE n s pw rs ≠ 0 ∧ e = .returned (.tuple #[noUser, .int .i64 (makeE n s pw rs)]) ∨
    makeE n s pw rs = 0 ∧ ∃ va vc, e = .returned (.tuple #[.agg #[.string n, .string s, .string ⟨(passS s pw).toArray⟩, .slice va rs.length vc], .int .i64 0]) ∧ Own w' w.heap.size 9 1 va vc rs.length (rs.map Value.string)) ∧ Below w.heap.size w w'

theorem ret_make {g : Nat} {w : World} {a : Act} {u0 u1 u2 u3 v : Value} {R : Ending → World → Prop} (hp : a.tmps.getD 8 undef = .pointer (some ⟨g, 0, none⟩)) (hv : a.tmps.getD 9 undef = v) (hd : a.defers = [])
    (h0 : w.cell? ⟨g, 0, none⟩ = some u0) (h1 : w.cell? ⟨g, 1, none⟩ = some u1) (h2 : w.cell? ⟨g, 2, none⟩ = some u2) (h3 : w.cell? ⟨g, 3, none⟩ = some u3)
    (hR : R (.returned (.tuple #[.agg #[u0, u1, u2, u3], v])) w) : bodyPost Tryd.prog Tryd.f8 R .ret a w := by
  refine bodyPost_ret ?_ hd hR
  subst hv
  have hp' : a.tmps[8]?.getD undef = .pointer (some ⟨g, 0, none⟩) := by simpa using hp
  simp [results, Tryd.results8, hp', go_sem, h0, h1, h2, h3]

theorem below4 {B g : Nat} {w w1 : World} (h : Below B w w1) (hg : B ≤ g) (a b c d : Value) : Below B w ((((w1.setCell ⟨g, 0, none⟩ a).setCell ⟨g, 1, none⟩ b).setCell ⟨g, 2, none⟩ c).setCell ⟨g, 3, none⟩ d) :=
  (((h.setCell (p := ⟨g, 0, none⟩) hg a).setCell (p := ⟨g, 1, none⟩) hg b).setCell (p := ⟨g, 2, none⟩) hg c).setCell (p := ⟨g, 3, none⟩) hg d
theorem Own.set4 {w1 : World} {base g vc n : Nat} {E : TypeId} {va : Option Addr} {cells : List Value} (h : Own w1 base E 1 va vc n cells) (hg : g < base) (a b c d : Value) : Own ((((w1.setCell ⟨g, 0, none⟩ a).setCell ⟨g, 1, none⟩ b).setCell ⟨g, 2, none⟩ c).setCell ⟨g, 3, none⟩ d) base E 1 va vc n cells := by
  have hne : ∀ {W : World}, Own W base E 1 va vc n cells → ∀ j u, Own (W.setCell ⟨g, j, none⟩ u) base E 1 va vc n cells := fun {W} hW j u => hW.setCell (a := ⟨g, j, none⟩) (fun g' hg' => by have := (hW.lt hg').1; show g' ≠ g; omega) u
  exact hne (hne (hne (hne h _ _) _ _) _ _) _ _

set_option maxHeartbeats 4000000 in
set_option maxRecDepth 100000 in
theorem Make_walk (n s pw : ByteArray) (a : Option Addr) (c : Nat) (rs : List ByteArray) (w : World) (hn : n.size ≤ maxLen) (hs : s.size ≤ maxLen) (hpw : pw.size ≤ maxLen) (hr : ∀ x ∈ rs, x.size ≤ maxLen) (hl : rs.length ≤ 1000000)
    (h : Strs w.heap.size w (.slice a rs.length c) rs) :
    Calls Tryd.prog 8 #[.string n, .string s, .string pw, .slice a rs.length c] w (MakeEnd n s pw rs w) := by
  have HN := Lib.hid (fun W => pass_named n W hn)
  obtain ⟨E, hE⟩ : ∃ E, makeE n s pw rs = E := ⟨_, rfl⟩
  have HE := Lib.hid hE
  have hend : MakeEnd n s pw rs w = fun e w' => (E ≠ 0 ∧ e = .returned (.tuple #[noUser, .int .i64 E]) ∨ E = 0 ∧ ∃ va vc, e = .returned (.tuple #[.agg #[.string n, .string s, .string ⟨(passS s pw).toArray⟩, .slice va rs.length vc], .int .i64 0]) ∧ Own w' w.heap.size 9 1 va vc rs.length (rs.map Value.string)) ∧ Below w.heap.size w w' := by
    rw [← hE]; rfl
  have HEND := Lib.hid hend
  clear hE hend
  have HW := Lib.hid (fun W => pass_word pw W hpw)
  have HC := Lib.hid (fun (W : World) (hb : Below w.heap.size w W) => containsStrs (.slice a rs.length c) rs (fun s => !namedS s) 21 (enters_of Tryd.func21 (by kernel_rfl) rfl) W hl (fun x hx W' => pass_make1 x W' (hr x hx)) (Row.mono (h.below hb) hb.size))
  have HCl := Lib.hid (fun (W : World) (hb : Below w.heap.size w W) => cloneStrs (.slice a rs.length c) rs W (by omega) (Row.mono (h.below hb) hb.size))
  have hb0 : Below w.heap.size w (w.alloc (.cells #[.string ⟨#[]⟩, .string ⟨#[]⟩, .string ⟨#[]⟩, .slice none 0 0] 31)) := (Below.refl _ _).alloc (Nat.le_refl _) _
  clear h hr
  unfold maxLen at hn hs hpw
  by_cases h1 : namedS n = true
  · rw [show named n.data.toList = true from h1] at HN
    by_cases h2 : 64 < s.size
    · have d2 : decide (64 < (s.size : Int)) = true := decide_eq_true (by omega)
      have H3 : Hid (E = 3) := by show _ = _; rw [← HE.out, makeE, h1, if_pos rfl, if_pos h2]
      clear h1
      go_enter Tryd.func8, Tryd.ntmps8
      go_wp2_with fail
      refine (HN.out _).mono ?_
      rintro e w1 ⟨rfl, hb1⟩
      obtain ⟨hc1, hf1⟩ := bcell hb1
      have HB1 : Hid (Below w.heap.size w w1) := hb0.trans (hb1.mono (by simp))
      have HZ1 : Hid (w.heap.size < w1.heap.size) := by show _ < _; have := hb1.size; simp at this; omega
      clear hb1
      go_wp2_with fail
      refine ret_make (g := w.heap.size) (u0 := .string ⟨#[]⟩) (u1 := .string ⟨#[]⟩) (u2 := .string ⟨#[]⟩) (u3 := .slice none 0 0) rfl rfl rfl (by go_simp) (by go_simp) (by go_simp) (by go_simp) ?_
      rw [HEND.out]
      exact ⟨.inl ⟨by rw [H3.out]; decide, by rw [H3.out]; rfl⟩, below4 HB1.out (Nat.le_refl _) _ _ _ _⟩
    have d2 : decide (64 < (s.size : Int)) = false := decide_eq_false (by omega)
    cases h3 : wordN pw.size
    · have H3 : Hid (E = 210) := by show _ = _; rw [← HE.out, makeE, h1, if_pos rfl, if_neg h2, h3]; rfl
      rw [h3] at HW
      clear h1 h3
      go_enter Tryd.func8, Tryd.ntmps8
      go_wp2_with fail
      refine (HN.out _).mono ?_
      rintro e w1 ⟨rfl, hb1⟩
      obtain ⟨hc1, hf1⟩ := bcell hb1
      have HB1 : Hid (Below w.heap.size w w1) := hb0.trans (hb1.mono (by simp))
      have HZ1 : Hid (w.heap.size < w1.heap.size) := by show _ < _; have := hb1.size; simp at this; omega
      clear hb1
      go_wp2_with fail
      refine (HW.out _).mono ?_
      rintro e w2 ⟨rfl, rfl⟩
      go_wp2_with fail
      refine ret_make (g := w.heap.size) (u0 := .string ⟨#[]⟩) (u1 := .string ⟨#[]⟩) (u2 := .string ⟨#[]⟩) (u3 := .slice none 0 0) rfl rfl rfl (by go_simp) (by go_simp) (by go_simp) (by go_simp) ?_
      rw [HEND.out]
      exact ⟨.inl ⟨by rw [H3.out]; decide, by rw [H3.out]; rfl⟩, below4 HB1.out (Nat.le_refl _) _ _ _ _⟩
    have hpz : pw.size ≤ 64 := by simp [wordN] at h3; omega
    have HE2 : Hid (E = if 32 < rs.length then 4 else if rs.all namedS then 0 else 5) := by show _ = _; rw [← HE.out, makeE, h1, if_pos rfl, if_neg h2, h3, if_pos rfl]
    rw [h3] at HW
    clear h1 h3 HE
    by_cases h4 : 32 < rs.length
    · have d4 : decide (32 < (rs.length : Int)) = true := decide_eq_true (by omega)
      have H3 : Hid (E = 4) := by show _ = _; rw [HE2.out, if_pos h4]
      go_enter Tryd.func8, Tryd.ntmps8
      go_wp2_with fail
      refine (HN.out _).mono ?_
      rintro e w1 ⟨rfl, hb1⟩
      obtain ⟨hc1, hf1⟩ := bcell hb1
      have HB1 : Hid (Below w.heap.size w w1) := hb0.trans (hb1.mono (by simp))
      have HZ1 : Hid (w.heap.size < w1.heap.size) := by show _ < _; have := hb1.size; simp at this; omega
      clear hb1
      go_wp2_with fail
      refine (HW.out _).mono ?_
      rintro e w2 ⟨rfl, rfl⟩
      go_wp2_with fail
      refine ret_make (g := w.heap.size) (u0 := .string ⟨#[]⟩) (u1 := .string ⟨#[]⟩) (u2 := .string ⟨#[]⟩) (u3 := .slice none 0 0) rfl rfl rfl (by go_simp) (by go_simp) (by go_simp) (by go_simp) ?_
      rw [HEND.out]
      exact ⟨.inl ⟨by rw [H3.out]; decide, by rw [H3.out]; rfl⟩, below4 HB1.out (Nat.le_refl _) _ _ _ _⟩
    have d4 : decide (32 < (rs.length : Int)) = false := decide_eq_false (by omega)
    have HE3 : Hid (E = if rs.any (fun s => !namedS s) then 5 else 0) := by
      show _ = _
      rw [HE2.out, if_neg h4, ← any_not_all]
      cases rs.any (fun s => !namedS s) <;> rfl
    cases h5 : rs.any (fun s => !namedS s)
    · have H0 : Hid (E = 0) := by show _ = _; rw [HE3.out, h5]; rfl
      rw [h5] at HC
      clear h5 HE2 HE3
      have HP := Lib.hid (fun W => Pass_walk s pw 4 W (by omega) (by omega) (by omega) (by omega))
      rw [show passB s.data.toList pw.data.toList 4 = passS s pw from rfl] at HP
      generalize passS s pw = D at HP HEND
      go_enter Tryd.func8, Tryd.ntmps8
      go_wp2_with fail
      refine (HN.out _).mono ?_
      rintro e w1 ⟨rfl, hb1⟩
      obtain ⟨hc1, hf1⟩ := bcell hb1
      have HB1 : Hid (Below w.heap.size w w1) := hb0.trans (hb1.mono (by simp))
      have HZ1 : Hid (w.heap.size < w1.heap.size) := by show _ < _; have := hb1.size; simp at this; omega
      clear hb1
      go_wp2_with fail
      refine (HW.out _).mono ?_
      rintro e w2 ⟨rfl, rfl⟩
      go_wp2_with fail
      refine (HC.out _ HB1.out).mono ?_
      rintro e w3 ⟨rfl, hb3⟩
      have HB3 := Lib.hid (HB1.out.trans (hb3.mono HB1.out.size))
      have HZ3 : Hid (w.heap.size < w3.heap.size) := Nat.lt_of_lt_of_le HZ1.out hb3.size
      have hc3 : ∀ i, w3.cell? ⟨w.heap.size, i, none⟩ = w1.cell? ⟨w.heap.size, i, none⟩ := fun i => hb3.cell (p := ⟨w.heap.size, i, none⟩) HZ1.out
      have hf3 : ∀ i, w3.frozen? ⟨w.heap.size, i, none⟩ = w1.frozen? ⟨w.heap.size, i, none⟩ := fun i => hb3.frozen (p := ⟨w.heap.size, i, none⟩) HZ1.out
      clear hb3
      go_wp2_with fail
      refine (HP.out _).mono ?_
      rintro e w4 ⟨rfl, hb4⟩
      have HB4 := Lib.hid (HB3.out.trans (hb4.mono HB3.out.size))
      have HZ4 : Hid (w.heap.size < w4.heap.size) := Nat.lt_of_lt_of_le HZ3.out hb4.size
      have hc4 : ∀ i, w4.cell? ⟨w.heap.size, i, none⟩ = w3.cell? ⟨w.heap.size, i, none⟩ := fun i => hb4.cell (p := ⟨w.heap.size, i, none⟩) HZ3.out
      have hf4 : ∀ i, w4.frozen? ⟨w.heap.size, i, none⟩ = w3.frozen? ⟨w.heap.size, i, none⟩ := fun i => hb4.frozen (p := ⟨w.heap.size, i, none⟩) HZ3.out
      clear hb4
      go_wp2_with fail
      refine (HCl.out _ HB4.out).mono ?_
      rintro e w5 ⟨va, vc, rfl, hO, hb5⟩
      have HB5 := Lib.hid (HB4.out.trans (hb5.mono HB4.out.size))
      have HO : Hid (Own w5 (w.heap.size + 1) 9 1 va vc rs.length (rs.map Value.string)) := hO.base_le HZ4.out
      have hc5 : ∀ i, w5.cell? ⟨w.heap.size, i, none⟩ = w4.cell? ⟨w.heap.size, i, none⟩ := fun i => hb5.cell (p := ⟨w.heap.size, i, none⟩) HZ4.out
      have hf5 : ∀ i, w5.frozen? ⟨w.heap.size, i, none⟩ = w4.frozen? ⟨w.heap.size, i, none⟩ := fun i => hb5.frozen (p := ⟨w.heap.size, i, none⟩) HZ4.out
      clear hb5 hO
      go_wp2_with fail
      refine ret_make (g := w.heap.size) (u0 := .string n) (u1 := .string s) (u2 := .string ⟨D.toArray⟩) (u3 := .slice va rs.length vc) rfl rfl rfl (by go_simp) (by go_simp) (by go_simp) (by go_simp) ?_
      rw [HEND.out]
      exact ⟨.inr ⟨H0.out, va, vc, rfl, (HO.out.set4 (by omega) _ _ _ _).base_le (by omega)⟩, below4 HB5.out (Nat.le_refl _) _ _ _ _⟩
    · have H5 : Hid (E = 5) := by show _ = _; rw [HE3.out, h5]; rfl
      rw [h5] at HC
      clear h5 HE2 HE3
      go_enter Tryd.func8, Tryd.ntmps8
      go_wp2_with fail
      refine (HN.out _).mono ?_
      rintro e w1 ⟨rfl, hb1⟩
      obtain ⟨hc1, hf1⟩ := bcell hb1
      have HB1 : Hid (Below w.heap.size w w1) := hb0.trans (hb1.mono (by simp))
      have HZ1 : Hid (w.heap.size < w1.heap.size) := by show _ < _; have := hb1.size; simp at this; omega
      clear hb1
      go_wp2_with fail
      refine (HW.out _).mono ?_
      rintro e w2 ⟨rfl, rfl⟩
      go_wp2_with fail
      refine (HC.out _ HB1.out).mono ?_
      rintro e w3 ⟨rfl, hb3⟩
      have HB3 := Lib.hid (HB1.out.trans (hb3.mono HB1.out.size))
      have HZ3 : Hid (w.heap.size < w3.heap.size) := Nat.lt_of_lt_of_le HZ1.out hb3.size
      have hc3 : ∀ i, w3.cell? ⟨w.heap.size, i, none⟩ = w1.cell? ⟨w.heap.size, i, none⟩ := fun i => hb3.cell (p := ⟨w.heap.size, i, none⟩) HZ1.out
      have hf3 : ∀ i, w3.frozen? ⟨w.heap.size, i, none⟩ = w1.frozen? ⟨w.heap.size, i, none⟩ := fun i => hb3.frozen (p := ⟨w.heap.size, i, none⟩) HZ1.out
      clear hb3
      go_wp2_with fail
      refine ret_make (g := w.heap.size) (u0 := .string ⟨#[]⟩) (u1 := .string ⟨#[]⟩) (u2 := .string ⟨#[]⟩) (u3 := .slice none 0 0) rfl rfl rfl (by go_simp) (by go_simp) (by go_simp) (by go_simp) ?_
      rw [HEND.out]
      exact ⟨.inl ⟨by rw [H5.out]; decide, by rw [H5.out]; rfl⟩, below4 HB3.out (Nat.le_refl _) _ _ _ _⟩
  · have h1' : namedS n = false := by simpa using h1
    rw [show named n.data.toList = false from h1'] at HN
    have H5 : Hid (E = 5) := by show _ = _; rw [← HE.out, makeE, h1']; rfl
    clear h1 h1'
    go_enter Tryd.func8, Tryd.ntmps8
    go_wp2_with fail
    refine (HN.out _).mono ?_
    rintro e w1 ⟨rfl, hb1⟩
    obtain ⟨hc1, hf1⟩ := bcell hb1
    have HB1 : Hid (Below w.heap.size w w1) := hb0.trans (hb1.mono (by simp))
    have HZ1 : Hid (w.heap.size < w1.heap.size) := by show _ < _; have := hb1.size; simp at this; omega
    clear hb1
    go_wp2_with fail
    refine ret_make (g := w.heap.size) (u0 := .string ⟨#[]⟩) (u1 := .string ⟨#[]⟩) (u2 := .string ⟨#[]⟩) (u3 := .slice none 0 0) rfl rfl rfl (by go_simp) (by go_simp) (by go_simp) (by go_simp) ?_
    rw [HEND.out]
    exact ⟨.inl ⟨by rw [H5.out]; decide, by rw [H5.out]; rfl⟩, below4 HB1.out (Nat.le_refl _) _ _ _ _⟩
end Go.Proofs.YtflckjabjhmnfaaDoor
