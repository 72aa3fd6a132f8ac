/- What is written of a guard is read as it: plain. -/
import Derived.Test.YtkmgbkcpjlilpaaDoorGText
namespace Go.Proofs.YtkmgbkcpjlilpaaDoor
open Go.RowKit

theorem bl_cons {c : UInt8} (h : c ≠ 32) (r : List UInt8) : bl (c :: r) = c :: r := by
  unfold bl
  rw [List.dropWhile_cons, if_neg (by simpa using h)]
theorem bl_space (r : List UInt8) : bl (32 :: r) = bl r := by
  unfold bl
  rw [List.dropWhile_cons, if_pos (by decide)]
theorem good_tk {x r : List UInt8} (h : Tk x r) : Good (x ++ r) := .inr (by rw [h.long]; exact h.pos)
/-- the operators' tokens -/
theorem op_tk {k : Nat} (h : 9 ≤ k ∧ k ≤ 15) (r : List UInt8) : Tk (opT k) (32 :: r) ∧ ∀ l, bl (opT k ++ l) = opT k ++ l := by
  have hs : Stop (32 :: r) := .inr ⟨32, r, rfl, .inl rfl⟩
  have : k = 9 ∨ k = 10 ∨ k = 11 ∨ k = 12 ∨ k = 13 ∨ k = 14 ∨ k = 15 := by omega
  rcases this with rfl | rfl | rfl | rfl | rfl | rfl | rfl
  · exact ⟨tk_word (c := 97) (x := [110, 100]) (by decide) (by decide) (by decide) hs, fun l => bl_cons (by decide) _⟩
  · exact ⟨tk_word (c := 111) (x := [114]) (by decide) (by decide) (by decide) hs, fun l => bl_cons (by decide) _⟩
  · exact ⟨tk_sign (by decide) _, fun l => bl_cons (by decide) _⟩
  · exact ⟨tk_sign (by decide) _, fun l => bl_cons (by decide) _⟩
  · exact ⟨tk_sign (by decide) _, fun l => bl_cons (by decide) _⟩
  · exact ⟨tk_sign (by decide) _, fun l => bl_cons (by decide) _⟩
  · exact ⟨tk_sign (by decide) _, fun l => bl_cons (by decide) _⟩
theorem op_now {k : Nat} (h : 9 ≤ k ∧ k ≤ 15) : (⟨(opT k).toArray⟩ : ByteArray) = (if k = 9 then andS else if k = 10 then orS else if k = 11 then eqS else if k = 12 then ltS else if k = 13 then addS else if k = 14 then subS else mulS) := by
  have : k = 9 ∨ k = 10 ∨ k = 11 ∨ k = 12 ∨ k = 13 ∨ k = 14 ∨ k = 15 := by omega
  rcases this with rfl | rfl | rfl | rfl | rfl | rfl | rfl <;> rfl

/-! One of the grammar's rows over the next. -/
section
variable {s : ByteArray} {f : Nat} {st st1 st2 st3 : GSt} {a b : GT} {k : Nat}
theorem row_none {nt : NT} {kinds : ByteArray → Option Nat} (h : kinds st1.now = none) : rowL s (pars s f nt) kinds (f + 1) a st1 = some (.ok (a, st1)) := by rw [rowL, h]
theorem row_one {nt : NT} {kinds : ByteArray → Option Nat} (h : kinds st1.now = some k) (hs : stepB s st1.i = .ok st2) (hp : pars s f nt st2 = some (.ok (b, st3))) (h3 : kinds st3.now = none) : rowL s (pars s f nt) kinds (f + 2) a st1 = some (.ok (.two k a b, st3)) := by
  rw [rowL, h]; simp only [hs, hp]; rw [rowL, h3]
/-- more fuel -/
def Ev (s : ByteArray) (nt : NT) (st : GSt) (x : GT × GSt) : Prop := ∃ f, pars s f nt st = some (.ok x)
theorem Ev.two {nt nt' : NT} {st st' : GSt} {x y : GT × GSt} (h : Ev s nt st x) (h' : Ev s nt' st' y) : ∃ f, 3 ≤ f ∧ pars s f nt st = some (.ok x) ∧ pars s f nt' st' = some (.ok y) := by
  obtain ⟨f, h⟩ := h
  obtain ⟨f', h'⟩ := h'
  exact ⟨max f f' + 3, by omega, pars_up (by omega) nt _ _ h, pars_up (by omega) nt' _ _ h'⟩
theorem Ev.big {nt : NT} {x : GT × GSt} (h : Ev s nt st x) (n : Nat) : ∃ f, n ≤ f ∧ pars s f nt st = some (.ok x) := by
  obtain ⟨f, h⟩ := h
  exact ⟨f + n, by omega, pars_up (by omega) nt _ _ h⟩
def subOf : NT → NT
  | .guard => .side
  | .side => .part
  | .sum => .product
  | _ => .atom
def kindOf : NT → ByteArray → Option Nat
  | .guard => kOr
  | .side => kAnd
  | .sum => kSum
  | _ => kMul
theorem rowf_up {nt : NT} {kinds : ByteArray → Option Nat} {f f' : Nat} {x : Except Nat (GT × GSt)} (hf : f ≤ f') (h : rowL s (pars s f nt) kinds f a st1 = some x) : rowL s (pars s f' nt) kinds f' a st1 = some x :=
  rowL_up (pars_up hf nt) kinds f f' _ _ _ hf h
theorem ev_row {nt : NT} (hn : nt = .guard ∨ nt = .side ∨ nt = .sum ∨ nt = .product) {x : GT × GSt} (h : Ev s (subOf nt) st (a, st1)) (hr : ∃ f, rowL s (pars s f (subOf nt)) (kindOf nt) f a st1 = some (.ok x)) : Ev s nt st x := by
  obtain ⟨f, h⟩ := h
  obtain ⟨f', hr⟩ := hr
  have h1 := pars_up (Nat.le_max_left f f') _ _ _ h
  have h2 := rowf_up (Nat.le_max_right f f') hr
  rcases hn with rfl | rfl | rfl | rfl
  all_goals
    refine ⟨max f f' + 1, ?_⟩
    rw [pars]
    simp only [subOf, kindOf] at h1 h2
    rw [h1]
    exact h2
/-- nothing more of that kind -/
theorem ev_up {nt : NT} (hn : nt = .guard ∨ nt = .side ∨ nt = .sum ∨ nt = .product) (h : Ev s (subOf nt) st (a, st1)) (hk : kindOf nt st1.now = none) : Ev s nt st (a, st1) :=
  ev_row hn h ⟨1, by rw [rowL, hk]⟩
/-- one more -/
theorem ev_two {nt : NT} (hn : nt = .guard ∨ nt = .side ∨ nt = .sum ∨ nt = .product) (h : Ev s (subOf nt) st (a, st1)) (hk : kindOf nt st1.now = some k) (hs : stepB s st1.i = .ok st2) (h2 : Ev s (subOf nt) st2 (b, st3)) (h3 : kindOf nt st3.now = none) : Ev s nt st (.two k a b, st3) := by
  obtain ⟨f, h2⟩ := h2
  refine ev_row hn h ⟨f + 2, ?_⟩
  rw [rowL, hk]
  simp only [hs]
  rw [pars_up (by omega : f ≤ f + 2) _ _ _ h2]
  simp only
  rw [rowL, h3]
theorem ev_part (h : Ev s .sum st (a, st1)) (hn : st.now ≠ notS) (hk : kRel st1.now = none) : Ev s .part st (a, st1) := by
  obtain ⟨f, h⟩ := h
  refine ⟨f + 1, ?_⟩
  rw [pars, if_neg hn, h]
  simp only [thenP, hk]
theorem ev_rel (h : Ev s .sum st (a, st1)) (hn : st.now ≠ notS) (hk : kRel st1.now = some k) (hs : stepB s st1.i = .ok st2) (h2 : Ev s .sum st2 (b, st3)) : Ev s .part st (.two k a b, st3) := by
  obtain ⟨f, -, h, h2⟩ := h.two h2
  refine ⟨f + 1, ?_⟩
  rw [pars, if_neg hn, h]
  simp only [thenP, hk, hs, thenS, h2]
theorem ev_not (hn : st.now = notS) (hs : stepB s st.i = .ok st1) (h : Ev s .part st1 (a, st2)) : Ev s .part st (.one 8 a, st2) := by
  obtain ⟨f, h⟩ := h
  refine ⟨f + 1, ?_⟩
  rw [pars, if_pos hn, hs]
  simp only [thenS, h, thenP]
/-- an atom is no 'not' -/
theorem atom_notnot (h : Ev s .atom st (a, st1)) : st.now ≠ notS := by
  intro hn
  obtain ⟨f, h⟩ := h
  cases f with
  | zero => cases h
  | succ f =>
    rw [at7 (by rw [hn]; decide) (by rw [hn]; decide) (by rw [hn]; decide) (by rw [hn]; decide) (by rw [hn]; decide) (by rw [hn]; decide), if_neg (by rw [hn]; decide)] at h
    cases h
end
/-- what ends a guard -/
def Ends (x : ByteArray) : Prop := x = ⟨#[]⟩ ∨ x = rparS
theorem ends_none {x : ByteArray} (h : Ends x) : kOr x = none ∧ kAnd x = none ∧ kRel x = none ∧ kSum x = none ∧ kMul x = none := by
  rcases h with rfl | rfl <;> decide
/-- an atom that stands alone is a guard -/
theorem alone {s : ByteArray} {st st1 : GSt} {a : GT} (h : Ev s .atom st (a, st1)) (hk : kOr st1.now = none ∧ kAnd st1.now = none ∧ kRel st1.now = none ∧ kSum st1.now = none ∧ kMul st1.now = none) : Ev s .part st (a, st1) ∧ Ev s .side st (a, st1) ∧ Ev s .guard st (a, st1) := by
  obtain ⟨h1, h2, h3, h4, h5⟩ := hk
  have e1 := ev_up (nt := .product) (by simp) h h5
  have e2 := ev_up (nt := .sum) (by simp) e1 h4
  have e3 := ev_part e2 (atom_notnot h) h3
  have e4 := ev_up (nt := .side) (by simp) e3 h2
  exact ⟨e3, e4, ev_up (nt := .guard) (by simp) e4 h1⟩
/-- two atoms with a sign between them -/
theorem between {s : ByteArray} {st st1 st2 st3 : GSt} {a b : GT} {k : Nat} (hk : 9 ≤ k ∧ k ≤ 15) (h : Ev s .atom st (a, st1)) (hn : st1.now = ⟨(opT k).toArray⟩) (hs : stepB s st1.i = .ok st2) (h2 : Ev s .atom st2 (b, st3)) (he : Ends st3.now) : Ev s .guard st (.two k a b, st3) := by
  obtain ⟨z1, z2, z3, z4, z5⟩ := ends_none he
  have hnn := atom_notnot h
  have hnn2 := atom_notnot h2
  have bp := ev_up (nt := .product) (by simp) h2 z5
  have bs := ev_up (nt := .sum) (by simp) bp z4
  have bt := ev_part bs hnn2 z3
  have bd := ev_up (nt := .side) (by simp) bt z2
  have : k = 9 ∨ k = 10 ∨ k = 11 ∨ k = 12 ∨ k = 13 ∨ k = 14 ∨ k = 15 := by omega
  rcases this with rfl | rfl | rfl | rfl | rfl | rfl | rfl
  · have e1 := ev_up (nt := .product) (by simp) h (by rw [hn]; decide)
    have e2 := ev_up (nt := .sum) (by simp) e1 (by rw [hn]; decide)
    have e3 := ev_part e2 hnn (by rw [hn]; decide)
    have e4 := ev_two (nt := .side) (by simp) e3 (k := 9) (by rw [hn]; decide) hs bt z2
    exact ev_up (nt := .guard) (by simp) e4 z1
  · have e1 := ev_up (nt := .product) (by simp) h (by rw [hn]; decide)
    have e2 := ev_up (nt := .sum) (by simp) e1 (by rw [hn]; decide)
    have e3 := ev_part e2 hnn (by rw [hn]; decide)
    have e4 := ev_up (nt := .side) (by simp) e3 (by rw [hn]; decide)
    exact ev_two (nt := .guard) (by simp) e4 (k := 10) (by rw [hn]; decide) hs bd z1
  · have e1 := ev_up (nt := .product) (by simp) h (by rw [hn]; decide)
    have e2 := ev_up (nt := .sum) (by simp) e1 (by rw [hn]; decide)
    have e3 := ev_rel e2 hnn (k := 11) (by rw [hn]; decide) hs bs
    exact ev_up (nt := .guard) (by simp) (ev_up (nt := .side) (by simp) e3 z2) z1
  · have e1 := ev_up (nt := .product) (by simp) h (by rw [hn]; decide)
    have e2 := ev_up (nt := .sum) (by simp) e1 (by rw [hn]; decide)
    have e3 := ev_rel e2 hnn (k := 12) (by rw [hn]; decide) hs bs
    exact ev_up (nt := .guard) (by simp) (ev_up (nt := .side) (by simp) e3 z2) z1
  · have e1 := ev_up (nt := .product) (by simp) h (by rw [hn]; decide)
    have e2 := ev_two (nt := .sum) (by simp) e1 (k := 13) (by rw [hn]; decide) hs bp z4
    exact ev_up (nt := .guard) (by simp) (ev_up (nt := .side) (by simp) (ev_part e2 hnn z3) z2) z1
  · have e1 := ev_up (nt := .product) (by simp) h (by rw [hn]; decide)
    have e2 := ev_two (nt := .sum) (by simp) e1 (k := 14) (by rw [hn]; decide) hs bp z4
    exact ev_up (nt := .guard) (by simp) (ev_up (nt := .side) (by simp) (ev_part e2 hnn z3) z2) z1
  · have e1 := ev_two (nt := .product) (by simp) h (k := 15) (by rw [hn]; decide) hs h2 z5
    have e2 := ev_up (nt := .sum) (by simp) e1 z4
    exact ev_up (nt := .guard) (by simp) (ev_up (nt := .side) (by simp) (ev_part e2 hnn z3) z2) z1
end Go.Proofs.YtkmgbkcpjlilpaaDoor
