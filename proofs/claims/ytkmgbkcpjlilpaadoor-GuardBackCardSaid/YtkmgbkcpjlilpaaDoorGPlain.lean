/- Guards as texts: tokens and the grammar, plain. -/
import Derived.Test.YtkmgbkcpjlilpaaDoorDec
namespace Go.Proofs.YtkmgbkcpjlilpaaDoor
open Go.RowKit

/-- a guard as it is read -/
inductive GT where
  | leaf (k : Nat) (n : Int) (s : ByteArray)
  | one (k : Nat) (a : GT)
  | two (k : Nat) (a b : GT)
def GT.deep : GT → Nat
  | .leaf .. => 1
  | .one _ a => a.deep + 1
  | .two _ a b => max a.deep b.deep + 1

def letterB (c : UInt8) : Bool := decide (97 ≤ c.toNat ∧ c.toNat ≤ 122) || decide (48 ≤ c.toNat ∧ c.toNat ≤ 57) || c == 45 || c == 95 || c == 46
def digitB (c : UInt8) : Bool := decide (48 ≤ c.toNat ∧ c.toNat ≤ 57)
def quotB (c : UInt8) : Bool := decide (32 ≤ c.toNat ∧ c.toNat ≤ 126) && c != 39
def signsB : List UInt8 := [61, 60, 43, 45, 42, 40, 41, 48]
/-- how many bytes the token has that these begin with; 0: none -/
def longB : List UInt8 → Nat
  | [] => 0
  | c :: r =>
    if signsB.contains c then 1
    else if 49 ≤ c.toNat ∧ c.toNat ≤ 57 then (if spell 0 (c :: r.takeWhile digitB) ≤ 9223372036854775807 then (r.takeWhile digitB).length + 1 else 0)
    else if c = 39 then (if (r.takeWhile (· != 39)).length < r.length ∧ (r.takeWhile (· != 39)).all quotB then (r.takeWhile (· != 39)).length + 2 else 0)
    else if 97 ≤ c.toNat ∧ c.toNat ≤ 122 then (if (r.takeWhile letterB).length + 1 ≤ 32 then (r.takeWhile letterB).length + 1 else 0)
    else 0
/-- a reader's state: where it goes on, where the token that stands next begins, its text -/
structure GSt where
  i : Nat
  pos : Nat
  now : ByteArray
def fromB (s : ByteArray) (i : Nat) : Nat := i + ((s.data.toList.drop i).takeWhile (· == 32)).length
def stepB (s : ByteArray) (i : Nat) : Except Nat GSt :=
  if fromB s i = s.size then .ok ⟨fromB s i, fromB s i, ⟨#[]⟩⟩
  else if longB (s.data.toList.drop (fromB s i)) = 0 then .error (fromB s i)
  else .ok ⟨fromB s i + longB (s.data.toList.drop (fromB s i)), fromB s i, s.extract (fromB s i) (fromB s i + longB (s.data.toList.drop (fromB s i)))⟩

theorem takeWhile_le {p : UInt8 → Bool} (l : List UInt8) : (l.takeWhile p).length ≤ l.length := (List.takeWhile_sublist p).length_le
theorem longB_le : ∀ l : List UInt8, longB l ≤ l.length
  | [] => Nat.le_refl _
  | c :: r => by
    have h1 := takeWhile_le (p := digitB) r
    have h2 := takeWhile_le (p := letterB) r
    unfold longB
    simp only [List.length_cons]
    split
    · omega
    · split
      · split <;> omega
      · split
        · split
          · rename_i h; omega
          · omega
        · split
          · split <;> omega
          · omega
theorem fromB_ge (s : ByteArray) (i : Nat) : i ≤ fromB s i := Nat.le_add_right _ _
theorem fromB_le (s : ByteArray) {i : Nat} (h : i ≤ s.size) : fromB s i ≤ s.size := by
  have h1 := takeWhile_le (p := (· == 32)) (s.data.toList.drop i)
  rw [List.length_drop, ba_len] at h1
  unfold fromB
  omega
/-- a step goes on, and not too far -/
theorem stepB_ok {s : ByteArray} {i : Nat} {st : GSt} (hi : i ≤ s.size) (h : stepB s i = .ok st) : i ≤ st.i ∧ st.i ≤ s.size ∧ st.pos ≤ st.i ∧ i ≤ st.pos ∧ (st.now.size = 0 ∨ (st.pos < st.i ∧ st.now.size = st.i - st.pos)) := by
  have h1 := fromB_ge s i
  have h2 := fromB_le s hi
  have h3 := longB_le (s.data.toList.drop (fromB s i))
  rw [List.length_drop, ba_len] at h3
  unfold stepB at h
  split at h
  · injection h with h; subst h
    exact ⟨h1, h2, Nat.le_refl _, h1, .inl rfl⟩
  · split at h
    · cases h
    · injection h with h; subst h
      refine ⟨by simp only; omega, by simp only; omega, by simp only; omega, h1, .inr ⟨by simp only; omega, ?_⟩⟩
      simp only [ByteArray.size_extract]
      omega

/-! The grammar, by a fuel. -/
inductive NT where
  | guard | side | part | sum | product | atom
abbrev PR := Option (Except Nat (GT × GSt))
def bsOf (l : List UInt8) : ByteArray := ⟨l.toArray⟩
abbrev orS : ByteArray := ⟨#[111, 114]⟩
abbrev andS : ByteArray := ⟨#[97, 110, 100]⟩
abbrev notS : ByteArray := ⟨#[110, 111, 116]⟩
abbrev trueS : ByteArray := ⟨#[116, 114, 117, 101]⟩
abbrev falseS : ByteArray := ⟨#[102, 97, 108, 115, 101]⟩
abbrev openS : ByteArray := ⟨#[111, 112, 101, 110]⟩
abbrev doneS : ByteArray := ⟨#[100, 111, 110, 101]⟩
abbrev eqS : ByteArray := ⟨#[61]⟩
abbrev ltS : ByteArray := ⟨#[60]⟩
abbrev addS : ByteArray := ⟨#[43]⟩
abbrev subS : ByteArray := ⟨#[45]⟩
abbrev mulS : ByteArray := ⟨#[42]⟩
abbrev lparS : ByteArray := ⟨#[40]⟩
abbrev rparS : ByteArray := ⟨#[41]⟩
def takenB (s : ByteArray) : Bool := decide (s = andS ∨ s = orS ∨ s = notS ∨ s = trueS ∨ s = falseS ∨ s = openS ∨ s = doneS)
def namedG (s : ByteArray) : Bool := decide (0 < s.size) && decide (s.size ≤ 32) && decide (97 ≤ (s.data.toList.headD 0).toNat ∧ (s.data.toList.headD 0).toNat ≤ 122) && !takenB s && s.data.toList.all letterB
/-- a token that must stand next -/
def needB (s : ByteArray) (x : ByteArray) (st : GSt) : Except Nat GSt := if st.now = x then stepB s st.i else .error st.pos
def kOr (x : ByteArray) : Option Nat := if x = orS then some 10 else none
def kAnd (x : ByteArray) : Option Nat := if x = andS then some 9 else none
def kSum (x : ByteArray) : Option Nat := if x = addS then some 13 else if x = subS then some 14 else none
def kMul (x : ByteArray) : Option Nat := if x = mulS then some 15 else none
def kRel (x : ByteArray) : Option Nat := if x = eqS then some 11 else if x = ltS then some 12 else none
/-- what stands between words or signs, from the left -/
def rowL (s : ByteArray) (one : GSt → PR) (kinds : ByteArray → Option Nat) : Nat → GT → GSt → PR
  | 0, _, _ => none
  | f + 1, g, st => match kinds st.now with
    | none => some (.ok (g, st))
    | some k => match stepB s st.i with
      | .error a => some (.error a)
      | .ok st1 => match one st1 with
        | none => none
        | some (.error a) => some (.error a)
        | some (.ok (h, st2)) => rowL s one kinds f (.two k g h) st2
def thenP (r : PR) (k : GT → GSt → PR) : PR := match r with
  | none => none
  | some (.error a) => some (.error a)
  | some (.ok (g, st)) => k g st
def thenS (r : Except Nat GSt) (k : GSt → PR) : PR := match r with
  | .error a => some (.error a)
  | .ok st => k st
/-- a name that must stand next -/
def nameB (s : ByteArray) (st : GSt) (k : ByteArray → GSt → PR) : PR := if namedG st.now then thenS (stepB s st.i) (k st.now) else some (.error st.pos)
def atomL (s : ByteArray) (guard : GSt → PR) (st : GSt) : PR :=
  if st.now = trueS then thenS (stepB s st.i) fun st1 => some (.ok (.leaf 1 0 ⟨#[]⟩, st1))
  else if st.now = falseS then thenS (stepB s st.i) fun st1 => some (.ok (.leaf 2 0 ⟨#[]⟩, st1))
  else if st.now = openS ∨ st.now = doneS then thenS (stepB s st.i) fun st1 => thenS (needB s lparS st1) fun st2 => nameB s st2 fun x st3 => thenS (needB s rparS st3) fun st4 => some (.ok (.leaf (if st.now = doneS then 7 else 6) 0 x, st4))
  else if st.now = lparS then thenS (stepB s st.i) fun st1 => thenP (guard st1) fun g st2 => thenS (needB s rparS st2) fun st3 => some (.ok (g, st3))
  else if 0 < st.now.size ∧ digitB (st.now.data.toList.headD 0) then thenS (stepB s st.i) fun st1 => some (.ok (.leaf 3 (spell 0 st.now.data.toList) ⟨#[]⟩, st1))
  else if 0 < st.now.size ∧ st.now.data.toList.headD 0 = 39 then thenS (stepB s st.i) fun st1 => some (.ok (.leaf 4 0 (st.now.extract 1 (st.now.size - 1)), st1))
  else nameB s st fun x st1 => some (.ok (.leaf 5 0 x, st1))
def pars (s : ByteArray) : Nat → NT → GSt → PR
  | 0, _, _ => none
  | f + 1, .guard, st => thenP (pars s f .side st) fun g st1 => rowL s (pars s f .side) kOr f g st1
  | f + 1, .side, st => thenP (pars s f .part st) fun g st1 => rowL s (pars s f .part) kAnd f g st1
  | f + 1, .part, st =>
    if st.now = notS then thenS (stepB s st.i) fun st1 => thenP (pars s f .part st1) fun g st2 => some (.ok (.one 8 g, st2))
    else thenP (pars s f .sum st) fun g st1 => match kRel st1.now with
      | none => some (.ok (g, st1))
      | some k => thenS (stepB s st1.i) fun st2 => thenP (pars s f .sum st2) fun h st3 => some (.ok (.two k g h, st3))
  | f + 1, .sum, st => thenP (pars s f .product st) fun g st1 => rowL s (pars s f .product) kSum f g st1
  | f + 1, .product, st => thenP (pars s f .atom st) fun g st1 => rowL s (pars s f .atom) kMul f g st1
  | f + 1, .atom, st => atomL s (pars s f .guard) st
/-- what reading a text as a guard is: no place and no error; a place; too deep -/
def readG (s : ByteArray) (f : Nat) : Option (Except (Nat × Int) GT) := match stepB s 0 with
  | .error a => some (.error (a, 170))
  | .ok st => match pars s f .guard st with
    | none => none
    | some (.error a) => some (.error (a, 170))
    | some (.ok (g, st1)) => if st1.now.size ≠ 0 then some (.error (st1.pos, 170)) else if 32 < g.deep then some (.error (0, 161)) else some (.ok g)

/-! More fuel does no harm. -/
theorem thenP_some {r : PR} {k : GT → GSt → PR} {x : Except Nat (GT × GSt)} (h : thenP r k = some x) : (∃ a, r = some (.error a) ∧ x = .error a) ∨ ∃ g st, r = some (.ok (g, st)) ∧ k g st = some x := by
  unfold thenP at h
  split at h
  · cases h
  · rename_i a; injection h with h; exact .inl ⟨a, rfl, h.symm⟩
  · rename_i g st; exact .inr ⟨g, st, rfl, h⟩
def Up (p q : GSt → PR) : Prop := ∀ st x, p st = some x → q st = some x
theorem rowL_up {s : ByteArray} {p q : GSt → PR} (hpq : Up p q) (kinds : ByteArray → Option Nat) : ∀ (f f' : Nat) (g : GT) (st : GSt) (x : Except Nat (GT × GSt)), f ≤ f' → rowL s p kinds f g st = some x → rowL s q kinds f' g st = some x
  | 0, _, _, _, _, _, h => by cases h
  | f + 1, 0, _, _, _, hf, _ => by omega
  | f + 1, f' + 1, g, st, x, hf, h => by
    rw [rowL] at h ⊢
    cases hk : kinds st.now with
    | none => rw [hk] at h; exact h
    | some k =>
      rw [hk] at h
      simp only at h ⊢
      cases hs : stepB s st.i with
      | error a => rw [hs] at h; exact h
      | ok st1 =>
        rw [hs] at h
        simp only at h ⊢
        cases ho : p st1 with
        | none => rw [ho] at h; cases h
        | some y =>
          rw [hpq _ _ ho]
          rw [ho] at h
          cases y with
          | error a => exact h
          | ok z => exact rowL_up hpq kinds f f' _ _ _ (by omega) h
theorem thenP_up {r r' : PR} {k k' : GT → GSt → PR} (hr : ∀ x, r = some x → r' = some x) (hk : ∀ g st x, k g st = some x → k' g st = some x) {x : Except Nat (GT × GSt)} (h : thenP r k = some x) : thenP r' k' = some x := by
  rcases thenP_some h with ⟨a, rfl, rfl⟩ | ⟨g, st, rfl, h2⟩
  · rw [hr _ rfl]; rfl
  · rw [hr _ rfl]; exact hk _ _ _ h2
theorem thenS_up {r : Except Nat GSt} {k k' : GSt → PR} (hk : ∀ st x, k st = some x → k' st = some x) {x : Except Nat (GT × GSt)} (h : thenS r k = some x) : thenS r k' = some x := by
  cases r with
  | error a => exact h
  | ok st => exact hk _ _ h
theorem atomL_up {s : ByteArray} {p q : GSt → PR} (hpq : Up p q) {st : GSt} {x : Except Nat (GT × GSt)} (h : atomL s p st = some x) : atomL s q st = some x := by
  unfold atomL at *
  split
  · rename_i h1; rw [if_pos h1] at h; exact h
  · rename_i h1; rw [if_neg h1] at h
    split
    · rename_i h2; rw [if_pos h2] at h; exact h
    · rename_i h2; rw [if_neg h2] at h
      split
      · rename_i h3; rw [if_pos h3] at h; exact h
      · rename_i h3; rw [if_neg h3] at h
        split
        · rename_i h4; rw [if_pos h4] at h
          exact thenS_up (fun st1 y hy => thenP_up (fun z hz => hpq _ _ hz) (fun _ _ _ h => h) hy) h
        · rename_i h4; rw [if_neg h4] at h
          exact h
theorem pars_up1 (s : ByteArray) : ∀ (f : Nat) (nt : NT), Up (pars s f nt) (pars s (f + 1) nt)
  | 0, _, _, _, h => by cases h
  | f + 1, .guard, st, x, h => by
    rw [pars] at h ⊢
    exact thenP_up (fun y hy => pars_up1 s f .side _ _ hy) (fun g st1 y hy => rowL_up (pars_up1 s f .side) kOr f (f + 1) g st1 y (by omega) hy) h
  | f + 1, .side, st, x, h => by
    rw [pars] at h ⊢
    exact thenP_up (fun y hy => pars_up1 s f .part _ _ hy) (fun g st1 y hy => rowL_up (pars_up1 s f .part) kAnd f (f + 1) g st1 y (by omega) hy) h
  | f + 1, .part, st, x, h => by
    rw [pars] at h ⊢
    split
    · rename_i h1
      rw [if_pos h1] at h
      exact thenS_up (fun st1 y hy => thenP_up (fun z hz => pars_up1 s f .part _ _ hz) (fun _ _ _ h => h) hy) h
    · rename_i h1
      rw [if_neg h1] at h
      refine thenP_up (fun z hz => pars_up1 s f .sum _ _ hz) (fun g st1 y hy => ?_) h
      cases hk : kRel st1.now with
      | none => rw [hk] at hy; exact hy
      | some k =>
        rw [hk] at hy
        exact thenS_up (fun st2 z hz => thenP_up (fun u hu => pars_up1 s f .sum _ _ hu) (fun _ _ _ h => h) hz) hy
  | f + 1, .sum, st, x, h => by
    rw [pars] at h ⊢
    exact thenP_up (fun y hy => pars_up1 s f .product _ _ hy) (fun g st1 y hy => rowL_up (pars_up1 s f .product) kSum f (f + 1) g st1 y (by omega) hy) h
  | f + 1, .product, st, x, h => by
    rw [pars] at h ⊢
    exact thenP_up (fun y hy => pars_up1 s f .atom _ _ hy) (fun g st1 y hy => rowL_up (pars_up1 s f .atom) kMul f (f + 1) g st1 y (by omega) hy) h
  | f + 1, .atom, st, x, h => by
    rw [pars] at h ⊢
    exact atomL_up (pars_up1 s f .guard) h
theorem pars_up {s : ByteArray} {f f' : Nat} (hf : f ≤ f') (nt : NT) : Up (pars s f nt) (pars s f' nt) := by
  induction hf with
  | refl => exact fun _ _ h => h
  | step _ ih => exact fun st x h => pars_up1 s _ nt _ _ (ih st x h)
theorem pars_fun {s : ByteArray} {f f' : Nat} {nt : NT} {st : GSt} {x y : Except Nat (GT × GSt)} (h : pars s f nt st = some x) (h' : pars s f' nt st = some y) : x = y := by
  have h1 := pars_up (Nat.le_max_left f f') nt _ _ h
  have h2 := pars_up (Nat.le_max_right f f') nt _ _ h'
  rw [h1] at h2
  exact Option.some.inj h2
theorem readG_fun {s : ByteArray} {f f' : Nat} {x y : Except (Nat × Int) GT} (h : readG s f = some x) (h' : readG s f' = some y) : x = y := by
  unfold readG at h h'
  cases hs : stepB s 0 with
  | error a => rw [hs] at h h'; simp only at h h'; rw [h] at h'; exact Option.some.inj h'
  | ok st =>
    rw [hs] at h h'
    simp only at h h'
    cases h1 : pars s f .guard st with
    | none => rw [h1] at h; cases h
    | some u =>
      cases h2 : pars s f' .guard st with
      | none => rw [h2] at h'; cases h'
      | some v =>
        obtain rfl := pars_fun h1 h2
        rw [h1] at h; rw [h2] at h'
        rw [h] at h'
        exact Option.some.inj h'
end Go.Proofs.YtkmgbkcpjlilpaaDoor
