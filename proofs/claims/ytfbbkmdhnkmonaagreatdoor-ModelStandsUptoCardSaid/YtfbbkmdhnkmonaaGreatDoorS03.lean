/- Digits, plain; the reference's number, plain. Guards as texts: tokens and the grammar, plain. A variable's block, whole; cells that stay. A reader's own block, and guards in memory. package guard: letter, quoted, taken, named; strings.TrimLeft at digits, strconv.ParseInt at digits. -/
import Derived.Lib.AtoiAll
import Derived.Lib.ItoaNum
import Derived.Test.YtfbbkmdhnkmonaaGreatDoorS01
import Derived.Test.YtfbbkmdhnkmonaaGreatDoorProg
import Derived.Deep.MidRow
import Derived.Lib.ParseIntB
import Derived.Lib.SlicesS
import Derived.Shelf.Strings.SlTrimAscii
import Derived.Shelf.Strings.FuncGrows
import Derived.Test.YtfbbkmdhnkmonaaGreatDoorShelf
import Derived.Test.YtfbbkmdhnkmonaaGreatDoorS02
namespace Go.Proofs.YtfbbkmdhnkmonaaGreatDoor
open Go.RowKit

/-- a digit -/
def isDig (c : UInt8) : Prop := 48 ≤ c.toNat ∧ c.toNat ≤ 57
theorem dec_dig : ∀ (u : Nat), ∀ c ∈ Lib.decDigits u, isDig c := by
  intro u
  induction u using Nat.strongRecOn with
  | _ u ih =>
    intro c hc
    rw [Lib.decDigits] at hc
    split at hc
    · rename_i h
      simp at hc
      subst hc
      unfold isDig
      simp
      omega
    · rcases List.mem_append.1 hc with h1 | h1
      · exact ih (u / 10) (by omega) c h1
      · simp at h1
        subst h1
        unfold isDig
        simp
        omega
theorem dec_ne (u : Nat) : Lib.decDigits u ≠ [] := by
  intro h
  have h1 := Lib.decDigits_length u
  have h2 := Lib.nDigits_pos u
  rw [h] at h1
  simp at h1
  omega
/-- what digits spell -/
def spell (acc : Nat) : List UInt8 → Nat
  | [] => acc
  | c :: r => spell (acc * 10 + (c.toNat - 48)) r
theorem spell_append (ys : List UInt8) : ∀ (xs : List UInt8) (acc : Nat), spell acc (xs ++ ys) = spell (spell acc xs) ys
  | [], _ => rfl
  | _ :: r, _ => spell_append ys r _
theorem spell_ge : ∀ (l : List UInt8) (acc : Nat), acc ≤ spell acc l
  | [], _ => Nat.le_refl _
  | c :: r, acc => Nat.le_trans (by omega) (spell_ge r (acc * 10 + (c.toNat - 48)))
theorem spell_dec : ∀ (u : Nat), spell 0 (Lib.decDigits u) = u := by
  intro u
  induction u using Nat.strongRecOn with
  | _ u ih =>
    by_cases h : u < 10
    · rw [Lib.decDigits, dif_pos h]
      show 0 * 10 + ((UInt8.ofNat (48 + u)).toNat - 48) = u
      rw [UInt8.toNat_ofNat']
      omega
    · rw [Lib.decDigits, dif_neg h, spell_append, ih (u / 10) (by omega)]
      show u / 10 * 10 + ((UInt8.ofNat (48 + u % 10)).toNat - 48) = u
      rw [UInt8.toNat_ofNat']
      omega
theorem parse_spell : ∀ (l : List UInt8) (acc : Nat), (∀ c ∈ l, isDig c) → spell acc l < 9223372036854775808 → Lib.parseUint10 acc l = .ok (spell acc l)
  | [], _, _, _ => rfl
  | c :: r, acc, hd, hs => by
    have h1 := spell_ge r (acc * 10 + (c.toNat - 48))
    have h2 : spell acc (c :: r) = spell (acc * 10 + (c.toNat - 48)) r := rfl
    rw [h2] at hs ⊢
    rw [Lib.parseUint10, if_pos (show 48 ≤ c.toNat ∧ c.toNat ≤ 57 from hd c (List.mem_cons_self ..)), if_neg (by omega), if_neg (by omega)]
    exact parse_spell r _ (fun x hx => hd x (List.mem_cons_of_mem _ hx)) hs
theorem atoi_dec (u : Nat) (h : u < 9223372036854775808) : Lib.atoiAll (Lib.decDigits u) = .ok (u : Int) := by
  have hd := dec_dig u
  have hp := parse_spell (Lib.decDigits u) 0 hd (by rw [spell_dec]; exact h)
  rw [spell_dec] at hp
  have hne := dec_ne u
  generalize Lib.decDigits u = l at hd hp hne ⊢
  cases l with
  | nil => exact absurd rfl hne
  | cons c r =>
    obtain ⟨c1, c2⟩ := hd c (List.mem_cons_self ..)
    have e1 : ¬ c.toNat = 45 := by omega
    have e2 : ¬ (c.toNat = 43 ∨ c.toNat = 45) := by omega
    unfold Lib.atoiAll
    dsimp only
    rw [if_neg e2, Lib.parseMag, if_neg hne, hp]
    dsimp only
    rw [if_neg (by omega), if_neg (by omega), if_neg e1]
theorem dec_inj {u v : Nat} (h : Lib.decDigits u = Lib.decDigits v) : u = v := by
  rw [← spell_dec u, ← spell_dec v, h]

theorem dec_head : ∀ (u : Nat), 1 ≤ u → (Lib.decDigits u).head? ≠ some 48 := by
  intro u
  induction u using Nat.strongRecOn with
  | _ u ih =>
    intro h1
    by_cases h : u < 10
    · rw [Lib.decDigits, dif_pos h]
      intro he
      have he2 : UInt8.ofNat (48 + u) = 48 := by simpa using he
      have := congrArg UInt8.toNat he2
      rw [UInt8.toNat_ofNat'] at this
      have e : (48 : UInt8).toNat = 48 := rfl
      rw [e] at this
      omega
    · rw [Lib.decDigits, dif_neg h]
      have h2 := ih (u / 10) (by omega) (by omega)
      have h3 := dec_ne (u / 10)
      generalize Lib.decDigits (u / 10) = l at h2 h3 ⊢
      cases l with
      | nil => exact absurd rfl h3
      | cons c r => exact h2
theorem nd_le : ∀ (k u : Nat), u < 10 ^ (k + 1) → Lib.nDigits u ≤ k + 1
  | 0, u, h => by rw [Lib.nDigits_small (by simpa using h)]; omega
  | k + 1, u, h => by
    by_cases hu : u < 10
    · rw [Lib.nDigits_small hu]; omega
    · rw [Lib.nDigits_big hu]
      have := nd_le k (u / 10) (by rw [Nat.pow_succ] at h; omega)
      omega
def numberB (s : List UInt8) : Int := if s = [] ∨ 13 < s.length ∨ (s.head? = some 48 ∧ s ≠ [48]) then -1 else if s.all (fun c => decide (48 ≤ c.toNat ∧ c.toNat ≤ 57)) then (spell 0 s : Int) else -1
theorem number_dec (u : Nat) (h : u ≤ 1099511627776) : numberB (Lib.decDigits u) = u := by
  unfold numberB
  rw [if_neg, if_pos, spell_dec]
  · exact List.all_eq_true.2 fun c hc => by simpa [isDig] using dec_dig u c hc
  · rintro (h1 | h1 | ⟨h1, h2⟩)
    · exact dec_ne u h1
    · rw [Lib.decDigits_length] at h1
      have : Lib.nDigits u ≤ 13 := nd_le 12 u (by omega)
      omega
    · by_cases hz : u = 0
      · subst hz; exact h2 (by rw [Lib.decDigits_one (by omega)]; rfl)
      · exact dec_head u (by omega) h1
theorem ba_app (a b : List UInt8) : (⟨a.toArray⟩ : ByteArray) ++ ⟨b.toArray⟩ = ⟨(a ++ b).toArray⟩ := by
  rw [ByteArray.ext_iff, ByteArray.data_append]
  simp
theorem ret_str {a b : List UInt8} (h : a = b) : Ending.returned (.string ⟨a.toArray⟩) = Ending.returned (.string ⟨b.toArray⟩) := by rw [h]
theorem nDig_le : ∀ (k u : Nat), u < 10 ^ (k + 1) → Lib.nDigits u ≤ k + 1
  | 0, u, h => by rw [Lib.nDigits_small (by simpa using h)]; omega
  | k + 1, u, h => by
    by_cases hu : u < 10
    · rw [Lib.nDigits_small hu]; omega
    · rw [Lib.nDigits_big hu]
      have := nDig_le k (u / 10) (by rw [Nat.pow_succ] at h; omega)
      omega
theorem decLen (u : Nat) (h : u < 9223372036854775808) : (Lib.decDigits u).length ≤ 20 := by
  rw [Lib.decDigits_length]
  exact nDig_le 19 u (by omega)

end Go.Proofs.YtfbbkmdhnkmonaaGreatDoor

namespace Go.Proofs.YtfbbkmdhnkmonaaGreatDoor
open Go.RowKit

/-- a guard as it is read -/
inductive GT where
  | leaf (k : Nat) (n : Int) (s : ByteArray)
  | one (k : Nat) (a : GT)
  | two (k : Nat) (a b : GT)
def GT.deep : GT → Nat
  | .leaf .. => 1
  | .one _ a => a.deep + 1
  | .two _ a b => max a.deep b.deep + 1

def letterB (c : UInt8) : Bool := decide (97 ≤ c.toNat ∧ c.toNat ≤ 122) || decide (48 ≤ c.toNat ∧ c.toNat ≤ 57) || c == 45 || c == 95 || c == 46
def digitB (c : UInt8) : Bool := decide (48 ≤ c.toNat ∧ c.toNat ≤ 57)
def quotB (c : UInt8) : Bool := decide (32 ≤ c.toNat ∧ c.toNat ≤ 126) && c != 39
def signsB : List UInt8 := [61, 60, 43, 45, 42, 40, 41, 48]
/-- how many bytes the token has that these begin with; 0: none -/
def longB : List UInt8 → Nat
  | [] => 0
  | c :: r =>
    if signsB.contains c then 1
    else if 49 ≤ c.toNat ∧ c.toNat ≤ 57 then (if spell 0 (c :: r.takeWhile digitB) ≤ 9223372036854775807 then (r.takeWhile digitB).length + 1 else 0)
    else if c = 39 then (if (r.takeWhile (· != 39)).length < r.length ∧ (r.takeWhile (· != 39)).all quotB then (r.takeWhile (· != 39)).length + 2 else 0)
    else if 97 ≤ c.toNat ∧ c.toNat ≤ 122 then (if (r.takeWhile letterB).length + 1 ≤ 32 then (r.takeWhile letterB).length + 1 else 0)
    else 0
/-- a reader's state: where it goes on, where the token that stands next begins, its text -/
structure GSt where
  i : Nat
  pos : Nat
  now : ByteArray
def fromB (s : ByteArray) (i : Nat) : Nat := i + ((s.data.toList.drop i).takeWhile (· == 32)).length
def stepB (s : ByteArray) (i : Nat) : Except Nat GSt :=
  if fromB s i = s.size then .ok ⟨fromB s i, fromB s i, ⟨#[]⟩⟩
  else if longB (s.data.toList.drop (fromB s i)) = 0 then .error (fromB s i)
  else .ok ⟨fromB s i + longB (s.data.toList.drop (fromB s i)), fromB s i, s.extract (fromB s i) (fromB s i + longB (s.data.toList.drop (fromB s i)))⟩

theorem takeWhile_le {p : UInt8 → Bool} (l : List UInt8) : (l.takeWhile p).length ≤ l.length := (List.takeWhile_sublist p).length_le
theorem longB_le : ∀ l : List UInt8, longB l ≤ l.length
  | [] => Nat.le_refl _
  | c :: r => by
    have h1 := takeWhile_le (p := digitB) r
    have h2 := takeWhile_le (p := letterB) r
    unfold longB
    simp only [List.length_cons]
    split
    · omega
    · split
      · split <;> omega
      · split
        · split
          · rename_i h; omega
          · omega
        · split
          · split <;> omega
          · omega
theorem fromB_ge (s : ByteArray) (i : Nat) : i ≤ fromB s i := Nat.le_add_right _ _
theorem fromB_le (s : ByteArray) {i : Nat} (h : i ≤ s.size) : fromB s i ≤ s.size := by
  have h1 := takeWhile_le (p := (· == 32)) (s.data.toList.drop i)
  rw [List.length_drop, ba_len] at h1
  unfold fromB
  omega
/-- a step goes on, and not too far -/
theorem stepB_ok {s : ByteArray} {i : Nat} {st : GSt} (hi : i ≤ s.size) (h : stepB s i = .ok st) : i ≤ st.i ∧ st.i ≤ s.size ∧ st.pos ≤ st.i ∧ i ≤ st.pos ∧ (st.now.size = 0 ∨ (st.pos < st.i ∧ st.now.size = st.i - st.pos)) := by
  have h1 := fromB_ge s i
  have h2 := fromB_le s hi
  have h3 := longB_le (s.data.toList.drop (fromB s i))
  rw [List.length_drop, ba_len] at h3
  unfold stepB at h
  split at h
  · injection h with h; subst h
    exact ⟨h1, h2, Nat.le_refl _, h1, .inl rfl⟩
  · split at h
    · cases h
    · injection h with h; subst h
      refine ⟨by simp only; omega, by simp only; omega, by simp only; omega, h1, .inr ⟨by simp only; omega, ?_⟩⟩
      simp only [ByteArray.size_extract]
      omega

/-! The grammar, by a fuel. -/
inductive NT where
  | guard | side | part | sum | product | atom
abbrev PR := Option (Except Nat (GT × GSt))
def bsOf (l : List UInt8) : ByteArray := ⟨l.toArray⟩
abbrev orS : ByteArray := ⟨#[111, 114]⟩
abbrev andS : ByteArray := ⟨#[97, 110, 100]⟩
abbrev notS : ByteArray := ⟨#[110, 111, 116]⟩
abbrev trueS : ByteArray := ⟨#[116, 114, 117, 101]⟩
abbrev falseS : ByteArray := ⟨#[102, 97, 108, 115, 101]⟩
abbrev openS : ByteArray := ⟨#[111, 112, 101, 110]⟩
abbrev doneS : ByteArray := ⟨#[100, 111, 110, 101]⟩
abbrev eqS : ByteArray := ⟨#[61]⟩
abbrev ltS : ByteArray := ⟨#[60]⟩
abbrev addS : ByteArray := ⟨#[43]⟩
abbrev subS : ByteArray := ⟨#[45]⟩
abbrev mulS : ByteArray := ⟨#[42]⟩
abbrev lparS : ByteArray := ⟨#[40]⟩
abbrev rparS : ByteArray := ⟨#[41]⟩
def takenB (s : ByteArray) : Bool := decide (s = andS ∨ s = orS ∨ s = notS ∨ s = trueS ∨ s = falseS ∨ s = openS ∨ s = doneS)
def namedG (s : ByteArray) : Bool := decide (0 < s.size) && decide (s.size ≤ 32) && decide (97 ≤ (s.data.toList.headD 0).toNat ∧ (s.data.toList.headD 0).toNat ≤ 122) && !takenB s && s.data.toList.all letterB
/-- a token that must stand next -/
def needB (s : ByteArray) (x : ByteArray) (st : GSt) : Except Nat GSt := if st.now = x then stepB s st.i else .error st.pos
def kOr (x : ByteArray) : Option Nat := if x = orS then some 10 else none
def kAnd (x : ByteArray) : Option Nat := if x = andS then some 9 else none
def kSum (x : ByteArray) : Option Nat := if x = addS then some 13 else if x = subS then some 14 else none
def kMul (x : ByteArray) : Option Nat := if x = mulS then some 15 else none
def kRel (x : ByteArray) : Option Nat := if x = eqS then some 11 else if x = ltS then some 12 else none
/-- what stands between words or signs, from the left -/
def rowL (s : ByteArray) (one : GSt → PR) (kinds : ByteArray → Option Nat) : Nat → GT → GSt → PR
  | 0, _, _ => none
  | f + 1, g, st => match kinds st.now with
    | none => some (.ok (g, st))
    | some k => match stepB s st.i with
      | .error a => some (.error a)
      | .ok st1 => match one st1 with
        | none => none
        | some (.error a) => some (.error a)
        | some (.ok (h, st2)) => rowL s one kinds f (.two k g h) st2
def thenP (r : PR) (k : GT → GSt → PR) : PR := match r with
  | none => none
  | some (.error a) => some (.error a)
  | some (.ok (g, st)) => k g st
def thenS (r : Except Nat GSt) (k : GSt → PR) : PR := match r with
  | .error a => some (.error a)
  | .ok st => k st
/-- a name that must stand next -/
def nameB (s : ByteArray) (st : GSt) (k : ByteArray → GSt → PR) : PR := if namedG st.now then thenS (stepB s st.i) (k st.now) else some (.error st.pos)
def atomL (s : ByteArray) (guard : GSt → PR) (st : GSt) : PR :=
  if st.now = trueS then thenS (stepB s st.i) fun st1 => some (.ok (.leaf 1 0 ⟨#[]⟩, st1))
  else if st.now = falseS then thenS (stepB s st.i) fun st1 => some (.ok (.leaf 2 0 ⟨#[]⟩, st1))
  else if st.now = openS ∨ st.now = doneS then thenS (stepB s st.i) fun st1 => thenS (needB s lparS st1) fun st2 => nameB s st2 fun x st3 => thenS (needB s rparS st3) fun st4 => some (.ok (.leaf (if st.now = doneS then 7 else 6) 0 x, st4))
  else if st.now = lparS then thenS (stepB s st.i) fun st1 => thenP (guard st1) fun g st2 => thenS (needB s rparS st2) fun st3 => some (.ok (g, st3))
  else if 0 < st.now.size ∧ digitB (st.now.data.toList.headD 0) then thenS (stepB s st.i) fun st1 => some (.ok (.leaf 3 (spell 0 st.now.data.toList) ⟨#[]⟩, st1))
  else if 0 < st.now.size ∧ st.now.data.toList.headD 0 = 39 then thenS (stepB s st.i) fun st1 => some (.ok (.leaf 4 0 (st.now.extract 1 (st.now.size - 1)), st1))
  else nameB s st fun x st1 => some (.ok (.leaf 5 0 x, st1))
def pars (s : ByteArray) : Nat → NT → GSt → PR
  | 0, _, _ => none
  | f + 1, .guard, st => thenP (pars s f .side st) fun g st1 => rowL s (pars s f .side) kOr f g st1
  | f + 1, .side, st => thenP (pars s f .part st) fun g st1 => rowL s (pars s f .part) kAnd f g st1
  | f + 1, .part, st =>
    if st.now = notS then thenS (stepB s st.i) fun st1 => thenP (pars s f .part st1) fun g st2 => some (.ok (.one 8 g, st2))
    else thenP (pars s f .sum st) fun g st1 => match kRel st1.now with
      | none => some (.ok (g, st1))
      | some k => thenS (stepB s st1.i) fun st2 => thenP (pars s f .sum st2) fun h st3 => some (.ok (.two k g h, st3))
  | f + 1, .sum, st => thenP (pars s f .product st) fun g st1 => rowL s (pars s f .product) kSum f g st1
  | f + 1, .product, st => thenP (pars s f .atom st) fun g st1 => rowL s (pars s f .atom) kMul f g st1
  | f + 1, .atom, st => atomL s (pars s f .guard) st
/-- what reading a text as a guard is: no place and no error; a place; too deep -/
def readG (s : ByteArray) (f : Nat) : Option (Except (Nat × Int) GT) := match stepB s 0 with
  | .error a => some (.error (a, 170))
  | .ok st => match pars s f .guard st with
    | none => none
    | some (.error a) => some (.error (a, 170))
    | some (.ok (g, st1)) => if st1.now.size ≠ 0 then some (.error (st1.pos, 170)) else if 32 < g.deep then some (.error (0, 161)) else some (.ok g)

/-! More fuel does no harm. -/
theorem thenP_some {r : PR} {k : GT → GSt → PR} {x : Except Nat (GT × GSt)} (h : thenP r k = some x) : (∃ a, r = some (.error a) ∧ x = .error a) ∨ ∃ g st, r = some (.ok (g, st)) ∧ k g st = some x := by
  unfold thenP at h
  split at h
  · cases h
  · rename_i a; injection h with h; exact .inl ⟨a, rfl, h.symm⟩
  · rename_i g st; exact .inr ⟨g, st, rfl, h⟩
def Up (p q : GSt → PR) : Prop := ∀ st x, p st = some x → q st = some x
theorem rowL_up {s : ByteArray} {p q : GSt → PR} (hpq : Up p q) (kinds : ByteArray → Option Nat) : ∀ (f f' : Nat) (g : GT) (st : GSt) (x : Except Nat (GT × GSt)), f ≤ f' → rowL s p kinds f g st = some x → rowL s q kinds f' g st = some x
  | 0, _, _, _, _, _, h => by cases h
  | f + 1, 0, _, _, _, hf, _ => by omega
  | f + 1, f' + 1, g, st, x, hf, h => by
    rw [rowL] at h ⊢
    cases hk : kinds st.now with
    | none => rw [hk] at h; exact h
    | some k =>
      rw [hk] at h
      simp only at h ⊢
      cases hs : stepB s st.i with
      | error a => rw [hs] at h; exact h
      | ok st1 =>
        rw [hs] at h
        simp only at h ⊢
        cases ho : p st1 with
        | none => rw [ho] at h; cases h
        | some y =>
          rw [hpq _ _ ho]
          rw [ho] at h
          cases y with
          | error a => exact h
          | ok z => exact rowL_up hpq kinds f f' _ _ _ (by omega) h
theorem thenP_up {r r' : PR} {k k' : GT → GSt → PR} (hr : ∀ x, r = some x → r' = some x) (hk : ∀ g st x, k g st = some x → k' g st = some x) {x : Except Nat (GT × GSt)} (h : thenP r k = some x) : thenP r' k' = some x := by
  rcases thenP_some h with ⟨a, rfl, rfl⟩ | ⟨g, st, rfl, h2⟩
  · rw [hr _ rfl]; rfl
  · rw [hr _ rfl]; exact hk _ _ _ h2
theorem thenS_up {r : Except Nat GSt} {k k' : GSt → PR} (hk : ∀ st x, k st = some x → k' st = some x) {x : Except Nat (GT × GSt)} (h : thenS r k = some x) : thenS r k' = some x := by
  cases r with
  | error a => exact h
  | ok st => exact hk _ _ h
theorem atomL_up {s : ByteArray} {p q : GSt → PR} (hpq : Up p q) {st : GSt} {x : Except Nat (GT × GSt)} (h : atomL s p st = some x) : atomL s q st = some x := by
  unfold atomL at *
  split
  · rename_i h1; rw [if_pos h1] at h; exact h
  · rename_i h1; rw [if_neg h1] at h
    split
    · rename_i h2; rw [if_pos h2] at h; exact h
    · rename_i h2; rw [if_neg h2] at h
      split
      · rename_i h3; rw [if_pos h3] at h; exact h
      · rename_i h3; rw [if_neg h3] at h
        split
        · rename_i h4; rw [if_pos h4] at h
          exact thenS_up (fun st1 y hy => thenP_up (fun z hz => hpq _ _ hz) (fun _ _ _ h => h) hy) h
        · rename_i h4; rw [if_neg h4] at h
          exact h
theorem pars_up1 (s : ByteArray) : ∀ (f : Nat) (nt : NT), Up (pars s f nt) (pars s (f + 1) nt)
  | 0, _, _, _, h => by cases h
  | f + 1, .guard, st, x, h => by
    rw [pars] at h ⊢
    exact thenP_up (fun y hy => pars_up1 s f .side _ _ hy) (fun g st1 y hy => rowL_up (pars_up1 s f .side) kOr f (f + 1) g st1 y (by omega) hy) h
  | f + 1, .side, st, x, h => by
    rw [pars] at h ⊢
    exact thenP_up (fun y hy => pars_up1 s f .part _ _ hy) (fun g st1 y hy => rowL_up (pars_up1 s f .part) kAnd f (f + 1) g st1 y (by omega) hy) h
  | f + 1, .part, st, x, h => by
    rw [pars] at h ⊢
    split
    · rename_i h1
      rw [if_pos h1] at h
      exact thenS_up (fun st1 y hy => thenP_up (fun z hz => pars_up1 s f .part _ _ hz) (fun _ _ _ h => h) hy) h
    · rename_i h1
      rw [if_neg h1] at h
      refine thenP_up (fun z hz => pars_up1 s f .sum _ _ hz) (fun g st1 y hy => ?_) h
      cases hk : kRel st1.now with
      | none => rw [hk] at hy; exact hy
      | some k =>
        rw [hk] at hy
        exact thenS_up (fun st2 z hz => thenP_up (fun u hu => pars_up1 s f .sum _ _ hu) (fun _ _ _ h => h) hz) hy
  | f + 1, .sum, st, x, h => by
    rw [pars] at h ⊢
    exact thenP_up (fun y hy => pars_up1 s f .product _ _ hy) (fun g st1 y hy => rowL_up (pars_up1 s f .product) kSum f (f + 1) g st1 y (by omega) hy) h
  | f + 1, .product, st, x, h => by
    rw [pars] at h ⊢
    exact thenP_up (fun y hy => pars_up1 s f .atom _ _ hy) (fun g st1 y hy => rowL_up (pars_up1 s f .atom) kMul f (f + 1) g st1 y (by omega) hy) h
  | f + 1, .atom, st, x, h => by
    rw [pars] at h ⊢
    exact atomL_up (pars_up1 s f .guard) h
theorem pars_up {s : ByteArray} {f f' : Nat} (hf : f ≤ f') (nt : NT) : Up (pars s f nt) (pars s f' nt) := by
  induction hf with
  | refl => exact fun _ _ h => h
  | step _ ih => exact fun st x h => pars_up1 s _ nt _ _ (ih st x h)
theorem pars_fun {s : ByteArray} {f f' : Nat} {nt : NT} {st : GSt} {x y : Except Nat (GT × GSt)} (h : pars s f nt st = some x) (h' : pars s f' nt st = some y) : x = y := by
  have h1 := pars_up (Nat.le_max_left f f') nt _ _ h
  have h2 := pars_up (Nat.le_max_right f f') nt _ _ h'
  rw [h1] at h2
  exact Option.some.inj h2
theorem readG_fun {s : ByteArray} {f f' : Nat} {x y : Except (Nat × Int) GT} (h : readG s f = some x) (h' : readG s f' = some y) : x = y := by
  unfold readG at h h'
  cases hs : stepB s 0 with
  | error a => rw [hs] at h h'; simp only at h h'; rw [h] at h'; exact Option.some.inj h'
  | ok st =>
    rw [hs] at h h'
    simp only at h h'
    cases h1 : pars s f .guard st with
    | none => rw [h1] at h; cases h
    | some u =>
      cases h2 : pars s f' .guard st with
      | none => rw [h2] at h'; cases h'
      | some v =>
        obtain rfl := pars_fun h1 h2
        rw [h1] at h; rw [h2] at h'
        rw [h] at h'
        exact Option.some.inj h'
end Go.Proofs.YtfbbkmdhnkmonaaGreatDoor

namespace Go.Proofs.YtfbbkmdhnkmonaaGreatDoor
open Go.RowKit

theorem cell_far {w : World} {a p : Addr} {u v : Value} (h : w.cell? a = some v) (hne : a.block ≠ p.block) : ((w.setCell p u).drew).cell? a = some v :=
  (World.cell?_of_block (w := w) (Below.heap_setCell w p u a.block hne)).trans h
theorem cell_other {w : World} {g i j : Nat} {u v : Value} (h : w.cell? ⟨g, i, none⟩ = some v) (hne : i ≠ j) : ((w.setCell ⟨g, j, none⟩ u).drew).cell? ⟨g, i, none⟩ = some v := by
  show (w.setCell ⟨g, j, none⟩ u).cell? ⟨g, i, none⟩ = some v
  rw [← h]
  simp only [World.cell?, World.setCell, Array.getElem?_modify]
  cases w.heap[g]? with
  | none => simp
  | some o => cases o <;> simp [Ne.symm hne]
theorem wrap_i64 {x : Int} (h : -9223372036854775808 ≤ x) (h' : x ≤ 9223372036854775807) : IntKind.i64.wrap x = x := by
  simp [IntKind.wrap, IntKind.bits, IntKind.signed]
  omega
/-- a variable's block -/
structure Arr (w : World) (g : Nat) (t : TypeId) (vs : List Value) : Prop where
  heap : w.heap[g]? = some (.cells vs.toArray t (0, 0))
theorem Arr.cell {w : World} {g : Nat} {t : TypeId} {vs : List Value} (h : Arr w g t vs) {j : Nat} (hj : j < vs.length) : w.cell? ⟨g, j, none⟩ = some vs[j] := by
  simp [World.cell?, h.heap, hj]
theorem Arr.range {w : World} {g : Nat} {t : TypeId} {vs : List Value} (h : Arr w g t vs) : w.rangeAt g 0 vs := fun j v hv => by
  rw [Nat.zero_add]
  have hj : j < vs.length := by
    rcases Nat.lt_or_ge j vs.length with h | h
    · exact h
    · rw [List.getElem?_eq_none h] at hv; cases hv
  rw [List.getElem?_eq_getElem hj] at hv
  rw [← hv]
  exact h.cell hj
theorem Arr.frozen {w : World} {g : Nat} {t : TypeId} {vs : List Value} (h : Arr w g t vs) (j : Nat) : w.frozen? ⟨g, j, none⟩ = false := by
  simp [World.frozen?, h.heap]
theorem Arr.lt {w : World} {g : Nat} {t : TypeId} {vs : List Value} (h : Arr w g t vs) : g < w.heap.size := (Array.getElem?_eq_some_iff.1 h.heap).1
theorem Arr.drew {w : World} {g : Nat} {t : TypeId} {vs : List Value} (h : Arr w g t vs) : Arr w.drew g t vs := ⟨h.heap⟩
theorem Arr.drewN {w : World} {g : Nat} {t : TypeId} {vs : List Value} (h : Arr w g t vs) (n : Nat) : Arr (w.drewN n) g t vs := ⟨h.heap⟩
theorem Arr.alloc {w : World} {g : Nat} {t : TypeId} {vs : List Value} (h : Arr w g t vs) (o : Obj) : Arr (w.alloc o) g t vs := ⟨(Below.heap_alloc w o g h.lt).trans h.heap⟩
theorem Arr.set {w : World} {g : Nat} {t : TypeId} {vs : List Value} (h : Arr w g t vs) (j : Nat) (u : Value) : Arr (w.setCell ⟨g, j, none⟩ u) g t (vs.set j u) := by
  refine ⟨?_⟩
  simp only [World.setCell, Array.getElem?_modify, h.heap]
  simp
theorem Arr.far {w : World} {g : Nat} {t : TypeId} {vs : List Value} (h : Arr w g t vs) {a : Addr} (hne : g ≠ a.block) (u : Value) : Arr (w.setCell a u) g t vs := ⟨(Below.heap_setCell w a u g hne).trans h.heap⟩
theorem Arr.below {B : Nat} {w w' : World} {g : Nat} {t : TypeId} {vs : List Value} (h : Arr w g t vs) (hb : Below B w w') (hg : g < B) : Arr w' g t vs := ⟨(hb.block g hg).trans h.heap⟩
theorem Arr.new (w : World) (vs : List Value) (t : TypeId) : Arr (w.alloc (.cells vs.toArray t (0, 0))) w.heap.size t vs := ⟨by simp [show (w.alloc (.cells vs.toArray t (0, 0))).heap = w.heap.push (.cells vs.toArray t (0, 0)) from rfl]⟩
theorem grown_of_below {w w' : World} (hb : Below w.heap.size w w') (row : Option Nat) : w.grownBy w' row := ⟨hb.os, hb.tape, hb.output, hb.size, fun k hk _ => hb.block k hk⟩
theorem grown_drewN {w w' : World} {row : Option Nat} (h : w.grownBy w' row) (n : Nat) : w.grownBy (w'.drewN n) row := ⟨h.os, h.tape, h.output, h.size, h.block⟩
theorem grown_drew {w w' : World} {row : Option Nat} (h : w.grownBy w' row) : w.grownBy w'.drew row := ⟨h.os, h.tape, h.output, h.size, h.block⟩
theorem grown_set {w w' : World} {g : Nat} (h : w.grownBy w' (some g)) (j : Nat) (u : Value) : w.grownBy (w'.setCell ⟨g, j, none⟩ u) (some g) :=
  ⟨h.os, h.tape, h.output, by simpa [World.setCell] using h.size, fun k hk hne => (Below.heap_setCell w' ⟨g, j, none⟩ u k (fun e => hne (by rw [e]))).trans (h.block k hk hne)⟩
end Go.Proofs.YtfbbkmdhnkmonaaGreatDoor

namespace Go.Proofs.YtfbbkmdhnkmonaaGreatDoor
open Go.RowKit

/-- all but one block stays -/
structure KeepR (R : Nat) (w w' : World) : Prop where
  os : w'.os = w.os
  tape : w'.tape = w.tape
  output : w'.output = w.output
  size : w.heap.size ≤ w'.heap.size
  block : ∀ k, k < w.heap.size → k ≠ R → w'.heap[k]? = w.heap[k]?
theorem KeepR.refl (R : Nat) (w : World) : KeepR R w w := ⟨rfl, rfl, rfl, Nat.le_refl _, fun _ _ _ => rfl⟩
theorem KeepR.trans {R : Nat} {a b c : World} (h : KeepR R a b) (h2 : KeepR R b c) : KeepR R a c :=
  ⟨h2.os.trans h.os, h2.tape.trans h.tape, h2.output.trans h.output, Nat.le_trans h.size h2.size, fun k hk hR => (h2.block k (Nat.lt_of_lt_of_le hk h.size) hR).trans (h.block k hk hR)⟩
theorem KeepR.of {R : Nat} {w w' : World} (h : Below w.heap.size w w') : KeepR R w w' := ⟨h.os, h.tape, h.output, h.size, fun k hk _ => h.block k hk⟩
theorem KeepR.next {R : Nat} {w w1 w' : World} (h : KeepR R w w1) (hb : Below w1.heap.size w1 w') : KeepR R w w' := h.trans (.of hb)
theorem KeepR.alloc {R : Nat} {w w' : World} (h : KeepR R w w') (o : Obj) : KeepR R w (w'.alloc o) := h.next ((Below.refl _ _).alloc (Nat.le_refl _) o)
theorem KeepR.drew {R : Nat} {w w' : World} (h : KeepR R w w') : KeepR R w w'.drew := h.next (Below.refl _ _).drew
theorem KeepR.setCell {R j : Nat} {w w' : World} (h : KeepR R w w') (v : Value) : KeepR R w (w'.setCell ⟨R, j, none⟩ v) := by
  have hb := (Below.refl 0 w').setCell (p := ⟨R, j, none⟩) (Nat.zero_le _) v
  exact ⟨hb.os.trans h.os, hb.tape.trans h.tape, hb.output.trans h.output, Nat.le_trans h.size hb.size, fun k hk hR => (Below.heap_setCell w' ⟨R, j, none⟩ v k hR).trans (h.block k hk hR)⟩
theorem KeepR.below {R B : Nat} {w w' : World} (h : KeepR R w w') (hB : B ≤ R) (hw : B ≤ w.heap.size) : Below B w w' :=
  ⟨h.os, h.tape, h.output, h.size, fun k hk => h.block k (by omega) (by omega)⟩
theorem Arr.keepR {R g : Nat} {w w' : World} {t : TypeId} {vs : List Value} (h : Arr w g t vs) (hk : KeepR R w w') (hg : g ≠ R) : Arr w' g t vs := ⟨(hk.block g h.lt hg).trans h.heap⟩

theorem KeepR.setNew {R : Nat} {w w' : World} (h : KeepR R w w') {p : Addr} (hp : w.heap.size ≤ p.block) (v : Value) : KeepR R w (w'.setCell p v) := by
  have hb := (Below.refl 0 w').setCell (p := p) (Nat.zero_le _) v
  exact ⟨hb.os.trans h.os, hb.tape.trans h.tape, hb.output.trans h.output, Nat.le_trans h.size hb.size, fun k hk hR => (Below.heap_setCell w' p v k (by omega)).trans (h.block k hk hR)⟩

/-- what a guard's four cells are; its blocks are none of X -/
def GIs (X : Nat → Prop) (w : World) : GT → List Value → Prop
  | .leaf k n s, cs => cs = [.int .u8 k, .int .i64 n, .string s, .slice none 0 0]
  | .one k a, cs => ∃ b da, cs = [.int .u8 k, .int .i64 0, .string ⟨#[]⟩, .slice (some ⟨b, 0, none⟩) 1 1] ∧ ¬ X b ∧ Arr w b 80 da ∧ GIs X w a da
  | .two k a a2, cs => ∃ b da db, cs = [.int .u8 k, .int .i64 0, .string ⟨#[]⟩, .slice (some ⟨b, 0, none⟩) 2 2] ∧ ¬ X b ∧ Arr w b 80 (da ++ db) ∧ GIs X w a da ∧ GIs X w a2 db
theorem GIs.keep {X : Nat → Prop} {w w' : World} (hk : ∀ k, k < w.heap.size → ¬ X k → w'.heap[k]? = w.heap[k]?) : ∀ {t : GT} {cs : List Value}, GIs X w t cs → GIs X w' t cs
  | .leaf .., _, h => h
  | .one .., _, ⟨b, da, h1, h2, h3, h4⟩ => ⟨b, da, h1, h2, ⟨(hk b h3.lt h2).trans h3.heap⟩, h4.keep hk⟩
  | .two .., _, ⟨b, da, db, h1, h2, h3, h4, h5⟩ => ⟨b, da, db, h1, h2, ⟨(hk b h3.lt h2).trans h3.heap⟩, h4.keep hk, h5.keep hk⟩
theorem GIs.keepR {X : Nat → Prop} {R : Nat} {w w' : World} (hX : X R) (hk : KeepR R w w') {t : GT} {cs : List Value} (h : GIs X w t cs) : GIs X w' t cs :=
  h.keep fun k hl hx => hk.block k hl (fun e => hx (e ▸ hX))
theorem GIs.below {X : Nat → Prop} {w w' : World} (hb : Below w.heap.size w w') {t : GT} {cs : List Value} (h : GIs X w t cs) : GIs X w' t cs := h.keep fun k hl _ => hb.block k hl
theorem GIs.setCell {X : Nat → Prop} {w : World} {p : Addr} (hX : X p.block) (v : Value) {t : GT} {cs : List Value} (h : GIs X w t cs) : GIs X (w.setCell p v) t cs :=
  h.keep fun k _ hx => Below.heap_setCell w p v k (fun e => hx (e ▸ hX))
/-- fewer blocks left out; and those to come -/
theorem GIs.mono {X Y : Nat → Prop} {w : World} (hXY : ∀ k, k < w.heap.size → Y k → X k) : ∀ {t : GT} {cs : List Value}, GIs X w t cs → GIs Y w t cs
  | .leaf .., _, h => h
  | .one .., _, ⟨b, da, h1, h2, h3, h4⟩ => ⟨b, da, h1, fun hy => h2 (hXY b h3.lt hy), h3, h4.mono hXY⟩
  | .two .., _, ⟨b, da, db, h1, h2, h3, h4, h5⟩ => ⟨b, da, db, h1, fun hy => h2 (hXY b h3.lt hy), h3, h4.mono hXY, h5.mono hXY⟩
/-- written out -/
theorem GIs.four {X : Nat → Prop} {w : World} : ∀ {t : GT} {cs : List Value}, GIs X w t cs → ∃ (k : Nat) (n : Int) (s : ByteArray) (a : Option Addr) (l c : Nat), cs = [.int .u8 k, .int .i64 n, .string s, .slice a l c]
  | .leaf k n s, _, h => ⟨k, n, s, none, 0, 0, h⟩
  | .one k _, _, ⟨_, _, h1, _⟩ => ⟨k, 0, ⟨#[]⟩, _, 1, 1, h1⟩
  | .two k _ _, _, ⟨_, _, _, h1, _⟩ => ⟨k, 0, ⟨#[]⟩, _, 2, 2, h1⟩
/-- the reader's block -/
def RdIs (R : Nat) (w : World) (s : ByteArray) (st : GSt) : Prop := Arr w R 129 [.string s, .int .i64 (st.i : Int), .int .i64 (st.pos : Int), .string st.now]
end Go.Proofs.YtfbbkmdhnkmonaaGreatDoor

namespace Go.Proofs.YtfbbkmdhnkmonaaGreatDoor
open Go.RowKit

theorem u8_all {p : UInt8 → Prop} (h : ∀ n : Fin 256, p (UInt8.ofNat n.val)) (c : UInt8) : p c := by
  have := h ⟨c.toNat, c.toNat_lt⟩
  simpa using this
theorem letter_walk (c : UInt8) (w : World) : Calls Tryz.prog 116 #[.int .u8 (c.toNat : Int)] w fun e w' => e = .returned (.bool (letterB c)) ∧ w = w' := by
  obtain ⟨n, hn⟩ : ∃ n, c.toNat = n := ⟨_, rfl⟩
  have e : letterB c = (decide (97 ≤ n ∧ n ≤ 122) || decide (48 ≤ n ∧ n ≤ 57) || decide (n = 45) || decide (n = 95) || decide (n = 46)) := by
    have h : ∀ k : UInt8, (c == k) = decide (n = k.toNat) := fun k => by
      rw [Bool.eq_iff_iff, beq_iff_eq, decide_eq_true_eq, ← hn]
      exact UInt8.toNat_inj.symm
    rw [letterB, hn, h, h, h]; rfl
  have hn2 : n < 256 := by have := c.toNat_lt; omega
  rw [hn, e]
  clear e hn
  go_enter Tryz.func116, Tryz.ntmps116
  go_wp2
  all_goals (go_ret; exact ⟨ret_bool (by first | rfl | (rw [Bool.eq_iff_iff]; simp <;> omega)), rfl⟩)

def quotR (r : Nat) : Bool := decide (32 ≤ r) && decide (r ≤ 126) && decide (r ≠ 39)
def letR (r : Nat) : Bool := decide (r < 128) && letterB (UInt8.ofNat r)
theorem quot_eq (c : UInt8) : quotB c = quotR c.toNat := by
  refine u8_all (p := fun c => quotB c = quotR c.toNat) ?_ c
  decide +kernel
theorem let_eq (c : UInt8) : letterB c = letR c.toNat := by
  refine u8_all (p := fun c => letterB c = letR c.toNat) ?_ c
  decide +kernel
/-- no rune is found that is not of a kind: just where each byte is of it -/
theorem idx_any {pR : Nat → Bool} {pB : UInt8 → Bool} (hp : ∀ c : UInt8, pB c = pR c.toNat) (hbig : ∀ r, 128 ≤ r → pR r = false) (s : ByteArray) : ∀ (f pos : Nat), s.size ≤ pos + f → decide (0 ≤ Lib.idxFuncFrom (fun r => !pR r) true s f pos) = !((s.data.toList.drop pos).all pB)
  | 0, pos, h => by
    rw [List.drop_of_length_le (by rw [ba_len]; omega)]
    rfl
  | f + 1, pos, h => by
    unfold Lib.idxFuncFrom
    by_cases hq : pos < s.size
    · have hd : s.data.toList.drop pos = s[pos] :: s.data.toList.drop (pos + 1) := by
        rw [List.drop_eq_getElem_cons (by rw [ba_len]; exact hq)]; rfl
      rw [if_pos hq, hd, List.all_cons]
      by_cases hb : (s.get! pos).toNat < 128
      · rw [decode_small s pos hb]
        have hn : pR (s.get! pos).toNat = pB s[pos] := by rw [get!_eq s pos hq, hp]
        dsimp only
        rw [hn]
        cases hc : pB s[pos]
        · simp
        · simp only [Bool.not_true, Bool.false_eq_true, if_false, Bool.true_and]
          exact idx_any hp hbig s f (pos + 1) (by omega)
      · have h1 := hbig _ (decode_big s pos (by omega))
        have h2 : pB s[pos] = false := by
          rw [hp, ← get!_eq s pos hq]
          exact hbig _ (by omega)
        rw [h1, h2]; simp
    · rw [if_neg hq, List.drop_of_length_le (by rw [ba_len]; omega)]
      rfl
theorem idx_neg {pR : Nat → Bool} {pB : UInt8 → Bool} (hp : ∀ c : UInt8, pB c = pR c.toNat) (hbig : ∀ r, 128 ≤ r → pR r = false) (s : ByteArray) : decide (Lib.idxFunc (fun r => !pR r) true s < 0) = s.data.toList.all pB := by
  have h := idx_any hp hbig s s.size 0 (by omega)
  rw [List.drop_zero] at h
  have h2 : decide (Lib.idxFunc (fun r => !pR r) true s < 0) = !decide (0 ≤ Lib.idxFunc (fun r => !pR r) true s) := by
    rw [Bool.eq_iff_iff]; simp
  rw [h2]
  show (!decide (0 ≤ Lib.idxFuncFrom (fun r => !pR r) true s s.size 0)) = _
  rw [h]; simp

set_option maxHeartbeats 1000000 in
theorem quoted1_walk (w : World) : PredGrows Tryz.prog 143 #[] (fun r => !quotR r) w := fun W r hr _ => by
  show Calls Tryz.prog 143 #[.int .i32 r] W fun e w' => e = .returned (.bool (!quotR r)) ∧ Below W.heap.size W w'
  have e : (!quotR r) = (decide ((r : Int) < 32) || decide ((126 : Int) < r) || decide ((r : Int) = 39)) := by
    rw [Bool.eq_iff_iff]; simp [quotR] <;> omega
  rw [e]
  clear e
  go_enter Tryz.func143, Tryz.ntmps143
  go_wp2
  all_goals (go_ret; exact ⟨ret_bool (by first | rfl | (rw [Bool.eq_iff_iff]; simp <;> omega)), Below.refl _ _⟩)
theorem quoted_walk (s : ByteArray) (w : World) : Calls Tryz.prog 115 #[.string s] w fun e w' => e = .returned (.bool (s.data.toList.all quotB)) ∧ Below w.heap.size w w' := by
  have hc := Tryz.strings_IndexFunc_grows 143 #[] (enters_of Tryz.func143 (by kernel_rfl) rfl) _ s w (quoted1_walk w)
  have hi := idx_neg quot_eq (fun r h => by simp [quotR] <;> omega) s
  obtain ⟨b, hb⟩ : ∃ b, s.data.toList.all quotB = b := ⟨_, rfl⟩
  rw [hb] at hi ⊢
  generalize Lib.idxFunc (fun r => !quotR r) true s = x at *
  clear hb
  go_enter Tryz.func115, Tryz.ntmps115
  go_wp2_with (go_at_call 142; refine hc.mono ?_; rintro e w2 ⟨rfl, hb2⟩)
  go_ret
  exact ⟨rfl, hb2⟩

set_option maxHeartbeats 1000000 in
theorem named1_walk (w : World) : PredGrows Tryz.prog 176 #[] (fun r => !letR r) w := fun W r hr _ => by
  show Calls Tryz.prog 176 #[.int .i32 r] W fun e w' => e = .returned (.bool (!letR r)) ∧ Below W.heap.size W w'
  by_cases h : r < 128
  · have hl := letter_walk (UInt8.ofNat r)
    have hrn : (UInt8.ofNat r).toNat = r := by rw [UInt8.toNat_ofNat']; omega
    have e : letR r = letterB (UInt8.ofNat r) := by simp [letR, h]
    have wr : IntKind.u8.wrap (r : Int) = (r : Int) := by rw [IntKind.wrap_u8]; omega
    rw [hrn] at hl
    rw [e]
    generalize letterB (UInt8.ofNat r) = b at *
    have d : ¬ (127 : Int) < r := by omega
    clear hrn e hr h
    go_enter Tryz.func176, Tryz.ntmps176
    go_wp2_with (go_at_call 116; refine (hl _).mono ?_; rintro e w2 ⟨rfl, rfl⟩)
    go_ret
    exact ⟨rfl, Below.refl _ _⟩
  · have e : letR r = false := by simp [letR, h]
    rw [e]
    have d : (127 : Int) < r := by omega
    clear e hr h
    go_enter Tryz.func176, Tryz.ntmps176
    go_wp2
    go_ret
    exact ⟨rfl, Below.refl _ _⟩
theorem taken_walk (s : ByteArray) (w : World) : Calls Tryz.prog 175 #[.string s] w fun e w' => e = .returned (.bool (takenB s)) ∧ Below w.heap.size w w' := by
  have hc := Tryz.slices_Contains_string w.heap.size 0 7 7 [andS, orS, notS, trueS, falseS, openS, doneS] s (w.alloc (.cells #[.string andS, .string orS, .string notS, .string trueS, .string falseS, .string openS, .string doneS] 9)) (by simp) (by omega) (fun j hj => by
    match j, hj with
    | 0, _ => go_simp
    | 1, _ => go_simp
    | 2, _ => go_simp
    | 3, _ => go_simp
    | 4, _ => go_simp
    | 5, _ => go_simp
    | 6, _ => go_simp)
  have e : Lib.containsS ([andS, orS, notS, trueS, falseS, openS, doneS].take 7) s = takenB s := by
    rw [Bool.eq_iff_iff, Lib.containsS_iff, takenB, decide_eq_true_eq]
    simp
  rw [e] at hc
  generalize takenB s = b at *
  go_enter Tryz.func175, Tryz.ntmps175
  go_wp2_with (go_at_call 88; refine hc.mono ?_; rintro e w2 ⟨rfl, rfl⟩)
  go_ret
  exact ⟨rfl, (Below.refl _ _).alloc (Nat.le_refl _) _⟩

/-- digits, parsed -/
theorem parse_digits : ∀ (l : List UInt8) (acc : Nat), l.all digitB = true → acc ≤ 18446744073709551615 → Lib.parseUintM 18446744073709551615 acc l = if spell acc l ≤ 18446744073709551615 then Lib.NumEnd.ok (spell acc l) else Lib.NumEnd.range
  | [], acc, _, h => by rw [Lib.parseUintM]; show _ = if acc ≤ _ then Lib.NumEnd.ok acc else _; rw [if_pos h]
  | c :: r, acc, hd, h => by
    simp only [List.all_cons, Bool.and_eq_true] at hd
    have hc : 48 ≤ c.toNat ∧ c.toNat ≤ 57 := by simpa [digitB] using hd.1
    have hs : spell acc (c :: r) = spell (acc * 10 + (c.toNat - 48)) r := rfl
    have hg := spell_ge r (acc * 10 + (c.toNat - 48))
    rw [Lib.parseUintM, if_pos hc, hs]
    by_cases h1 : 1844674407370955162 ≤ acc
    · rw [if_pos h1, if_neg (by omega)]
    · rw [if_neg h1]
      by_cases h2 : 18446744073709551615 < acc * 10 + (c.toNat - 48)
      · rw [if_pos h2, if_neg (by omega)]
      · rw [if_neg h2]
        exact parse_digits r _ hd.2 (by omega)
theorem parseInt_digits {l : List UInt8} (hne : l ≠ []) (hd : l.all digitB = true) : Lib.parseIntB 64 l = if spell 0 l ≤ 9223372036854775807 then Lib.NumEnd.ok (spell 0 l : Int) else Lib.NumEnd.range := by
  cases l with
  | nil => exact absurd rfl hne
  | cons c r =>
    have hc : 48 ≤ c.toNat ∧ c.toNat ≤ 57 := by
      simp only [List.all_cons, Bool.and_eq_true] at hd
      simpa [digitB] using hd.1
    have hp := parse_digits (c :: r) 0 hd (by omega)
    unfold Lib.parseIntB
    dsimp only
    rw [if_neg (by omega), Lib.parseUintB, if_neg (by simp), show 2 ^ 64 - 1 = 18446744073709551615 by rfl, hp]
    by_cases h1 : spell 0 (c :: r) ≤ 18446744073709551615
    · rw [if_pos h1]
      dsimp only
      by_cases h2 : spell 0 (c :: r) ≤ 9223372036854775807
      · rw [if_neg (by omega), if_neg (by omega), if_neg (by omega), if_pos h2]
      · rw [if_pos ⟨by omega, by omega⟩, if_neg h2]
    · rw [if_neg h1, if_neg (by omega)]
end Go.Proofs.YtfbbkmdhnkmonaaGreatDoor
