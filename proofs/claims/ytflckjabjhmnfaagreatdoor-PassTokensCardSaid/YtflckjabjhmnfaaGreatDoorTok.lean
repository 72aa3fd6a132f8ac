/- The tokens' plain law: digits, points, texts. -/
import Derived.Test.YtflckjabjhmnfaaGreatDoorDec
import Derived.Test.YtflckjabjhmnfaaGreatDoorUnhex
import Derived.Test.YtflckjabjhmnfaaGreatDoorName
namespace Go.Proofs.YtflckjabjhmnfaaGreatDoor
open Go.RowKit

/-- no points in digits or sixteens -/
theorem dec_nop (u : Nat) : 46 ∉ Lib.decDigits u := fun h => by
  have := (dec_dig u _ h).1
  simp at this
theorem hx_nop (n : Nat) (h : n < 16) : hx n ≠ 46 := by
  have : ∀ n : Fin 16, hx n.val ≠ 46 := by decide +kernel
  exact this ⟨n, h⟩
theorem hex_nop (bs : List UInt8) : 46 ∉ hexB bs := fun hc => by
  obtain ⟨b, -, hb⟩ := List.mem_flatMap.1 hc
  have hl := b.toNat_lt
  simp only [List.mem_cons, List.not_mem_nil, or_false] at hb
  rcases hb with h | h
  · exact hx_nop _ (by omega) h.symm
  · exact hx_nop _ (by omega) h.symm
/-- two texts, each up to its first point -/
theorem point_inj : ∀ {xs ys a b : List UInt8}, 46 ∉ xs → 46 ∉ ys → xs ++ 46 :: a = ys ++ 46 :: b → xs = ys ∧ a = b
  | [], [], _, _, _, _, h => ⟨rfl, by simpa using h⟩
  | [], y :: r, _, _, _, hy, h => by simp at h; exact absurd (h.1 ▸ List.mem_cons_self ..) hy
  | x :: r, [], _, _, hx, _, h => by simp at h; exact absurd (h.1 ▸ List.mem_cons_self ..) hx
  | x :: r, y :: s, a, b, hx, hy, h => by
    simp only [List.cons_append, List.cons.injEq] at h
    obtain ⟨h1, h2⟩ := point_inj (fun hm => hx (List.mem_cons_of_mem _ hm)) (fun hm => hy (List.mem_cons_of_mem _ hm)) h.2
    exact ⟨by rw [h.1, h1], h2⟩
theorem hx_inj (a b : Nat) (ha : a < 16) (hb : b < 16) (h : hx a = hx b) : a = b := by
  have : ∀ a b : Fin 16, hx a.val = hx b.val → a = b := by decide +kernel
  have := this ⟨a, ha⟩ ⟨b, hb⟩ h
  simpa using this
theorem hexB_inj : ∀ {xs ys : List UInt8}, hexB xs = hexB ys → xs = ys
  | [], [], _ => rfl
  | [], y :: r, h => by have := congrArg List.length h; rw [hexB_len, hexB_len] at this; simp at this
  | x :: r, [], h => by have := congrArg List.length h; rw [hexB_len, hexB_len] at this; simp at this
  | x :: r, y :: s, h => by
    have e : ∀ z (t : List UInt8), hexB (z :: t) = hx (z.toNat / 16) :: hx (z.toNat % 16) :: hexB t := fun z t => by simp [hexB]
    rw [e, e] at h
    simp only [List.cons.injEq] at h
    have lx := x.toNat_lt
    have ly := y.toNat_lt
    have h1 := hx_inj _ _ (by omega) (by omega) h.1
    have h2 := hx_inj _ _ (by omega) (by omega) h.2.1
    rw [hexB_inj h.2.2, UInt8.toNat_inj.1 (show x.toNat = y.toNat by omega)]

/-- a session's text and token -/
structure Sess where
  id : Int
  user : List UInt8
  untl : Int
def sessB (s : Sess) : Prop := 0 ≤ s.id ∧ s.id ≤ 2147483647 ∧ named s.user = true ∧ 0 ≤ s.untl ∧ s.untl ≤ 1099511627776
def textT (s : Sess) : List UInt8 := Lib.decDigits s.id.toNat ++ 46 :: (hexB s.user ++ 46 :: Lib.decDigits s.untl.toNat)
def madeT (secret : List UInt8) (s : Sess) : List UInt8 := textT s ++ 46 :: hexB (sealW secret (textT s))
theorem madeT_parts (secret : List UInt8) (s : Sess) : madeT secret s = Lib.decDigits s.id.toNat ++ 46 :: (hexB s.user ++ 46 :: (Lib.decDigits s.untl.toNat ++ 46 :: hexB (sealW secret (textT s)))) := by
  simp [madeT, textT]
/-- a token is one session's alone, whatever the secrets -/
theorem madeT_inj {k1 k2 : List UInt8} {s t : Sess} (hs : sessB s) (ht : sessB t) (h : madeT k1 s = madeT k2 t) : s = t := by
  rw [madeT_parts, madeT_parts] at h
  obtain ⟨h1, h⟩ := point_inj (dec_nop _) (dec_nop _) h
  obtain ⟨h2, h⟩ := point_inj (hex_nop _) (hex_nop _) h
  obtain ⟨h3, -⟩ := point_inj (dec_nop _) (dec_nop _) h
  have e1 := dec_inj h1
  have e2 := hexB_inj h2
  have e3 := dec_inj h3
  obtain ⟨a, u, b⟩ := s
  obtain ⟨c, v, d⟩ := t
  simp only [sessB] at *
  congr 1 <;> omega

instance (s : Sess) : Decidable (sessB s) := by unfold sessB; infer_instance
def zeroS : Sess := ⟨0, [], 0⟩
/-- how a token is made -/
def tokenT (secret : List UInt8) (s : Sess) : List UInt8 × Int := if ¬ (0 < secret.length ∧ secret.length ≤ 64) then ([], 3) else if sessB s then (madeT secret s, 0) else ([], 8)
/-- how a text is read as a token -/
def ReadIs (secret token : List UInt8) (clock : Int) (s : Sess) (e : Int) : Prop :=
  if ¬ (0 < secret.length ∧ secret.length ≤ 64) then s = zeroS ∧ e = 3
  else if clock < 0 ∨ 1099511627776 < clock then s = zeroS ∧ e = 2
  else (s = zeroS ∧ e = 211 ∧ ∀ t, sessB t → madeT secret t ≠ token) ∨
    ∃ t, sessB t ∧ madeT secret t = token ∧ ((t.untl < clock ∧ s = zeroS ∧ e = 212) ∨ (clock ≤ t.untl ∧ s = t ∧ e = 0))
theorem ReadIs.unique {k tk : List UInt8} {c e f : Int} {s t : Sess} (h1 : ReadIs k tk c s e) (h2 : ReadIs k tk c t f) : s = t ∧ e = f := by
  unfold ReadIs at h1 h2
  split at h1
  · rename_i hk
    rw [if_pos hk] at h2
    exact ⟨h1.1.trans h2.1.symm, h1.2.trans h2.2.symm⟩
  · rename_i hk
    rw [if_neg hk] at h2
    split at h1
    · rename_i hc
      rw [if_pos hc] at h2
      exact ⟨h1.1.trans h2.1.symm, h1.2.trans h2.2.symm⟩
    · rename_i hc
      rw [if_neg hc] at h2
      rcases h1 with ⟨a1, a2, a3⟩ | ⟨x, x1, x2, x3⟩
      · rcases h2 with ⟨b1, b2, -⟩ | ⟨y, y1, y2, -⟩
        · exact ⟨a1.trans b1.symm, a2.trans b2.symm⟩
        · exact absurd y2 (a3 y y1)
      · rcases h2 with ⟨-, -, b3⟩ | ⟨y, y1, y2, y3⟩
        · exact absurd x2 (b3 x x1)
        · obtain rfl : x = y := madeT_inj x1 y1 (x2.trans y2.symm)
          rcases x3 with ⟨p1, p2, p3⟩ | ⟨p1, p2, p3⟩ <;> rcases y3 with ⟨q1, q2, q3⟩ | ⟨q1, q2, q3⟩
          · exact ⟨p2.trans q2.symm, p3.trans q3.symm⟩
          · omega
          · omega
          · exact ⟨p2.trans q2.symm, p3.trans q3.symm⟩
/-- what was made is read back, as long as it holds -/
theorem back {k : List UInt8} {s a : Sess} {c f : Int} (ht : (tokenT k s).2 = 0) (hc : 0 ≤ c) (hc2 : c ≤ 1099511627776) (h : ReadIs k (tokenT k s).1 c a f) :
    if s.untl < c then f = 212 ∧ a = zeroS else f = 0 ∧ a = s := by
  unfold tokenT at ht h
  split at ht
  · cases ht
  · rename_i hk
    rw [if_neg hk] at h
    split at ht
    · rename_i hs
      rw [if_pos hs] at h
      unfold ReadIs at h
      rw [if_neg hk, if_neg (by omega)] at h
      rcases h with ⟨-, -, h3⟩ | ⟨t, t1, t2, t3⟩
      · exact absurd rfl (h3 s hs)
      · obtain rfl : t = s := madeT_inj t1 hs t2
        rcases t3 with ⟨p1, p2, p3⟩ | ⟨p1, p2, p3⟩
        · rw [if_pos p1]; exact ⟨p3, p2⟩
        · rw [if_neg (by omega)]; exact ⟨p3, p2⟩
    · cases ht
/-- no other text is read -/
theorem only {k tk : List UInt8} {s : Sess} {c e : Int} (h : ReadIs k tk c s e) : (e ≠ 0 → s = zeroS) ∧ (e = 0 → tokenT k s = (tk, 0) ∧ c ≤ s.untl ∧ 0 ≤ c) := by
  unfold ReadIs at h
  split at h
  · exact ⟨fun _ => h.1, fun h0 => by omega⟩
  · rename_i hk
    split at h
    · exact ⟨fun _ => h.1, fun h0 => by omega⟩
    · rename_i hc
      rcases h with ⟨h1, h2, -⟩ | ⟨t, t1, t2, ⟨p1, p2, p3⟩ | ⟨p1, p2, p3⟩⟩
      · exact ⟨fun _ => h1, fun h0 => by omega⟩
      · exact ⟨fun _ => p2, fun h0 => by omega⟩
      · subst p2
        refine ⟨fun h0 => absurd p3 h0, fun _ => ⟨?_, p1, by omega⟩⟩
        unfold tokenT
        rw [if_neg hk, if_pos t1, t2]
end Go.Proofs.YtflckjabjhmnfaaGreatDoor
