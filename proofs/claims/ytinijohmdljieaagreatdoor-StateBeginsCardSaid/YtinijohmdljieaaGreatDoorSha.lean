/- The digest, in plain words. -/
import Derived.Test.YtinijohmdljieaaGreatDoorHashWords
import Derived.Test.YtinijohmdljieaaGreatDoorBytes
namespace Go.Proofs.YtinijohmdljieaaGreatDoor
open Go.RowKit

def H0 : List Int := [0x6a09e667, 0xbb67ae85, 0x3c6ef372, 0xa54ff53a, 0x510e527f, 0x9b05688c, 0x1f83d9ab, 0x5be0cd19]
def K64 : List Int := [
  0x428a2f98, 0x71374491, 0xb5c0fbcf, 0xe9b5dba5, 0x3956c25b, 0x59f111f1, 0x923f82a4, 0xab1c5ed5,
  0xd807aa98, 0x12835b01, 0x243185be, 0x550c7dc3, 0x72be5d74, 0x80deb1fe, 0x9bdc06a7, 0xc19bf174,
  0xe49b69c1, 0xefbe4786, 0x0fc19dc6, 0x240ca1cc, 0x2de92c6f, 0x4a7484aa, 0x5cb0a9dc, 0x76f988da,
  0x983e5152, 0xa831c66d, 0xb00327c8, 0xbf597fc7, 0xc6e00bf3, 0xd5a79147, 0x06ca6351, 0x14292967,
  0x27b70a85, 0x2e1b2138, 0x4d2c6dfc, 0x53380d13, 0x650a7354, 0x766a0abb, 0x81c2c92e, 0x92722c85,
  0xa2bfe8a1, 0xa81a664b, 0xc24b8b70, 0xc76c51a3, 0xd192e819, 0xd6990624, 0xf40e3585, 0x106aa070,
  0x19a4c116, 0x1e376c08, 0x2748774c, 0x34b0bcb5, 0x391c0cb3, 0x4ed8aa4a, 0x5b9cca4f, 0x682e6ff3,
  0x748f82ee, 0x78a5636f, 0x84c87814, 0x8cc70208, 0x90befffa, 0xa4506ceb, 0xbef9a3f7, 0xc67178f2]
/-- how many zeros -/
def zerosN (n : Nat) : Nat := (119 - n % 64) % 64
def lenBytes (n : Nat) : List UInt8 := (List.range 8).map fun i => b8 ((n : Int) * 8 / 2 ^ (56 - 8 * i))
def padded (bs : List UInt8) : List UInt8 := bs ++ [0x80] ++ List.replicate (zerosN bs.length) 0 ++ lenBytes bs.length
def mixN : Nat → List Int → List UInt8 → List Int
  | 0, hs, _ => hs
  | n + 1, hs, bs => mixN n (mixed8 hs K64 ((bs.take 64).map iv)) (bs.drop 64)
def digest (hs : List Int) : List UInt8 := (List.range 32).map fun j => b8 (hs.getD (j / 4) 0 / 2 ^ (24 - 8 * (j % 4)))
def sha (bs : List UInt8) : List UInt8 := digest (mixN ((padded bs).length / 64) H0 (padded bs))

theorem lenBytes_len (n : Nat) : (lenBytes n).length = 8 := by simp [lenBytes]
theorem digest_len (hs : List Int) : (digest hs).length = 32 := by simp [digest]
theorem sha_len (bs : List UInt8) : (sha bs).length = 32 := digest_len _
theorem zerosN_spec (n z : Nat) (hz : z ≤ zerosN n) : ((n + 1 + z) % 64 = 56 ↔ z = zerosN n) := by unfold zerosN at *; omega
theorem padded_len (bs : List UInt8) : (padded bs).length = bs.length + 1 + zerosN bs.length + 8 := by simp [padded, lenBytes_len]; omega
theorem padded_dvd (bs : List UInt8) : (padded bs).length % 64 = 0 := by
  rw [padded_len]; unfold zerosN; omega
theorem mixN_len : ∀ (n : Nat) (hs : List Int) (bs : List UInt8), hs.length = 8 → (mixN n hs bs).length = 8
  | 0, _, _, h => h
  | n + 1, _, _, h => mixN_len n _ _ (mixed8_len h)
theorem mixN_step {hs : List Int} {bs : List UInt8} {n : Nat} (h : bs.length = 64 * n) (hp : 0 < n) : mixN (bs.length / 64) hs bs = mixN ((bs.drop 64).length / 64) (mixed8 hs K64 ((bs.take 64).map iv)) (bs.drop 64) := by
  obtain ⟨m, rfl⟩ : ∃ m, n = m + 1 := ⟨n - 1, by omega⟩
  have e1 : bs.length / 64 = m + 1 := by omega
  have e2 : (bs.drop 64).length / 64 = m := by rw [List.length_drop]; omega
  rw [e1, e2, mixN]
theorem lenBytes_snoc (n i : Nat) (h : i < 8) : (lenBytes n).take (i + 1) = (lenBytes n).take i ++ [b8 ((n : Int) * 8 / 2 ^ (56 - 8 * i))] := by
  rw [List.take_succ_eq_append_getElem (by rw [lenBytes_len]; exact h)]
  simp [lenBytes]
theorem digest_snoc (hs : List Int) (j : Nat) (h : j < 32) : (digest hs).take (j + 1) = (digest hs).take j ++ [b8 (hs.getD (j / 4) 0 / 2 ^ (24 - 8 * (j % 4)))] := by
  rw [List.take_succ_eq_append_getElem (by rw [digest_len]; exact h)]
  simp [digest]
theorem flat_snoc {ls : List (List UInt8)} {k : Nat} (h : k < ls.length) : (ls.take (k + 1)).flatten = (ls.take k).flatten ++ ls[k] := by
  rw [List.take_succ_eq_append_getElem h, List.flatten_append]; simp
theorem flat_le {ls : List (List UInt8)} {k : Nat} (h : k < ls.length) : ((ls.take k).flatten).length + ls[k].length ≤ ls.flatten.length := by
  have : ls.flatten = (ls.take (k + 1)).flatten ++ (ls.drop (k + 1)).flatten := by rw [← List.flatten_append, List.take_append_drop]
  rw [this, flat_snoc h]; simp
end Go.Proofs.YtinijohmdljieaaGreatDoor
