/- The variables of the library that tokens lean on; strconv.Itoa, strconv.Atoi, strings.Split. -/
import Derived.Test.YtflckjabjhmnfaaGreatDoorTok4
import Derived.Test.YtflckjabjhmnfaaGreatDoorShelf
namespace Go.Proofs.YtflckjabjhmnfaaGreatDoor
open Go.RowKit

/-- what the library's variables hold -/
structure TokW (w : World) : Prop where
  tab : Lib.TabIs Tryz.prog w "internal/strconv.uint64pow10" .u64 Lib.pow10Tab
  syn : ∃ t p, w.cell? ⟨0, 0, none⟩ = some (.iface t p)
  rng : ∃ t p, w.cell? ⟨1, 0, none⟩ = some (.iface t p)
  max : ∃ m, w.cell? ⟨2, 0, none⟩ = some (.int .i64 m)
theorem cellBelow {w w' : World} (hb : Below w.heap.size w w') {a : Addr} {v : Value} (hc : w.cell? a = some v) : w'.cell? a = some v := (hb.cell (World.block_lt_of_cell? w a hc)).trans hc
theorem pow10_var : Tryz.prog.globalNamed "internal/strconv.uint64pow10" = some 3 := by kernel_rfl
theorem TokW.below {w w' : World} (h : TokW w) (hb : Below w.heap.size w w') : TokW w' := by
  obtain ⟨h1, ⟨t2, p2, h2⟩, ⟨t3, p3, h3⟩, ⟨m, h4⟩⟩ := h
  refine ⟨?_, ⟨t2, p2, cellBelow hb h2⟩, ⟨t3, p3, cellBelow hb h3⟩, ⟨m, cellBelow hb h4⟩⟩
  unfold Lib.TabIs World.var? at h1 ⊢
  rw [pow10_var] at h1 ⊢
  simp only [Option.bind_some] at h1 ⊢
  have hlt : 3 < w.heap.size := by
    rcases Nat.lt_or_ge 3 w.heap.size with h' | h'
    · exact h'
    · rw [Array.getElem?_eq_none h'] at h1; cases h1
  rw [hb.block _ hlt]
  exact h1
theorem below_grow {B : Nat} {w w1 : World} (h : Below B w w1) (hB : B ≤ w1.heap.size) (os : Array Obj) : Below B w (Go.Sort.grow w1 os) :=
  ⟨h.os, h.tape, h.output, by rw [Go.Sort.size_grow]; have := h.size; omega, fun k hk => by
    rw [← h.block k hk]
    show (w1.heap ++ os)[k]? = w1.heap[k]?
    rw [Array.getElem?_append_left (by omega)]⟩

theorem itoa_walk (n : Int) (w : World) (h : TokW w) (h0 : 0 ≤ n) (h1 : n ≤ 9223372036854775807) :
    Calls Tryz.prog 24 #[.int .i64 n] w fun e w' => e = .returned (.string ⟨(Lib.decDigits n.toNat).toArray⟩) ∧ Below w.heap.size w w' := by
  refine (Tryz.strconv_Itoa n (by omega) h1 w h.tab).mono ?_
  rintro e w' ⟨rfl, k, os, rfl⟩
  obtain ⟨m, rfl⟩ : ∃ m : Nat, n = m := ⟨n.toNat, by omega⟩
  rw [Lib.itoa_nonneg m, Int.toNat_natCast]
  exact ⟨rfl, below_grow (below_drewN (Below.refl _ _) k) (Nat.le_refl _) os⟩
/-- what Atoi hands back -/
def AtoiEnd (s : ByteArray) (w : World) (e : Ending) (w' : World) : Prop :=
  ((∃ v, Lib.atoiAll s.data.toList = .ok v ∧ e = .returned (.tuple #[.int .i64 v, .nilIface])) ∨ ((∀ v, Lib.atoiAll s.data.toList ≠ .ok v) ∧ ∃ v t p, e = .returned (.tuple #[.int .i64 v, .iface t p]))) ∧ Below w.heap.size w w'
theorem atoi_walk (s : ByteArray) (w : World) (h : TokW w) (hs : s.size ≤ 1000000) : Calls Tryz.prog 15 #[.string s] w (AtoiEnd s w) := by
  rcases ha : Lib.atoiAll s.data.toList with v | _ | _
  · refine (Tryz.strconv_Atoi_ok s (by omega) v ha w).mono ?_
    rintro e w' ⟨rfl, hw⟩
    refine ⟨.inl ⟨v, ha, rfl⟩, ?_⟩
    rcases hw with rfl | ⟨t, rfl⟩
    · exact Below.refl _ _
    · exact ⟨by unfold Lib.bytesWorld World.freeze; split <;> rfl, by unfold Lib.bytesWorld World.freeze; split <;> rfl, by unfold Lib.bytesWorld World.freeze; split <;> rfl, by rw [Lib.bytesWorld_size]; omega, fun k hk => Lib.bytesWorld_at_old _ _ _ _ hk⟩
  · obtain ⟨t, p, hv⟩ := h.syn
    refine (Tryz.strconv_Atoi_syntax s (by omega) ha (.iface t p) w hv (.inr ⟨t, p, rfl⟩)).mono ?_
    rintro e w' ⟨N, rfl, -, -, hb⟩
    exact ⟨.inr ⟨fun v hv => (by rw [ha] at hv; cases hv), _, _, _, rfl⟩, hb⟩
  · obtain ⟨t, p, hv⟩ := h.rng
    refine (Tryz.strconv_Atoi_range s (by omega) ha (.iface t p) w hv (.inr ⟨t, p, rfl⟩)).mono ?_
    rintro e w' ⟨N, rfl, -, -, hb⟩
    exact ⟨.inr ⟨fun v hv => (by rw [ha] at hv; cases hv), _, _, _, rfl⟩, hb⟩
/-- strings.Split at the point -/
theorem split_walk (s : ByteArray) (w : World) (h : TokW w) (hs : s.size ≤ 1000000) :
    Calls Tryz.prog 14 #[.string s, .string ⟨#[46]⟩] w fun e w' => e = .returned (.slice (some ⟨w.heap.size, 0, none⟩) (Lib.countB s dot + 1) (Lib.countB s dot + 1)) ∧ w' = w.alloc (.cells ((Lib.splitB dot 0 (Lib.countB s dot) s).map Value.string).toArray 9) := by
  obtain ⟨m, hm⟩ := h.max
  exact Tryz.strings_Split s dot m w (by omega) hm (by decide)
end Go.Proofs.YtflckjabjhmnfaaGreatDoor
