/- A guard that came in, opened. -/
import Derived.SizedLaws
import Derived.Lib.SmallJoins
import Derived.Test.YtkmgbkcpjlilpaaDoorLaw
import Derived.Test.YtkmgbkcpjlilpaaDoorGGreat
namespace Go.Proofs.YtkmgbkcpjlilpaaDoor
open Go.ChangeShapes Go.WideShapes Go.ChangeAt Go.RowKit Go.Deep

section
variable {H : Type} {enc : TypeId × Value → H} {P : Program} {w : World} {base : Nat} {spare : Nat → Bool} {held : Bool}
/-- a struct of four fields of one cell each -/
theorem cells4 {t : TypeId} {f0 f1 f2 f3 : Field} {fuel : Nat} {v0 v1 v2 v3 : Value} {x : DataW H × List MemPlace} (ht : P.underlying t = some (.struct #[f0, f1, f2, f3])) (o : f0.offset = 0 ∧ f1.offset = 1 ∧ f2.offset = 2 ∧ f3.offset = 3)
    (c : P.cellsOf f0.type = 1 ∧ P.cellsOf f1.type = 1 ∧ P.cellsOf f2.type = 1 ∧ P.cellsOf f3.type = 1) (h : DataW.trod enc P w base spare held fuel t [v0, v1, v2, v3] = some x) :
    ∃ y0 y1 y2 y3 n, fuel = n + 1 ∧ x.1 = .agg [y0.1, y1.1, y2.1, y3.1] ∧ DataW.trod enc P w base spare held n f0.type [v0] = some y0 ∧ DataW.trod enc P w base spare held n f1.type [v1] = some y1 ∧
      DataW.trod enc P w base spare held n f2.type [v2] = some y2 ∧ DataW.trod enc P w base spare held n f3.type [v3] = some y3 := by
  obtain ⟨xs, n, hn, rfl, hl, hlen, hf⟩ := DataW.trod_struct ht h
  obtain ⟨o0, o1, o2, o3⟩ := o
  obtain ⟨c0, c1, c2, c3⟩ := c
  match xs, hlen with
  | [y0, y1, y2, y3], _ =>
    have g0 := hf 0 f0 rfl
    have g1 := hf 1 f1 rfl
    have g2 := hf 2 f2 rfl
    have g3 := hf 3 f3 rfl
    rw [o0, c0] at g0
    rw [o1, c1] at g1
    rw [o2, c2] at g2
    rw [o3, c3] at g3
    exact ⟨y0, y1, y2, y3, n, hn, rfl, g0, g1, g2, g3⟩
end
theorem inRs_all : ∀ {l : List GD}, (∀ x ∈ l, x.inR) → GD.inRs l
  | [], _ => trivial
  | y :: r, h => ⟨h y (by simp), inRs_all fun x hx => h x (by simp [hx])⟩
theorem fits_all : ∀ {l : List GD}, (∀ x ∈ l, x.fit) → GD.fits l
  | [], _ => trivial
  | y :: r, h => ⟨h y (by simp), fits_all fun x hx => h x (by simp [hx])⟩
theorem weightsAll_mem {H : Type} {P : Program} {e : TypeId} {d : DataW H} {n : Nat} : ∀ {l : List (DataW H)}, d ∈ l → n ∈ d.weights P e → n ∈ DataW.weightsAll P e l
  | y :: r, h, hn => by
    rw [DataW.weightsAll, List.mem_append]
    rcases List.mem_cons.1 h with rfl | h
    · exact .inl hn
    · exact .inr (weightsAll_mem h hn)
theorem cellsG : Tryd.prog.cellsOf 24 = 4 := by kernel_rfl
theorem guard_one : Tryd.prog.cellsOf 5 = 1 ∧ Tryd.prog.cellsOf 2 = 1 ∧ Tryd.prog.cellsOf 9 = 1 ∧ Tryd.prog.cellsOf 22 = 1 := ⟨by kernel_rfl, by kernel_rfl, by kernel_rfl, by kernel_rfl⟩
section
variable {H : Type} {enc : TypeId × Value → H} {w : World} {base : Nat} {spare : Nat → Bool} {held : Bool}
theorem openGuard : ∀ (fuel : Nat) (cs : List Value) (y : DataW H × List MemPlace), cs.length = 4 → DataW.trod enc Tryd.prog w base spare held fuel 24 cs = some y → (∀ x ∈ y.1.weights Tryd.prog 24, x ≤ reachBytes) → ∃ g : GD, GIn w g cs ∧ g.inR ∧ g.fit := by
  intro fuel
  induction fuel using Nat.strongRecOn with
  | ind fuel ih =>
    intro cs y hl h hw
    obtain ⟨v0, v1, v2, v3, rfl⟩ : ∃ v0 v1 v2 v3, cs = [v0, v1, v2, v3] := by
      match cs, hl with
      | [v0, v1, v2, v3], _ => exact ⟨v0, v1, v2, v3, rfl⟩
    obtain ⟨y0, y1, y2, y3, n, rfl, hy, h0, h1, h2, h3⟩ := cells4 Tryd.underlying24 ⟨rfl, rfl, rfl, rfl⟩ guard_one h
    obtain ⟨k, e0, hk, wk⟩ := DataW.trod_int Tryd.underlying5 h0
    obtain ⟨i, e1, hi, wi⟩ := DataW.trod_int Tryd.underlying2 h1
    obtain ⟨s, e2, hs, ws⟩ := DataW.trod_string Tryd.underlying9 h2
    injection e0 with e0 _
    injection e1 with e1 _
    injection e2 with e2 _
    subst e0; subst e1; subst e2
    have wk2 : 0 ≤ k := by simp [Lit.wf, IntKind.min, IntKind.max, IntKind.signed, IntKind.bits] at wk; omega
    have wi2 : -9223372036854775808 ≤ i ∧ i ≤ 9223372036854775807 := by simp [Lit.wf, IntKind.min, IntKind.max, IntKind.signed, IntKind.bits] at wi; omega
    obtain ⟨k, rfl⟩ : ∃ k' : Nat, k = k' := ⟨k.toNat, by omega⟩
    have hws : s.size ≤ reachN := by
      have := hw s.data.toList.length (by rw [hy]; simp [DataW.weights, DataW.weightsEach, Tryd.underlying24, hs])
      rw [ba_len] at this
      exact this
    rcases DataW.trod_slice Tryd.underlying22 h3 with ⟨hcs, hx⟩ | ⟨a, len, cap, elems, rest, m, rfl, hcs, hx, hb, hle, hcap, hlen, hel, -, -⟩
    · injection hcs with hcs _
      subst hcs
      exact ⟨.node k i s [], .mk k i s [] none 0 0 0 (fun _ => []) (by simp) (Nat.le_refl _) (fun h => absurd h (by simp)) (fun m h => absurd h (by simp)) (fun m h => absurd h (by simp)), ⟨wi2, trivial⟩, ⟨hws, trivial⟩⟩
    · injection hcs with hcs _
      subst hcs
      rw [cellsG] at hel
      have each : ∀ j, j < len → ∃ g : GD, ∃ cs' : List Value, (cs'.length = 4 ∧ ∀ i, i < 4 → w.cell? ((a.add (j * 4)).add i) = cs'[i]?) ∧ GIn w g cs' ∧ g.inR ∧ g.fit := by
        intro j hj
        have he := hel j hj
        rw [List.getElem?_eq_getElem (by omega)] at he
        obtain ⟨cs', hc1, hc2⟩ := Option.bind_eq_some_iff.1 he
        obtain ⟨-, hc3, hc4⟩ := World.cells?_some hc1
        obtain ⟨g, hg1, hg2, hg3⟩ := ih m (by omega) cs' _ hc3 hc2 (fun x hx2 => hw x (by
          rw [hy]
          simp only [DataW.weights, Tryd.underlying24, DataW.weightsEach, hx, Tryd.underlying22, List.map_cons, List.map_nil, List.mem_append, List.mem_cons]
          refine .inr (.inr (.inr (.inl (.inr (.inl ?_)))))
          exact weightsAll_mem (List.mem_map.2 ⟨elems[j], List.getElem_mem _, rfl⟩) hx2))
        exact ⟨g, cs', ⟨hc3, hc4⟩, hg1, hg2, hg3⟩
      by_cases h0 : 0 < len
      · have hsp : a = ⟨a.block, a.off, none⟩ ∧ a.block < w.heap.size := by
          obtain ⟨g, cs', ⟨q1, q2⟩, -⟩ := each 0 h0
          have := q2 0 (by omega)
          simp only [Nat.zero_mul, Addr.add_zero'] at this
          rw [List.getElem?_eq_getElem (by omega)] at this
          exact ⟨spot_none this, World.block_lt_of_cell? w _ this⟩
        obtain ⟨ab, ao, hae⟩ : ∃ ab ao, a = ⟨ab, ao, none⟩ := ⟨_, _, hsp.1⟩
        subst hae
        have hin : Inhabited GD := ⟨.node 0 0 ⟨#[]⟩ []⟩
        obtain ⟨f, hf⟩ := choose_lt each
        obtain ⟨c, hc⟩ := choose_lt (fun j hj => (hf j hj))
        have hll : ((List.range len).map f).length = len := by simp
        have hget : ∀ j (h : j < ((List.range len).map f).length), ((List.range len).map f)[j] = f j := fun j h => by simp
        refine ⟨.node k i s ((List.range len).map f), ?_, ⟨wi2, ?_⟩, ⟨hws, ?_⟩⟩
        · have := GIn.mk (w := w) k i s ((List.range len).map f) (some ⟨ab, ao, none⟩) cap ab ao c (by rw [hll]; omega) (by rw [hll]; omega) (fun _ => ⟨rfl, hsp.2⟩) (fun m hm => by
            have hm : m < len := by rw [hll] at hm; exact hm
            obtain ⟨⟨q1, q2⟩, -⟩ := hc m hm
            refine ⟨q1, fun i hi => ?_⟩
            have := q2 i hi
            rw [Addr.add_lit, Addr.add_lit] at this
            exact this) (fun m hm => by
            rw [hget]
            exact (hc m (by rw [hll] at hm; exact hm)).2.1)
          rw [hll] at this
          exact this
        · exact inRs_all fun x hx => by
            obtain ⟨j, hj, rfl⟩ := List.mem_map.1 hx
            exact (hc j (List.mem_range.1 hj)).2.2.1
        · exact fits_all fun x hx => by
            obtain ⟨j, hj, rfl⟩ := List.mem_map.1 hx
            exact (hc j (List.mem_range.1 hj)).2.2.2
      · obtain rfl : len = 0 := by omega
        exact ⟨.node k i s [], .mk k i s [] (some a) cap 0 0 (fun _ => []) (by simp) (Nat.zero_le _) (fun h => absurd h (by simp)) (fun m h => absurd h (by simp)) (fun m h => absurd h (by simp)), ⟨wi2, trivial⟩, ⟨hws, trivial⟩⟩
end
end Go.Proofs.YtkmgbkcpjlilpaaDoor
