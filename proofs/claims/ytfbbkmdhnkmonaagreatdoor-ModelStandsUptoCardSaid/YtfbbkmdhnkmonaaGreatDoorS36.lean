/- A model that came in, opened: by types; the bounds are the bulk's. -/
import Derived.Test.YtfbbkmdhnkmonaaGreatDoorS01
import Derived.Test.YtfbbkmdhnkmonaaGreatDoorS19
import Derived.Test.YtfbbkmdhnkmonaaGreatDoorS08
import Derived.Test.YtfbbkmdhnkmonaaGreatDoorRows
namespace Go.Proofs.YtfbbkmdhnkmonaaGreatDoor
set_option maxRecDepth 100000
open Go.ChangeShapes Go.WideShapes Go.ChangeAt Go.RowKit Go.Deep

/-- the bulk's bound -/
abbrev bulkMax : Nat := 1048576
theorem nil_memO (o : Bool) (P : Nat → Prop) (w : World) (k : Nat) : Mem o P w (.list k []) (.slice none 0 0) :=
  .list k [] [] none 0 0 0 rfl (Nat.le_refl _) (fun h => absurd h (by simp)) (fun j v h => absurd h (by simp)) (fun j v h => absurd h (by simp)) (fun j v i u h => absurd h (by simp)) (fun j v e i u d h => absurd h (by simp))
theorem bulk_pos {H : Type} (d : DataW H) : 1 ≤ Rows.uptoBulk d := by
  cases d with
  | lit l => cases l <;> simp [Rows.uptoBulk]
  | _ => simp [Rows.uptoBulk]
theorem bulk_len {H : Type} : ∀ l : List (DataW H), l.length ≤ Rows.uptoBulkAll l
  | [] => by simp [Rows.uptoBulkAll]
  | d :: r => by
    have := bulk_len r
    have := bulk_pos d
    simp [Rows.uptoBulkAll]; omega
theorem bulk_mem {H : Type} {d : DataW H} : ∀ {l : List (DataW H)}, d ∈ l → Rows.uptoBulk d ≤ Rows.uptoBulkAll l
  | y :: r, h => by
    simp only [Rows.uptoBulkAll]
    rcases List.mem_cons.1 h with rfl | h
    · omega
    · have := bulk_mem h; omega
section
variable {H : Type} (enc : TypeId × Value → H) (w : World) (base : Nat) (spare : Nat → Bool) (held : Bool)
/-- what a cell of a type is, as far as the fuel reaches -/
def Op1 (N : Nat) (t : TypeId) (R : D → Prop) : Prop := ∀ n, n < N → ∀ (c : Value) (y : DataW H × List MemPlace), DataW.trod enc Tryz.prog w base spare held n t [c] = some y → Rows.uptoBulk y.1 ≤ bulkMax → ∃ d, R d ∧ Mem false (From 0) w d c
/-- what the cells of a type are -/
def OpL (N : Nat) (t : TypeId) (k : Nat) (R : List D → Prop) : Prop := ∀ n, n < N → ∀ (cs : List Value) (y : DataW H × List MemPlace), cs.length = k → DataW.trod enc Tryz.prog w base spare held n t cs = some y → Rows.uptoBulk y.1 ≤ bulkMax → ∃ ds, R ds ∧ MemL false (From 0) w ds cs
variable {enc w base spare held}
theorem op1_int (N : Nat) {t : TypeId} {k : IntKind} (ht : Tryz.prog.underlying t = some (.int k)) : Op1 enc w base spare held N t (fun d => ∃ i, d = .atom (.int k i)) := by
  intro n _ c y h _
  obtain ⟨i, e, -, -⟩ := DataW.trod_int ht h
  injection e with e _
  exact ⟨_, ⟨i, rfl⟩, e ▸ .atom _⟩
theorem op1_bool (N : Nat) {t : TypeId} (ht : Tryz.prog.underlying t = some .bool) : Op1 enc w base spare held N t (fun d => ∃ i, d = .atom (.bool i)) := by
  intro n _ c y h _
  obtain ⟨i, e, -⟩ := DataW.trod_bool ht h
  injection e with e _
  exact ⟨_, ⟨i, rfl⟩, e ▸ .atom _⟩
theorem op1_str (N : Nat) {t : TypeId} (ht : Tryz.prog.underlying t = some .string) : Op1 enc w base spare held N t (fun d => ∃ i : ByteArray, i.size ≤ maxLen ∧ d = .atom (.string i)) := by
  intro n _ c y h _
  obtain ⟨i, e, -, hs⟩ := DataW.trod_string ht h
  injection e with e _
  exact ⟨_, ⟨i, hs, rfl⟩, e ▸ .atom _⟩
/-- one cell, as cells -/
theorem opL_one {N : Nat} {t : TypeId} {R : D → Prop} (h : Op1 enc w base spare held N t R) : OpL enc w base spare held N t 1 (fun ds => ∃ d, R d ∧ ds = [d]) := by
  intro n hn cs y hl hy hb
  match cs, hl with
  | [c], _ =>
    obtain ⟨d, hd, hm⟩ := h n hn c y hy hb
    exact ⟨[d], ⟨d, hd, rfl⟩, .cons hm (MemL.nil _ _ _)⟩
theorem unmap {α β : Type} (F : α → β) (Q : α → Prop) : ∀ (es : List β) (_ : ∀ x ∈ es, ∃ a, Q a ∧ x = F a), ∃ ls : List α, es = ls.map F ∧ ∀ a ∈ ls, Q a
  | [], _ => ⟨[], rfl, fun a h => absurd h (by simp)⟩
  | e :: es, h => by
    obtain ⟨a, ha, rfl⟩ := h e (List.mem_cons_self ..)
    obtain ⟨ls, rfl, hq⟩ := unmap F Q es fun x hx => h x (List.mem_cons_of_mem _ hx)
    refine ⟨a :: ls, rfl, fun b hb => ?_⟩
    rcases List.mem_cons.1 hb with rfl | hb
    · exact ha
    · exact hq b hb
/-- a slice -/
theorem op1_slice {N : Nat} {t e : TypeId} {k : Nat} {R : List D → Prop} (ht : Tryz.prog.underlying t = some (.slice e)) (he : Tryz.prog.cellsOf e = k) (hk : 0 < k) (hR : ∀ ds, R ds → ds.length = k) (el : OpL enc w base spare held N e k R) :
    Op1 enc w base spare held N t (fun d => ∃ es : List (List D), es.length ≤ bulkMax ∧ (∀ x ∈ es, R x) ∧ d = .list k es) := by
  intro n hn c y h hb
  rcases DataW.trod_slice ht h with ⟨hcs, hx⟩ | ⟨a, len, cap, elems, rest, m, rfl, hcs, hx, hba, hle, hcap, hlen, hel, -, -⟩
  · injection hcs with hcs _
    subst hcs
    exact ⟨_, ⟨[], by simp, fun x hx => absurd hx (by simp), rfl⟩, nil_memO _ _ _ _⟩
  · injection hcs with hcs _
    subst hcs
    rw [hx] at hb
    simp only [Rows.uptoBulk] at hb
    have hlb := bulk_len (elems.map (·.1))
    rw [List.length_map] at hlb
    rw [he] at hel
    obtain ⟨zs, hzl, hz⟩ := list_of' (fun (j : Nat) (z : List D × List Value) => R z.1 ∧ MemL false (From 0) w z.1 z.2 ∧ z.2.length = k ∧ ∀ i, i < k → w.cell? ((a.add (j * k)).add i) = z.2[i]?) len fun j hj => by
      have hej := hel j hj
      rw [List.getElem?_eq_getElem (by omega)] at hej
      obtain ⟨cs', hc1, hc2⟩ := Option.bind_eq_some_iff.1 hej
      obtain ⟨-, hc3, hc4⟩ := World.cells?_some hc1
      have hbj := bulk_mem (l := elems.map (·.1)) (List.mem_map.2 ⟨elems[j]'(by omega), List.getElem_mem _, rfl⟩)
      obtain ⟨ds, hd1, hd2⟩ := el m (by omega) cs' _ hc3 hc2 (by omega)
      exact ⟨(ds, cs'), hd1, hd2, hc3, hc4⟩
    have hsp : 0 < len → a = ⟨a.block, a.off, none⟩ ∧ a.block < w.heap.size := by
      intro h0
      obtain ⟨-, -, q1, q2⟩ := hz 0 h0
      have := q2 0 hk
      simp only [Nat.zero_mul, Addr.add_zero'] at this
      rw [List.getElem?_eq_getElem (by omega)] at this
      exact ⟨spot_none this, World.block_lt_of_cell? w _ this⟩
    have hget : ∀ (j : Nat) (v : List Value), (zs.map (·.2))[j]? = some v → ∃ hj : j < len, v = zs[j]!.2 := by
      intro j v hv
      have hj := lt_of_some hv
      rw [List.length_map, hzl] at hj
      refine ⟨hj, ?_⟩
      rw [List.getElem?_map, List.getElem?_eq_getElem (by omega)] at hv
      injection hv with hv
      rw [getElem!_pos zs j (by omega), ← hv]
    have hget1 : ∀ (j : Nat) (v : List D), (zs.map (·.1))[j]? = some v → ∃ hj : j < len, v = zs[j]!.1 := by
      intro j v hv
      have hj := lt_of_some hv
      rw [List.length_map, hzl] at hj
      refine ⟨hj, ?_⟩
      rw [List.getElem?_map, List.getElem?_eq_getElem (by omega)] at hv
      injection hv with hv
      rw [getElem!_pos zs j (by omega), ← hv]
    refine ⟨.list k (zs.map (·.1)), ⟨zs.map (·.1), by rw [List.length_map, hzl]; omega, fun x hx => ?_, rfl⟩, ?_⟩
    · obtain ⟨z, hzm, rfl⟩ := List.mem_map.1 hx
      obtain ⟨j, hj, rfl⟩ := List.mem_iff_getElem.1 hzm
      have := (hz j (by omega)).1
      rw [getElem!_pos zs j hj] at this
      exact this
    · have hvl : (zs.map (·.2)).length = len := by rw [List.length_map, hzl]
      have := Mem.list (o := false) (P := From 0) (w := w) k (zs.map (·.1)) (zs.map (·.2)) (some a) cap a.block a.off (by simp) (by rw [hvl]; exact hle) (fun h0 => by
        rw [hvl] at h0
        exact ⟨congrArg some (hsp h0).1, Nat.zero_le _, (hsp h0).2⟩) (fun j v hv => by
        obtain ⟨hj, rfl⟩ := hget j v hv
        exact (hz j hj).2.2.1) (fun j v hv => by
        obtain ⟨hj, rfl⟩ := hget1 j v hv
        exact hR _ (hz j hj).1) (fun j v i u hv hu => by
        obtain ⟨hj, rfl⟩ := hget j v hv
        obtain ⟨-, -, h1, h2⟩ := hz j hj
        have hi : i < k := by rw [← h1]; exact lt_of_some hu
        have h3 := h2 i hi
        rw [hu, (hsp (by omega)).1, Addr.add_lit, Addr.add_lit] at h3
        exact ⟨h3, fun h => by cases h⟩) (fun j v e i u d hv he2 hu hd => by
        obtain ⟨hj, rfl⟩ := hget j v hv
        obtain ⟨_, rfl⟩ := hget1 j e he2
        exact (hz j hj).2.1.2 i d u hd hu)
      rw [hvl] at this
      exact this
/-- .. whose elements are records -/
theorem op1_recs {N : Nat} {t e : TypeId} {k : Nat} {α : Type} {F : α → List D} {Q : α → Prop} (ht : Tryz.prog.underlying t = some (.slice e)) (he : Tryz.prog.cellsOf e = k) (hk : 0 < k) (hF : ∀ a, (F a).length = k) (el : OpL enc w base spare held N e k (fun ds => ∃ a, Q a ∧ ds = F a)) :
    Op1 enc w base spare held N t (fun d => ∃ ls : List α, ls.length ≤ bulkMax ∧ (∀ a ∈ ls, Q a) ∧ d = .list k (ls.map F)) := by
  intro n hn c y h hb
  obtain ⟨d, ⟨es, hl, hr, rfl⟩, hm⟩ := op1_slice ht he hk (fun ds hd => by obtain ⟨a, -, rfl⟩ := hd; exact hF a) el n hn c y h hb
  obtain ⟨ls, rfl, hq⟩ := unmap F Q es hr
  exact ⟨_, ⟨ls, by simpa using hl, hq, rfl⟩, hm⟩
/-- texts -/
theorem op1_strs (N : Nat) : Op1 enc w base spare held N 26 (fun d => ∃ rs : List ByteArray, rs.length ≤ bulkMax ∧ (∀ s ∈ rs, s.size ≤ maxLen) ∧ d = strD rs) := by
  intro n hn c y h hb
  obtain ⟨d, ⟨rs, hl, hq, rfl⟩, hm⟩ := op1_recs (k := 1) (F := fun s : ByteArray => [D.atom (.string s)]) (Q := fun s => s.size ≤ maxLen) Tryz.underlying26 (by kernel_rfl) (by omega) (fun _ => rfl) (fun n hn cs y hl hy hb => by
    obtain ⟨ds, ⟨d, ⟨i, hi, rfl⟩, rfl⟩, hm⟩ := opL_one (op1_str N Tryz.underlying9) n hn cs y hl hy hb
    exact ⟨_, ⟨i, hi, rfl⟩, hm⟩) n hn c y h hb
  exact ⟨_, ⟨rs, hl, hq, rfl⟩, hm⟩
theorem opL_sentry (N : Nat) : OpL enc w base spare held N 35 3 (fun ds => ∃ a : SentryD, True ∧ ds = (SentryD.cs a).map D.atom) := by
  intro n hn cs y hl h hb
  match cs, hl with
  | [c0, c1, c2], _ =>
    obtain ⟨xs, m, rfl, rfl, -, hlen, hf⟩ := DataW.trod_struct Tryz.underlying35 h
    match xs, hlen with
    | [y0, y1, y2], _ =>
      simp only [List.map_cons, List.map_nil, Rows.uptoBulk, Rows.uptoBulkAll] at hb
      have g0 : DataW.trod enc Tryz.prog w base spare held m 5 [c0] = some y0 := by
        have e : Tryz.prog.cellsOf 5 = 1 := by kernel_rfl
        have : DataW.trod enc Tryz.prog w base spare held m 5 ((([c0, c1, c2] : List Value).drop 0).take (Tryz.prog.cellsOf 5)) = some y0 := hf 0 _ rfl
        rw [e] at this
        exact this
      obtain ⟨_, ⟨x0, rfl⟩, m0⟩ := (op1_int N Tryz.underlying5) m (by omega) c0 y0 g0 (by omega)
      have g1 : DataW.trod enc Tryz.prog w base spare held m 9 [c1] = some y1 := by
        have e : Tryz.prog.cellsOf 9 = 1 := by kernel_rfl
        have : DataW.trod enc Tryz.prog w base spare held m 9 ((([c0, c1, c2] : List Value).drop 1).take (Tryz.prog.cellsOf 9)) = some y1 := hf 1 _ rfl
        rw [e] at this
        exact this
      obtain ⟨_, ⟨x1, zx1, rfl⟩, m1⟩ := (op1_str N Tryz.underlying9) m (by omega) c1 y1 g1 (by omega)
      have g2 : DataW.trod enc Tryz.prog w base spare held m 9 [c2] = some y2 := by
        have e : Tryz.prog.cellsOf 9 = 1 := by kernel_rfl
        have : DataW.trod enc Tryz.prog w base spare held m 9 ((([c0, c1, c2] : List Value).drop 2).take (Tryz.prog.cellsOf 9)) = some y2 := hf 2 _ rfl
        rw [e] at this
        exact this
      obtain ⟨_, ⟨x2, zx2, rfl⟩, m2⟩ := (op1_str N Tryz.underlying9) m (by omega) c2 y2 g2 (by omega)
      exact ⟨_, ⟨⟨x0, x1, x2⟩, trivial, rfl⟩, .cons m0 (.cons m1 (.cons m2 (MemL.nil _ _ _)))⟩
theorem op1_sentries (N : Nat) : Op1 enc w base spare held N 36 (fun d => ∃ ls : List SentryD, ls.length ≤ bulkMax ∧ (∀ a ∈ ls, True) ∧ d = .list 3 (ls.map (fun a => (SentryD.cs a).map D.atom))) :=
  op1_recs Tryz.underlying36 (by kernel_rfl) (by omega) (fun _ => rfl) (opL_sentry N)
theorem opL_attr (N : Nat) : OpL enc w base spare held N 61 2 (fun ds => ∃ a : AttrD, a.name.size ≤ maxLen ∧ ds = (AttrD.cs a).map D.atom) := by
  intro n hn cs y hl h hb
  match cs, hl with
  | [c0, c1], _ =>
    obtain ⟨xs, m, rfl, rfl, -, hlen, hf⟩ := DataW.trod_struct Tryz.underlying61 h
    match xs, hlen with
    | [y0, y1], _ =>
      simp only [List.map_cons, List.map_nil, Rows.uptoBulk, Rows.uptoBulkAll] at hb
      have g0 : DataW.trod enc Tryz.prog w base spare held m 9 [c0] = some y0 := by
        have e : Tryz.prog.cellsOf 9 = 1 := by kernel_rfl
        have : DataW.trod enc Tryz.prog w base spare held m 9 ((([c0, c1] : List Value).drop 0).take (Tryz.prog.cellsOf 9)) = some y0 := hf 0 _ rfl
        rw [e] at this
        exact this
      obtain ⟨_, ⟨x0, zx0, rfl⟩, m0⟩ := (op1_str N Tryz.underlying9) m (by omega) c0 y0 g0 (by omega)
      have g1 : DataW.trod enc Tryz.prog w base spare held m 5 [c1] = some y1 := by
        have e : Tryz.prog.cellsOf 5 = 1 := by kernel_rfl
        have : DataW.trod enc Tryz.prog w base spare held m 5 ((([c0, c1] : List Value).drop 1).take (Tryz.prog.cellsOf 5)) = some y1 := hf 1 _ rfl
        rw [e] at this
        exact this
      obtain ⟨_, ⟨x1, rfl⟩, m1⟩ := (op1_int N Tryz.underlying5) m (by omega) c1 y1 g1 (by omega)
      exact ⟨_, ⟨⟨x0, x1⟩, zx0, rfl⟩, .cons m0 (.cons m1 (MemL.nil _ _ _))⟩
theorem op1_attrs (N : Nat) : Op1 enc w base spare held N 25 (fun d => ∃ ls : List AttrD, ls.length ≤ bulkMax ∧ (∀ a ∈ ls, a.name.size ≤ maxLen) ∧ d = .list 2 (ls.map (fun a => (AttrD.cs a).map D.atom))) :=
  op1_recs Tryz.underlying25 (by kernel_rfl) (by omega) (fun _ => rfl) (opL_attr N)
theorem opL_pair (N : Nat) : OpL enc w base spare held N 95 2 (fun ds => ∃ a : ByteArray × ByteArray, True ∧ ds = (pairC a).map D.atom) := by
  intro n hn cs y hl h hb
  match cs, hl with
  | [c0, c1], _ =>
    obtain ⟨xs, m, rfl, rfl, -, hlen, hf⟩ := DataW.trod_array Tryz.underlying95 h
    match xs, hlen with
    | [y0, y1], _ =>
      simp only [List.map_cons, List.map_nil, Rows.uptoBulk, Rows.uptoBulkAll] at hb
      have g0 : DataW.trod enc Tryz.prog w base spare held m 9 [c0] = some y0 := by
        have e : Tryz.prog.cellsOf 9 = 1 := by kernel_rfl
        have : DataW.trod enc Tryz.prog w base spare held m 9 ((([c0, c1] : List Value).drop (0 * Tryz.prog.cellsOf 9)).take (Tryz.prog.cellsOf 9)) = some y0 := hf 0 (by omega)
        rw [e] at this
        exact this
      obtain ⟨_, ⟨x0, zx0, rfl⟩, m0⟩ := (op1_str N Tryz.underlying9) m (by omega) c0 y0 g0 (by omega)
      have g1 : DataW.trod enc Tryz.prog w base spare held m 9 [c1] = some y1 := by
        have e : Tryz.prog.cellsOf 9 = 1 := by kernel_rfl
        have : DataW.trod enc Tryz.prog w base spare held m 9 ((([c0, c1] : List Value).drop (1 * Tryz.prog.cellsOf 9)).take (Tryz.prog.cellsOf 9)) = some y1 := hf 1 (by omega)
        rw [e] at this
        exact this
      obtain ⟨_, ⟨x1, zx1, rfl⟩, m1⟩ := (op1_str N Tryz.underlying9) m (by omega) c1 y1 g1 (by omega)
      exact ⟨_, ⟨(x0, x1), trivial, rfl⟩, .cons m0 (.cons m1 (MemL.nil _ _ _))⟩
theorem op1_pairs (N : Nat) : Op1 enc w base spare held N 29 (fun d => ∃ ls : List (ByteArray × ByteArray), ls.length ≤ bulkMax ∧ (∀ a ∈ ls, True) ∧ d = .list 2 (ls.map (fun a => (pairC a).map D.atom))) :=
  op1_recs Tryz.underlying29 (by kernel_rfl) (by omega) (fun _ => rfl) (opL_pair N)
theorem opL_stage (N : Nat) : OpL enc w base spare held N 38 7 (fun ds => ∃ a : StageD, (a.opens.length ≤ 1048576 ∧ a.closes.length ≤ 1048576 ∧ a.name.size ≤ maxLen) ∧ ds = a.ds) := by
  intro n hn cs y hl h hb
  match cs, hl with
  | [c0, c1, c2, c3, c4, c5, c6], _ =>
    obtain ⟨xs, m, rfl, rfl, -, hlen, hf⟩ := DataW.trod_struct Tryz.underlying38 h
    match xs, hlen with
    | [y0, y1, y2, y3, y4, y5, y6], _ =>
      simp only [List.map_cons, List.map_nil, Rows.uptoBulk, Rows.uptoBulkAll] at hb
      have g0 : DataW.trod enc Tryz.prog w base spare held m 9 [c0] = some y0 := by
        have e : Tryz.prog.cellsOf 9 = 1 := by kernel_rfl
        have : DataW.trod enc Tryz.prog w base spare held m 9 ((([c0, c1, c2, c3, c4, c5, c6] : List Value).drop 0).take (Tryz.prog.cellsOf 9)) = some y0 := hf 0 _ rfl
        rw [e] at this
        exact this
      obtain ⟨_, ⟨x0, zx0, rfl⟩, m0⟩ := (op1_str N Tryz.underlying9) m (by omega) c0 y0 g0 (by omega)
      have g1 : DataW.trod enc Tryz.prog w base spare held m 3 [c1] = some y1 := by
        have e : Tryz.prog.cellsOf 3 = 1 := by kernel_rfl
        have : DataW.trod enc Tryz.prog w base spare held m 3 ((([c0, c1, c2, c3, c4, c5, c6] : List Value).drop 1).take (Tryz.prog.cellsOf 3)) = some y1 := hf 1 _ rfl
        rw [e] at this
        exact this
      obtain ⟨_, ⟨x1, rfl⟩, m1⟩ := (op1_int N Tryz.underlying3) m (by omega) c1 y1 g1 (by omega)
      have g2 : DataW.trod enc Tryz.prog w base spare held m 36 [c2] = some y2 := by
        have e : Tryz.prog.cellsOf 36 = 1 := by kernel_rfl
        have : DataW.trod enc Tryz.prog w base spare held m 36 ((([c0, c1, c2, c3, c4, c5, c6] : List Value).drop 2).take (Tryz.prog.cellsOf 36)) = some y2 := hf 2 _ rfl
        rw [e] at this
        exact this
      obtain ⟨_, ⟨x2, lx2, px2, rfl⟩, m2⟩ := (op1_sentries N) m (by omega) c2 y2 g2 (by omega)
      have g3 : DataW.trod enc Tryz.prog w base spare held m 36 [c3] = some y3 := by
        have e : Tryz.prog.cellsOf 36 = 1 := by kernel_rfl
        have : DataW.trod enc Tryz.prog w base spare held m 36 ((([c0, c1, c2, c3, c4, c5, c6] : List Value).drop 3).take (Tryz.prog.cellsOf 36)) = some y3 := hf 3 _ rfl
        rw [e] at this
        exact this
      obtain ⟨_, ⟨x3, lx3, px3, rfl⟩, m3⟩ := (op1_sentries N) m (by omega) c3 y3 g3 (by omega)
      have g4 : DataW.trod enc Tryz.prog w base spare held m 9 [c4] = some y4 := by
        have e : Tryz.prog.cellsOf 9 = 1 := by kernel_rfl
        have : DataW.trod enc Tryz.prog w base spare held m 9 ((([c0, c1, c2, c3, c4, c5, c6] : List Value).drop 4).take (Tryz.prog.cellsOf 9)) = some y4 := hf 4 _ rfl
        rw [e] at this
        exact this
      obtain ⟨_, ⟨x4, zx4, rfl⟩, m4⟩ := (op1_str N Tryz.underlying9) m (by omega) c4 y4 g4 (by omega)
      have g5 : DataW.trod enc Tryz.prog w base spare held m 3 [c5] = some y5 := by
        have e : Tryz.prog.cellsOf 3 = 1 := by kernel_rfl
        have : DataW.trod enc Tryz.prog w base spare held m 3 ((([c0, c1, c2, c3, c4, c5, c6] : List Value).drop 5).take (Tryz.prog.cellsOf 3)) = some y5 := hf 5 _ rfl
        rw [e] at this
        exact this
      obtain ⟨_, ⟨x5, rfl⟩, m5⟩ := (op1_int N Tryz.underlying3) m (by omega) c5 y5 g5 (by omega)
      have g6 : DataW.trod enc Tryz.prog w base spare held m 9 [c6] = some y6 := by
        have e : Tryz.prog.cellsOf 9 = 1 := by kernel_rfl
        have : DataW.trod enc Tryz.prog w base spare held m 9 ((([c0, c1, c2, c3, c4, c5, c6] : List Value).drop 6).take (Tryz.prog.cellsOf 9)) = some y6 := hf 6 _ rfl
        rw [e] at this
        exact this
      obtain ⟨_, ⟨x6, zx6, rfl⟩, m6⟩ := (op1_str N Tryz.underlying9) m (by omega) c6 y6 g6 (by omega)
      exact ⟨_, ⟨⟨x0, x1, x2, x3, x4, x5, x6⟩, ⟨lx2, lx3, zx0⟩, rfl⟩, .cons m0 (.cons m1 (.cons m2 (.cons m3 (.cons m4 (.cons m5 (.cons m6 (MemL.nil _ _ _)))))))⟩
theorem op1_stages (N : Nat) : Op1 enc w base spare held N 27 (fun d => ∃ ls : List StageD, ls.length ≤ bulkMax ∧ (∀ a ∈ ls, (a.opens.length ≤ 1048576 ∧ a.closes.length ≤ 1048576 ∧ a.name.size ≤ maxLen)) ∧ d = .list 7 (ls.map StageD.ds)) :=
  op1_recs Tryz.underlying27 (by kernel_rfl) (by omega) (fun _ => rfl) (opL_stage N)
theorem opL_stone (N : Nat) : OpL enc w base spare held N 58 3 (fun ds => ∃ a : StoneD, (a.done.length ≤ 1048576 ∧ a.undo.length ≤ 1048576 ∧ a.name.size ≤ maxLen) ∧ ds = a.ds) := by
  intro n hn cs y hl h hb
  match cs, hl with
  | [c0, c1, c2], _ =>
    obtain ⟨xs, m, rfl, rfl, -, hlen, hf⟩ := DataW.trod_struct Tryz.underlying58 h
    match xs, hlen with
    | [y0, y1, y2], _ =>
      simp only [List.map_cons, List.map_nil, Rows.uptoBulk, Rows.uptoBulkAll] at hb
      have g0 : DataW.trod enc Tryz.prog w base spare held m 9 [c0] = some y0 := by
        have e : Tryz.prog.cellsOf 9 = 1 := by kernel_rfl
        have : DataW.trod enc Tryz.prog w base spare held m 9 ((([c0, c1, c2] : List Value).drop 0).take (Tryz.prog.cellsOf 9)) = some y0 := hf 0 _ rfl
        rw [e] at this
        exact this
      obtain ⟨_, ⟨x0, zx0, rfl⟩, m0⟩ := (op1_str N Tryz.underlying9) m (by omega) c0 y0 g0 (by omega)
      have g1 : DataW.trod enc Tryz.prog w base spare held m 36 [c1] = some y1 := by
        have e : Tryz.prog.cellsOf 36 = 1 := by kernel_rfl
        have : DataW.trod enc Tryz.prog w base spare held m 36 ((([c0, c1, c2] : List Value).drop 1).take (Tryz.prog.cellsOf 36)) = some y1 := hf 1 _ rfl
        rw [e] at this
        exact this
      obtain ⟨_, ⟨x1, lx1, px1, rfl⟩, m1⟩ := (op1_sentries N) m (by omega) c1 y1 g1 (by omega)
      have g2 : DataW.trod enc Tryz.prog w base spare held m 36 [c2] = some y2 := by
        have e : Tryz.prog.cellsOf 36 = 1 := by kernel_rfl
        have : DataW.trod enc Tryz.prog w base spare held m 36 ((([c0, c1, c2] : List Value).drop 2).take (Tryz.prog.cellsOf 36)) = some y2 := hf 2 _ rfl
        rw [e] at this
        exact this
      obtain ⟨_, ⟨x2, lx2, px2, rfl⟩, m2⟩ := (op1_sentries N) m (by omega) c2 y2 g2 (by omega)
      exact ⟨_, ⟨⟨x0, x1, x2⟩, ⟨lx1, lx2, zx0⟩, rfl⟩, .cons m0 (.cons m1 (.cons m2 (MemL.nil _ _ _)))⟩
theorem op1_stones (N : Nat) : Op1 enc w base spare held N 28 (fun d => ∃ ls : List StoneD, ls.length ≤ bulkMax ∧ (∀ a ∈ ls, (a.done.length ≤ 1048576 ∧ a.undo.length ≤ 1048576 ∧ a.name.size ≤ maxLen)) ∧ d = .list 3 (ls.map StoneD.ds)) :=
  op1_recs Tryz.underlying28 (by kernel_rfl) (by omega) (fun _ => rfl) (opL_stone N)
theorem opL_model (N : Nat) : OpL enc w base spare held N 31 6 (fun ds => ∃ a : ModelD, (a.Sml ∧ a.Txt) ∧ ds = a.ds) := by
  intro n hn cs y hl h hb
  match cs, hl with
  | [c0, c1, c2, c3, c4, c5], _ =>
    obtain ⟨xs, m, rfl, rfl, -, hlen, hf⟩ := DataW.trod_struct Tryz.underlying31 h
    match xs, hlen with
    | [y0, y1, y2, y3, y4, y5], _ =>
      simp only [List.map_cons, List.map_nil, Rows.uptoBulk, Rows.uptoBulkAll] at hb
      have g0 : DataW.trod enc Tryz.prog w base spare held m 9 [c0] = some y0 := by
        have e : Tryz.prog.cellsOf 9 = 1 := by kernel_rfl
        have : DataW.trod enc Tryz.prog w base spare held m 9 ((([c0, c1, c2, c3, c4, c5] : List Value).drop 0).take (Tryz.prog.cellsOf 9)) = some y0 := hf 0 _ rfl
        rw [e] at this
        exact this
      obtain ⟨_, ⟨x0, zx0, rfl⟩, m0⟩ := (op1_str N Tryz.underlying9) m (by omega) c0 y0 g0 (by omega)
      have g1 : DataW.trod enc Tryz.prog w base spare held m 25 [c1] = some y1 := by
        have e : Tryz.prog.cellsOf 25 = 1 := by kernel_rfl
        have : DataW.trod enc Tryz.prog w base spare held m 25 ((([c0, c1, c2, c3, c4, c5] : List Value).drop 1).take (Tryz.prog.cellsOf 25)) = some y1 := hf 1 _ rfl
        rw [e] at this
        exact this
      obtain ⟨_, ⟨x1, lx1, px1, rfl⟩, m1⟩ := (op1_attrs N) m (by omega) c1 y1 g1 (by omega)
      have g2 : DataW.trod enc Tryz.prog w base spare held m 26 [c2] = some y2 := by
        have e : Tryz.prog.cellsOf 26 = 1 := by kernel_rfl
        have : DataW.trod enc Tryz.prog w base spare held m 26 ((([c0, c1, c2, c3, c4, c5] : List Value).drop 2).take (Tryz.prog.cellsOf 26)) = some y2 := hf 2 _ rfl
        rw [e] at this
        exact this
      obtain ⟨_, ⟨x2, lx2, px2, rfl⟩, m2⟩ := (op1_strs N) m (by omega) c2 y2 g2 (by omega)
      have g3 : DataW.trod enc Tryz.prog w base spare held m 27 [c3] = some y3 := by
        have e : Tryz.prog.cellsOf 27 = 1 := by kernel_rfl
        have : DataW.trod enc Tryz.prog w base spare held m 27 ((([c0, c1, c2, c3, c4, c5] : List Value).drop 3).take (Tryz.prog.cellsOf 27)) = some y3 := hf 3 _ rfl
        rw [e] at this
        exact this
      obtain ⟨_, ⟨x3, lx3, px3, rfl⟩, m3⟩ := (op1_stages N) m (by omega) c3 y3 g3 (by omega)
      have g4 : DataW.trod enc Tryz.prog w base spare held m 28 [c4] = some y4 := by
        have e : Tryz.prog.cellsOf 28 = 1 := by kernel_rfl
        have : DataW.trod enc Tryz.prog w base spare held m 28 ((([c0, c1, c2, c3, c4, c5] : List Value).drop 4).take (Tryz.prog.cellsOf 28)) = some y4 := hf 4 _ rfl
        rw [e] at this
        exact this
      obtain ⟨_, ⟨x4, lx4, px4, rfl⟩, m4⟩ := (op1_stones N) m (by omega) c4 y4 g4 (by omega)
      have g5 : DataW.trod enc Tryz.prog w base spare held m 29 [c5] = some y5 := by
        have e : Tryz.prog.cellsOf 29 = 1 := by kernel_rfl
        have : DataW.trod enc Tryz.prog w base spare held m 29 ((([c0, c1, c2, c3, c4, c5] : List Value).drop 5).take (Tryz.prog.cellsOf 29)) = some y5 := hf 5 _ rfl
        rw [e] at this
        exact this
      obtain ⟨_, ⟨x5, lx5, px5, rfl⟩, m5⟩ := (op1_pairs N) m (by omega) c5 y5 g5 (by omega)
      exact ⟨_, ⟨⟨x0, x1, x2, x3, x4, x5⟩, ⟨⟨lx1, lx2, lx3, lx4, lx5, fun s hs => ⟨(px3 s hs).1, (px3 s hs).2.1⟩, fun s hs => ⟨(px4 s hs).1, (px4 s hs).2.1⟩⟩, ⟨px1, px2, fun s hs => (px3 s hs).2.2, fun s hs => (px4 s hs).2.2⟩⟩, rfl⟩, .cons m0 (.cons m1 (.cons m2 (.cons m3 (.cons m4 (.cons m5 (MemL.nil _ _ _))))))⟩
end
theorem ModelD.cells {o : Bool} {P : Nat → Prop} {w : World} {r : ModelD} {us : List Value} (h : MemL o P w r.ds us) : ∃ v : ModelV, us = v.cs r ∧ ModelM o P w r v := by
  obtain ⟨x0, y0, rfl, h0, h⟩ := MemL.inv h
  obtain ⟨x1, y1, rfl, h1, h⟩ := h.inv
  obtain ⟨x2, y2, rfl, h2, h⟩ := h.inv
  obtain ⟨x3, y3, rfl, h3, h⟩ := h.inv
  obtain ⟨x4, y4, rfl, h4, h⟩ := h.inv
  obtain ⟨x5, y5, rfl, h5, h⟩ := h.inv
  obtain rfl := h.inv0
  obtain ⟨a1, c1, _, _, rfl, -, -⟩ := flat_open h1
  obtain ⟨a2, c2, _, _, rfl, -, -⟩ := flat_open h2
  obtain ⟨a3, c3, _, _, rfl, -, -⟩ := rec_open h3
  obtain ⟨a4, c4, _, _, rfl, -, -⟩ := rec_open h4
  obtain ⟨a5, c5, _, _, rfl, -, -⟩ := flat_open h5
  exact ⟨⟨a1, c1, a2, c2, a3, c3, a4, c4, a5, c5⟩, by rw [h0.atomInv], h1, h2, h3, h4, h5⟩
end Go.Proofs.YtfbbkmdhnkmonaaGreatDoor
