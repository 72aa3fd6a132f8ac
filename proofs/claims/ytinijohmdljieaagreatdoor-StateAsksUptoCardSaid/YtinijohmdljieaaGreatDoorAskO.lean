/- A state that came in, opened: by types; the bounds are the bulk's. -/
import Derived.Test.YtinijohmdljieaaGreatDoorH01
import Derived.Test.YtinijohmdljieaaGreatDoorH13
import Derived.Test.YtinijohmdljieaaGreatDoorRows
namespace Go.Proofs.YtinijohmdljieaaGreatDoor
set_option maxRecDepth 100000
open Go.ChangeShapes Go.WideShapes Go.ChangeAt Go.RowKit Go.Deep

/-- the bulk's bound -/
abbrev bulkMax : Nat := 1048576
theorem bulk_pos {H : Type} (d : DataW H) : 1 ≤ Rows.uptoBulk d := by
  cases d with
  | lit l => cases l <;> simp [Rows.uptoBulk]
  | _ => simp [Rows.uptoBulk]
theorem bulk_len {H : Type} : ∀ l : List (DataW H), l.length ≤ Rows.uptoBulkAll l
  | [] => by simp [Rows.uptoBulkAll]
  | d :: r => by
    have := bulk_len r
    have := bulk_pos d
    simp [Rows.uptoBulkAll]; omega
theorem bulk_mem {H : Type} {d : DataW H} : ∀ {l : List (DataW H)}, d ∈ l → Rows.uptoBulk d ≤ Rows.uptoBulkAll l
  | y :: r, h => by
    simp only [Rows.uptoBulkAll]
    rcases List.mem_cons.1 h with rfl | h
    · omega
    · have := bulk_mem h; omega
section
variable {H : Type} (enc : TypeId × Value → H) (w : World) (base : Nat) (spare : Nat → Bool) (held : Bool)
/-- what a cell of a type is, as far as the fuel reaches -/
def Op1 (N : Nat) (t : TypeId) (R : D → Prop) : Prop := ∀ n, n < N → ∀ (c : Value) (y : DataW H × List MemPlace), DataW.trod enc Tryz.prog w base spare held n t [c] = some y → Rows.uptoBulk y.1 ≤ bulkMax → ∃ d, R d ∧ Mem false (From 0) w d c
/-- what the cells of a type are -/
def OpL (N : Nat) (t : TypeId) (k : Nat) (R : List D → Prop) : Prop := ∀ n, n < N → ∀ (cs : List Value) (y : DataW H × List MemPlace), cs.length = k → DataW.trod enc Tryz.prog w base spare held n t cs = some y → Rows.uptoBulk y.1 ≤ bulkMax → ∃ ds, R ds ∧ MemL false (From 0) w ds cs
variable {enc w base spare held}
theorem op1_int (N : Nat) {t : TypeId} {k : IntKind} (ht : Tryz.prog.underlying t = some (.int k)) : Op1 enc w base spare held N t (fun d => ∃ i, d = .atom (.int k i)) := by
  intro n _ c y h _
  obtain ⟨i, e, -, -⟩ := DataW.trod_int ht h
  injection e with e _
  exact ⟨_, ⟨i, rfl⟩, e ▸ .atom _⟩
theorem op1_bool (N : Nat) {t : TypeId} (ht : Tryz.prog.underlying t = some .bool) : Op1 enc w base spare held N t (fun d => ∃ i, d = .atom (.bool i)) := by
  intro n _ c y h _
  obtain ⟨i, e, -⟩ := DataW.trod_bool ht h
  injection e with e _
  exact ⟨_, ⟨i, rfl⟩, e ▸ .atom _⟩
theorem op1_str (N : Nat) {t : TypeId} (ht : Tryz.prog.underlying t = some .string) : Op1 enc w base spare held N t (fun d => ∃ i : ByteArray, i.size ≤ maxLen ∧ d = .atom (.string i)) := by
  intro n _ c y h _
  obtain ⟨i, e, -, hs⟩ := DataW.trod_string ht h
  injection e with e _
  exact ⟨_, ⟨i, hs, rfl⟩, e ▸ .atom _⟩
/-- one cell, as cells -/
theorem opL_one {N : Nat} {t : TypeId} {R : D → Prop} (h : Op1 enc w base spare held N t R) : OpL enc w base spare held N t 1 (fun ds => ∃ d, R d ∧ ds = [d]) := by
  intro n hn cs y hl hy hb
  match cs, hl with
  | [c], _ =>
    obtain ⟨d, hd, hm⟩ := h n hn c y hy hb
    exact ⟨[d], ⟨d, hd, rfl⟩, .cons hm (MemL.nil _ _ _)⟩
theorem unmap {α β : Type} (F : α → β) (Q : α → Prop) : ∀ (es : List β) (_ : ∀ x ∈ es, ∃ a, Q a ∧ x = F a), ∃ ls : List α, es = ls.map F ∧ ∀ a ∈ ls, Q a
  | [], _ => ⟨[], rfl, fun a h => absurd h (by simp)⟩
  | e :: es, h => by
    obtain ⟨a, ha, rfl⟩ := h e (List.mem_cons_self ..)
    obtain ⟨ls, rfl, hq⟩ := unmap F Q es fun x hx => h x (List.mem_cons_of_mem _ hx)
    refine ⟨a :: ls, rfl, fun b hb => ?_⟩
    rcases List.mem_cons.1 hb with rfl | hb
    · exact ha
    · exact hq b hb
/-- a slice -/
theorem op1_slice {N : Nat} {t e : TypeId} {k : Nat} {R : List D → Prop} (ht : Tryz.prog.underlying t = some (.slice e)) (he : Tryz.prog.cellsOf e = k) (hk : 0 < k) (hR : ∀ ds, R ds → ds.length = k) (el : OpL enc w base spare held N e k R) :
    Op1 enc w base spare held N t (fun d => ∃ es : List (List D), es.length ≤ bulkMax ∧ (∀ x ∈ es, R x) ∧ d = .list k es) := by
  intro n hn c y h hb
  rcases DataW.trod_slice ht h with ⟨hcs, hx⟩ | ⟨a, len, cap, elems, rest, m, rfl, hcs, hx, hba, hle, hcap, hlen, hel, -, -⟩
  · injection hcs with hcs _
    subst hcs
    exact ⟨_, ⟨[], by simp, fun x hx => absurd hx (by simp), rfl⟩, nil_mem _ _ _ _⟩
  · injection hcs with hcs _
    subst hcs
    rw [hx] at hb
    simp only [Rows.uptoBulk] at hb
    have hlb := bulk_len (elems.map (·.1))
    rw [List.length_map] at hlb
    rw [he] at hel
    obtain ⟨zs, hzl, hz⟩ := list_of (fun (j : Nat) (z : List D × List Value) => R z.1 ∧ MemL false (From 0) w z.1 z.2 ∧ z.2.length = k ∧ ∀ i, i < k → w.cell? ((a.add (j * k)).add i) = z.2[i]?) len fun j hj => by
      have hej := hel j hj
      rw [List.getElem?_eq_getElem (by omega)] at hej
      obtain ⟨cs', hc1, hc2⟩ := Option.bind_eq_some_iff.1 hej
      obtain ⟨-, hc3, hc4⟩ := World.cells?_some hc1
      have hbj := bulk_mem (l := elems.map (·.1)) (List.mem_map.2 ⟨elems[j]'(by omega), List.getElem_mem _, rfl⟩)
      obtain ⟨ds, hd1, hd2⟩ := el m (by omega) cs' _ hc3 hc2 (by omega)
      exact ⟨(ds, cs'), hd1, hd2, hc3, hc4⟩
    have hsp : 0 < len → a = ⟨a.block, a.off, none⟩ ∧ a.block < w.heap.size := by
      intro h0
      obtain ⟨-, -, q1, q2⟩ := hz 0 h0
      have := q2 0 hk
      simp only [Nat.zero_mul, Addr.add_zero'] at this
      rw [List.getElem?_eq_getElem (by omega)] at this
      exact ⟨spot_none this, World.block_lt_of_cell? w _ this⟩
    have hget : ∀ (j : Nat) (v : List Value), (zs.map (·.2))[j]? = some v → ∃ hj : j < len, v = zs[j]!.2 := by
      intro j v hv
      have hj := lt_of_some hv
      rw [List.length_map, hzl] at hj
      refine ⟨hj, ?_⟩
      rw [List.getElem?_map, List.getElem?_eq_getElem (by omega)] at hv
      injection hv with hv
      rw [getElem!_pos zs j (by omega), ← hv]
    have hget1 : ∀ (j : Nat) (v : List D), (zs.map (·.1))[j]? = some v → ∃ hj : j < len, v = zs[j]!.1 := by
      intro j v hv
      have hj := lt_of_some hv
      rw [List.length_map, hzl] at hj
      refine ⟨hj, ?_⟩
      rw [List.getElem?_map, List.getElem?_eq_getElem (by omega)] at hv
      injection hv with hv
      rw [getElem!_pos zs j (by omega), ← hv]
    refine ⟨.list k (zs.map (·.1)), ⟨zs.map (·.1), by rw [List.length_map, hzl]; omega, fun x hx => ?_, rfl⟩, ?_⟩
    · obtain ⟨z, hzm, rfl⟩ := List.mem_map.1 hx
      obtain ⟨j, hj, rfl⟩ := List.mem_iff_getElem.1 hzm
      have := (hz j (by omega)).1
      rw [getElem!_pos zs j hj] at this
      exact this
    · have hvl : (zs.map (·.2)).length = len := by rw [List.length_map, hzl]
      have := Mem.list (o := false) (P := From 0) (w := w) k (zs.map (·.1)) (zs.map (·.2)) (some a) cap a.block a.off (by simp) (by rw [hvl]; exact hle) (fun h0 => by
        rw [hvl] at h0
        exact ⟨congrArg some (hsp h0).1, Nat.zero_le _, (hsp h0).2⟩) (fun j v hv => by
        obtain ⟨hj, rfl⟩ := hget j v hv
        exact (hz j hj).2.2.1) (fun j v hv => by
        obtain ⟨hj, rfl⟩ := hget1 j v hv
        exact hR _ (hz j hj).1) (fun j v i u hv hu => by
        obtain ⟨hj, rfl⟩ := hget j v hv
        obtain ⟨-, -, h1, h2⟩ := hz j hj
        have hi : i < k := by rw [← h1]; exact lt_of_some hu
        have h3 := h2 i hi
        rw [hu, (hsp (by omega)).1, Addr.add_lit, Addr.add_lit] at h3
        exact ⟨h3, fun h => by cases h⟩) (fun j v e i u d hv he2 hu hd => by
        obtain ⟨hj, rfl⟩ := hget j v hv
        obtain ⟨_, rfl⟩ := hget1 j e he2
        exact (hz j hj).2.1.2 i d u hd hu)
      rw [hvl] at this
      exact this
/-- .. whose elements are records -/
theorem op1_recs {N : Nat} {t e : TypeId} {k : Nat} {α : Type} {F : α → List D} {Q : α → Prop} (ht : Tryz.prog.underlying t = some (.slice e)) (he : Tryz.prog.cellsOf e = k) (hk : 0 < k) (hF : ∀ a, (F a).length = k) (el : OpL enc w base spare held N e k (fun ds => ∃ a, Q a ∧ ds = F a)) :
    Op1 enc w base spare held N t (fun d => ∃ ls : List α, ls.length ≤ bulkMax ∧ (∀ a ∈ ls, Q a) ∧ d = .list k (ls.map F)) := by
  intro n hn c y h hb
  obtain ⟨d, ⟨es, hl, hr, rfl⟩, hm⟩ := op1_slice ht he hk (fun ds hd => by obtain ⟨a, -, rfl⟩ := hd; exact hF a) el n hn c y h hb
  obtain ⟨ls, rfl, hq⟩ := unmap F Q es hr
  exact ⟨_, ⟨ls, by simpa using hl, hq, rfl⟩, hm⟩
/-- texts -/
theorem op1_strs (N : Nat) : Op1 enc w base spare held N 23 (fun d => ∃ rs : List ByteArray, rs.length ≤ bulkMax ∧ d = strD rs) := by
  intro n hn c y h hb
  obtain ⟨d, ⟨rs, hl, -, rfl⟩, hm⟩ := op1_recs (k := 1) (F := fun s : ByteArray => [D.atom (.string s)]) (Q := fun _ => True) Tryz.underlying23 (by kernel_rfl) (by omega) (fun _ => rfl) (fun n hn cs y hl hy hb => by
    obtain ⟨ds, ⟨d, ⟨i, -, rfl⟩, rfl⟩, hm⟩ := opL_one (op1_str N Tryz.underlying9) n hn cs y hl hy hb
    exact ⟨_, ⟨i, trivial, rfl⟩, hm⟩) n hn c y h hb
  exact ⟨_, ⟨rs, hl, rfl⟩, hm⟩
theorem op1_bools (N : Nat) : Op1 enc w base spare held N 61 (fun d => ∃ rs : List Bool, rs.length ≤ bulkMax ∧ d = flatL 1 boolC rs) := by
  intro n hn c y h hb
  obtain ⟨d, ⟨rs, hl, -, rfl⟩, hm⟩ := op1_recs (k := 1) (F := fun s : Bool => [D.atom (.bool s)]) (Q := fun _ => True) Tryz.underlying61 (by kernel_rfl) (by omega) (fun _ => rfl) (fun n hn cs y hl hy hb => by
    obtain ⟨ds, ⟨d, ⟨i, rfl⟩, rfl⟩, hm⟩ := opL_one (op1_bool N Tryz.underlying4) n hn cs y hl hy hb
    exact ⟨_, ⟨i, trivial, rfl⟩, hm⟩) n hn c y h hb
  exact ⟨_, ⟨rs, hl, rfl⟩, hm⟩
theorem opL_sentry (N : Nat) : OpL enc w base spare held N 122 3 (fun ds => ∃ a : SentryD, True ∧ ds = (SentryD.cs a).map D.atom) := by
  intro n hn cs y hl h hb
  match cs, hl with
  | [c0, c1, c2], _ =>
    obtain ⟨xs, m, rfl, rfl, -, hlen, hf⟩ := DataW.trod_struct Tryz.underlying122 h
    match xs, hlen with
    | [y0, y1, y2], _ =>
      simp only [List.map_cons, List.map_nil, Rows.uptoBulk, Rows.uptoBulkAll] at hb
      have g0 : DataW.trod enc Tryz.prog w base spare held m 5 [c0] = some y0 := by
        have e : Tryz.prog.cellsOf 5 = 1 := by kernel_rfl
        have : DataW.trod enc Tryz.prog w base spare held m 5 ((([c0, c1, c2] : List Value).drop 0).take (Tryz.prog.cellsOf 5)) = some y0 := hf 0 _ rfl
        rw [e] at this
        exact this
      obtain ⟨_, ⟨x0, rfl⟩, m0⟩ := (op1_int N Tryz.underlying5) m (by omega) c0 y0 g0 (by omega)
      have g1 : DataW.trod enc Tryz.prog w base spare held m 9 [c1] = some y1 := by
        have e : Tryz.prog.cellsOf 9 = 1 := by kernel_rfl
        have : DataW.trod enc Tryz.prog w base spare held m 9 ((([c0, c1, c2] : List Value).drop 1).take (Tryz.prog.cellsOf 9)) = some y1 := hf 1 _ rfl
        rw [e] at this
        exact this
      obtain ⟨_, ⟨x1, zx1, rfl⟩, m1⟩ := (op1_str N Tryz.underlying9) m (by omega) c1 y1 g1 (by omega)
      have g2 : DataW.trod enc Tryz.prog w base spare held m 9 [c2] = some y2 := by
        have e : Tryz.prog.cellsOf 9 = 1 := by kernel_rfl
        have : DataW.trod enc Tryz.prog w base spare held m 9 ((([c0, c1, c2] : List Value).drop 2).take (Tryz.prog.cellsOf 9)) = some y2 := hf 2 _ rfl
        rw [e] at this
        exact this
      obtain ⟨_, ⟨x2, zx2, rfl⟩, m2⟩ := (op1_str N Tryz.underlying9) m (by omega) c2 y2 g2 (by omega)
      exact ⟨_, ⟨⟨x0, x1, x2⟩, trivial, rfl⟩, .cons m0 (.cons m1 (.cons m2 (MemL.nil _ _ _)))⟩
theorem op1_sentries (N : Nat) : Op1 enc w base spare held N 111 (fun d => ∃ ls : List SentryD, ls.length ≤ bulkMax ∧ (∀ a ∈ ls, True) ∧ d = .list 3 (ls.map (fun a => (SentryD.cs a).map D.atom))) :=
  op1_recs Tryz.underlying111 (by kernel_rfl) (by omega) (fun _ => rfl) (opL_sentry N)
theorem opL_attr (N : Nat) : OpL enc w base spare held N 109 2 (fun ds => ∃ a : AttrD, True ∧ ds = (AttrD.cs a).map D.atom) := by
  intro n hn cs y hl h hb
  match cs, hl with
  | [c0, c1], _ =>
    obtain ⟨xs, m, rfl, rfl, -, hlen, hf⟩ := DataW.trod_struct Tryz.underlying109 h
    match xs, hlen with
    | [y0, y1], _ =>
      simp only [List.map_cons, List.map_nil, Rows.uptoBulk, Rows.uptoBulkAll] at hb
      have g0 : DataW.trod enc Tryz.prog w base spare held m 9 [c0] = some y0 := by
        have e : Tryz.prog.cellsOf 9 = 1 := by kernel_rfl
        have : DataW.trod enc Tryz.prog w base spare held m 9 ((([c0, c1] : List Value).drop 0).take (Tryz.prog.cellsOf 9)) = some y0 := hf 0 _ rfl
        rw [e] at this
        exact this
      obtain ⟨_, ⟨x0, zx0, rfl⟩, m0⟩ := (op1_str N Tryz.underlying9) m (by omega) c0 y0 g0 (by omega)
      have g1 : DataW.trod enc Tryz.prog w base spare held m 5 [c1] = some y1 := by
        have e : Tryz.prog.cellsOf 5 = 1 := by kernel_rfl
        have : DataW.trod enc Tryz.prog w base spare held m 5 ((([c0, c1] : List Value).drop 1).take (Tryz.prog.cellsOf 5)) = some y1 := hf 1 _ rfl
        rw [e] at this
        exact this
      obtain ⟨_, ⟨x1, rfl⟩, m1⟩ := (op1_int N Tryz.underlying5) m (by omega) c1 y1 g1 (by omega)
      exact ⟨_, ⟨⟨x0, x1⟩, trivial, rfl⟩, .cons m0 (.cons m1 (MemL.nil _ _ _))⟩
theorem op1_attrs (N : Nat) : Op1 enc w base spare held N 48 (fun d => ∃ ls : List AttrD, ls.length ≤ bulkMax ∧ (∀ a ∈ ls, True) ∧ d = .list 2 (ls.map (fun a => (AttrD.cs a).map D.atom))) :=
  op1_recs Tryz.underlying48 (by kernel_rfl) (by omega) (fun _ => rfl) (opL_attr N)
theorem opL_pair (N : Nat) : OpL enc w base spare held N 110 2 (fun ds => ∃ a : ByteArray × ByteArray, True ∧ ds = (pairC a).map D.atom) := by
  intro n hn cs y hl h hb
  match cs, hl with
  | [c0, c1], _ =>
    obtain ⟨xs, m, rfl, rfl, -, hlen, hf⟩ := DataW.trod_array Tryz.underlying110 h
    match xs, hlen with
    | [y0, y1], _ =>
      simp only [List.map_cons, List.map_nil, Rows.uptoBulk, Rows.uptoBulkAll] at hb
      have g0 : DataW.trod enc Tryz.prog w base spare held m 9 [c0] = some y0 := by
        have e : Tryz.prog.cellsOf 9 = 1 := by kernel_rfl
        have : DataW.trod enc Tryz.prog w base spare held m 9 ((([c0, c1] : List Value).drop (0 * Tryz.prog.cellsOf 9)).take (Tryz.prog.cellsOf 9)) = some y0 := hf 0 (by omega)
        rw [e] at this
        exact this
      obtain ⟨_, ⟨x0, zx0, rfl⟩, m0⟩ := (op1_str N Tryz.underlying9) m (by omega) c0 y0 g0 (by omega)
      have g1 : DataW.trod enc Tryz.prog w base spare held m 9 [c1] = some y1 := by
        have e : Tryz.prog.cellsOf 9 = 1 := by kernel_rfl
        have : DataW.trod enc Tryz.prog w base spare held m 9 ((([c0, c1] : List Value).drop (1 * Tryz.prog.cellsOf 9)).take (Tryz.prog.cellsOf 9)) = some y1 := hf 1 (by omega)
        rw [e] at this
        exact this
      obtain ⟨_, ⟨x1, zx1, rfl⟩, m1⟩ := (op1_str N Tryz.underlying9) m (by omega) c1 y1 g1 (by omega)
      exact ⟨_, ⟨(x0, x1), trivial, rfl⟩, .cons m0 (.cons m1 (MemL.nil _ _ _))⟩
theorem op1_pairs (N : Nat) : Op1 enc w base spare held N 51 (fun d => ∃ ls : List (ByteArray × ByteArray), ls.length ≤ bulkMax ∧ (∀ a ∈ ls, True) ∧ d = .list 2 (ls.map (fun a => (pairC a).map D.atom))) :=
  op1_recs Tryz.underlying51 (by kernel_rfl) (by omega) (fun _ => rfl) (opL_pair N)
theorem opL_acted (N : Nat) : OpL enc w base spare held N 120 2 (fun ds => ∃ a : (ByteArray × ByteArray), True ∧ ds = (pairC a).map D.atom) := by
  intro n hn cs y hl h hb
  match cs, hl with
  | [c0, c1], _ =>
    obtain ⟨xs, m, rfl, rfl, -, hlen, hf⟩ := DataW.trod_struct Tryz.underlying120 h
    match xs, hlen with
    | [y0, y1], _ =>
      simp only [List.map_cons, List.map_nil, Rows.uptoBulk, Rows.uptoBulkAll] at hb
      have g0 : DataW.trod enc Tryz.prog w base spare held m 9 [c0] = some y0 := by
        have e : Tryz.prog.cellsOf 9 = 1 := by kernel_rfl
        have : DataW.trod enc Tryz.prog w base spare held m 9 ((([c0, c1] : List Value).drop 0).take (Tryz.prog.cellsOf 9)) = some y0 := hf 0 _ rfl
        rw [e] at this
        exact this
      obtain ⟨_, ⟨x0, zx0, rfl⟩, m0⟩ := (op1_str N Tryz.underlying9) m (by omega) c0 y0 g0 (by omega)
      have g1 : DataW.trod enc Tryz.prog w base spare held m 9 [c1] = some y1 := by
        have e : Tryz.prog.cellsOf 9 = 1 := by kernel_rfl
        have : DataW.trod enc Tryz.prog w base spare held m 9 ((([c0, c1] : List Value).drop 1).take (Tryz.prog.cellsOf 9)) = some y1 := hf 1 _ rfl
        rw [e] at this
        exact this
      obtain ⟨_, ⟨x1, zx1, rfl⟩, m1⟩ := (op1_str N Tryz.underlying9) m (by omega) c1 y1 g1 (by omega)
      exact ⟨_, ⟨(x0, x1), trivial, rfl⟩, .cons m0 (.cons m1 (MemL.nil _ _ _))⟩
theorem op1_acteds (N : Nat) : Op1 enc w base spare held N 62 (fun d => ∃ ls : List (ByteArray × ByteArray), ls.length ≤ bulkMax ∧ (∀ a ∈ ls, True) ∧ d = .list 2 (ls.map (fun a => (pairC a).map D.atom))) :=
  op1_recs Tryz.underlying62 (by kernel_rfl) (by omega) (fun _ => rfl) (opL_acted N)
theorem opL_timer (N : Nat) : OpL enc w base spare held N 124 5 (fun ds => ∃ a : TimerD, True ∧ ds = (TimerD.cs a).map D.atom) := by
  intro n hn cs y hl h hb
  match cs, hl with
  | [c0, c1, c2, c3, c4], _ =>
    obtain ⟨xs, m, rfl, rfl, -, hlen, hf⟩ := DataW.trod_struct Tryz.underlying124 h
    match xs, hlen with
    | [y0, y1, y2, y3, y4], _ =>
      simp only [List.map_cons, List.map_nil, Rows.uptoBulk, Rows.uptoBulkAll] at hb
      have g0 : DataW.trod enc Tryz.prog w base spare held m 3 [c0] = some y0 := by
        have e : Tryz.prog.cellsOf 3 = 1 := by kernel_rfl
        have : DataW.trod enc Tryz.prog w base spare held m 3 ((([c0, c1, c2, c3, c4] : List Value).drop 0).take (Tryz.prog.cellsOf 3)) = some y0 := hf 0 _ rfl
        rw [e] at this
        exact this
      obtain ⟨_, ⟨x0, rfl⟩, m0⟩ := (op1_int N Tryz.underlying3) m (by omega) c0 y0 g0 (by omega)
      have g1 : DataW.trod enc Tryz.prog w base spare held m 3 [c1] = some y1 := by
        have e : Tryz.prog.cellsOf 3 = 1 := by kernel_rfl
        have : DataW.trod enc Tryz.prog w base spare held m 3 ((([c0, c1, c2, c3, c4] : List Value).drop 1).take (Tryz.prog.cellsOf 3)) = some y1 := hf 1 _ rfl
        rw [e] at this
        exact this
      obtain ⟨_, ⟨x1, rfl⟩, m1⟩ := (op1_int N Tryz.underlying3) m (by omega) c1 y1 g1 (by omega)
      have g2 : DataW.trod enc Tryz.prog w base spare held m 3 [c2] = some y2 := by
        have e : Tryz.prog.cellsOf 3 = 1 := by kernel_rfl
        have : DataW.trod enc Tryz.prog w base spare held m 3 ((([c0, c1, c2, c3, c4] : List Value).drop 2).take (Tryz.prog.cellsOf 3)) = some y2 := hf 2 _ rfl
        rw [e] at this
        exact this
      obtain ⟨_, ⟨x2, rfl⟩, m2⟩ := (op1_int N Tryz.underlying3) m (by omega) c2 y2 g2 (by omega)
      have g3 : DataW.trod enc Tryz.prog w base spare held m 9 [c3] = some y3 := by
        have e : Tryz.prog.cellsOf 9 = 1 := by kernel_rfl
        have : DataW.trod enc Tryz.prog w base spare held m 9 ((([c0, c1, c2, c3, c4] : List Value).drop 3).take (Tryz.prog.cellsOf 9)) = some y3 := hf 3 _ rfl
        rw [e] at this
        exact this
      obtain ⟨_, ⟨x3, zx3, rfl⟩, m3⟩ := (op1_str N Tryz.underlying9) m (by omega) c3 y3 g3 (by omega)
      have g4 : DataW.trod enc Tryz.prog w base spare held m 9 [c4] = some y4 := by
        have e : Tryz.prog.cellsOf 9 = 1 := by kernel_rfl
        have : DataW.trod enc Tryz.prog w base spare held m 9 ((([c0, c1, c2, c3, c4] : List Value).drop 4).take (Tryz.prog.cellsOf 9)) = some y4 := hf 4 _ rfl
        rw [e] at this
        exact this
      obtain ⟨_, ⟨x4, zx4, rfl⟩, m4⟩ := (op1_str N Tryz.underlying9) m (by omega) c4 y4 g4 (by omega)
      exact ⟨_, ⟨⟨x0, x1, x2, x3, x4⟩, trivial, rfl⟩, .cons m0 (.cons m1 (.cons m2 (.cons m3 (.cons m4 (MemL.nil _ _ _)))))⟩
theorem op1_timers (N : Nat) : Op1 enc w base spare held N 30 (fun d => ∃ ls : List TimerD, ls.length ≤ bulkMax ∧ (∀ a ∈ ls, True) ∧ d = .list 5 (ls.map (fun a => (TimerD.cs a).map D.atom))) :=
  op1_recs Tryz.underlying30 (by kernel_rfl) (by omega) (fun _ => rfl) (opL_timer N)
theorem opL_work (N : Nat) : OpL enc w base spare held N 126 6 (fun ds => ∃ a : WorkD, True ∧ ds = (WorkD.cs a).map D.atom) := by
  intro n hn cs y hl h hb
  match cs, hl with
  | [c0, c1, c2, c3, c4, c5], _ =>
    obtain ⟨xs, m, rfl, rfl, -, hlen, hf⟩ := DataW.trod_struct Tryz.underlying126 h
    match xs, hlen with
    | [y0, y1, y2, y3, y4, y5], _ =>
      simp only [List.map_cons, List.map_nil, Rows.uptoBulk, Rows.uptoBulkAll] at hb
      have g0 : DataW.trod enc Tryz.prog w base spare held m 3 [c0] = some y0 := by
        have e : Tryz.prog.cellsOf 3 = 1 := by kernel_rfl
        have : DataW.trod enc Tryz.prog w base spare held m 3 ((([c0, c1, c2, c3, c4, c5] : List Value).drop 0).take (Tryz.prog.cellsOf 3)) = some y0 := hf 0 _ rfl
        rw [e] at this
        exact this
      obtain ⟨_, ⟨x0, rfl⟩, m0⟩ := (op1_int N Tryz.underlying3) m (by omega) c0 y0 g0 (by omega)
      have g1 : DataW.trod enc Tryz.prog w base spare held m 3 [c1] = some y1 := by
        have e : Tryz.prog.cellsOf 3 = 1 := by kernel_rfl
        have : DataW.trod enc Tryz.prog w base spare held m 3 ((([c0, c1, c2, c3, c4, c5] : List Value).drop 1).take (Tryz.prog.cellsOf 3)) = some y1 := hf 1 _ rfl
        rw [e] at this
        exact this
      obtain ⟨_, ⟨x1, rfl⟩, m1⟩ := (op1_int N Tryz.underlying3) m (by omega) c1 y1 g1 (by omega)
      have g2 : DataW.trod enc Tryz.prog w base spare held m 9 [c2] = some y2 := by
        have e : Tryz.prog.cellsOf 9 = 1 := by kernel_rfl
        have : DataW.trod enc Tryz.prog w base spare held m 9 ((([c0, c1, c2, c3, c4, c5] : List Value).drop 2).take (Tryz.prog.cellsOf 9)) = some y2 := hf 2 _ rfl
        rw [e] at this
        exact this
      obtain ⟨_, ⟨x2, zx2, rfl⟩, m2⟩ := (op1_str N Tryz.underlying9) m (by omega) c2 y2 g2 (by omega)
      have g3 : DataW.trod enc Tryz.prog w base spare held m 9 [c3] = some y3 := by
        have e : Tryz.prog.cellsOf 9 = 1 := by kernel_rfl
        have : DataW.trod enc Tryz.prog w base spare held m 9 ((([c0, c1, c2, c3, c4, c5] : List Value).drop 3).take (Tryz.prog.cellsOf 9)) = some y3 := hf 3 _ rfl
        rw [e] at this
        exact this
      obtain ⟨_, ⟨x3, zx3, rfl⟩, m3⟩ := (op1_str N Tryz.underlying9) m (by omega) c3 y3 g3 (by omega)
      have g4 : DataW.trod enc Tryz.prog w base spare held m 5 [c4] = some y4 := by
        have e : Tryz.prog.cellsOf 5 = 1 := by kernel_rfl
        have : DataW.trod enc Tryz.prog w base spare held m 5 ((([c0, c1, c2, c3, c4, c5] : List Value).drop 4).take (Tryz.prog.cellsOf 5)) = some y4 := hf 4 _ rfl
        rw [e] at this
        exact this
      obtain ⟨_, ⟨x4, rfl⟩, m4⟩ := (op1_int N Tryz.underlying5) m (by omega) c4 y4 g4 (by omega)
      have g5 : DataW.trod enc Tryz.prog w base spare held m 9 [c5] = some y5 := by
        have e : Tryz.prog.cellsOf 9 = 1 := by kernel_rfl
        have : DataW.trod enc Tryz.prog w base spare held m 9 ((([c0, c1, c2, c3, c4, c5] : List Value).drop 5).take (Tryz.prog.cellsOf 9)) = some y5 := hf 5 _ rfl
        rw [e] at this
        exact this
      obtain ⟨_, ⟨x5, zx5, rfl⟩, m5⟩ := (op1_str N Tryz.underlying9) m (by omega) c5 y5 g5 (by omega)
      exact ⟨_, ⟨⟨x0, x1, x2, x3, x4, x5⟩, trivial, rfl⟩, .cons m0 (.cons m1 (.cons m2 (.cons m3 (.cons m4 (.cons m5 (MemL.nil _ _ _))))))⟩
theorem op1_works (N : Nat) : Op1 enc w base spare held N 31 (fun d => ∃ ls : List WorkD, ls.length ≤ bulkMax ∧ (∀ a ∈ ls, True) ∧ d = .list 6 (ls.map (fun a => (WorkD.cs a).map D.atom))) :=
  op1_recs Tryz.underlying31 (by kernel_rfl) (by omega) (fun _ => rfl) (opL_work N)
theorem opL_record (N : Nat) : OpL enc w base spare held N 79 6 (fun ds => ∃ a : RecD, True ∧ ds = (RecD.cs a).map D.atom) := by
  intro n hn cs y hl h hb
  match cs, hl with
  | [c0, c1, c2, c3, c4, c5], _ =>
    obtain ⟨xs, m, rfl, rfl, -, hlen, hf⟩ := DataW.trod_struct Tryz.underlying79 h
    match xs, hlen with
    | [y0, y1, y2, y3, y4, y5], _ =>
      simp only [List.map_cons, List.map_nil, Rows.uptoBulk, Rows.uptoBulkAll] at hb
      have g0 : DataW.trod enc Tryz.prog w base spare held m 3 [c0] = some y0 := by
        have e : Tryz.prog.cellsOf 3 = 1 := by kernel_rfl
        have : DataW.trod enc Tryz.prog w base spare held m 3 ((([c0, c1, c2, c3, c4, c5] : List Value).drop 0).take (Tryz.prog.cellsOf 3)) = some y0 := hf 0 _ rfl
        rw [e] at this
        exact this
      obtain ⟨_, ⟨x0, rfl⟩, m0⟩ := (op1_int N Tryz.underlying3) m (by omega) c0 y0 g0 (by omega)
      have g1 : DataW.trod enc Tryz.prog w base spare held m 3 [c1] = some y1 := by
        have e : Tryz.prog.cellsOf 3 = 1 := by kernel_rfl
        have : DataW.trod enc Tryz.prog w base spare held m 3 ((([c0, c1, c2, c3, c4, c5] : List Value).drop 1).take (Tryz.prog.cellsOf 3)) = some y1 := hf 1 _ rfl
        rw [e] at this
        exact this
      obtain ⟨_, ⟨x1, rfl⟩, m1⟩ := (op1_int N Tryz.underlying3) m (by omega) c1 y1 g1 (by omega)
      have g2 : DataW.trod enc Tryz.prog w base spare held m 9 [c2] = some y2 := by
        have e : Tryz.prog.cellsOf 9 = 1 := by kernel_rfl
        have : DataW.trod enc Tryz.prog w base spare held m 9 ((([c0, c1, c2, c3, c4, c5] : List Value).drop 2).take (Tryz.prog.cellsOf 9)) = some y2 := hf 2 _ rfl
        rw [e] at this
        exact this
      obtain ⟨_, ⟨x2, zx2, rfl⟩, m2⟩ := (op1_str N Tryz.underlying9) m (by omega) c2 y2 g2 (by omega)
      have g3 : DataW.trod enc Tryz.prog w base spare held m 9 [c3] = some y3 := by
        have e : Tryz.prog.cellsOf 9 = 1 := by kernel_rfl
        have : DataW.trod enc Tryz.prog w base spare held m 9 ((([c0, c1, c2, c3, c4, c5] : List Value).drop 3).take (Tryz.prog.cellsOf 9)) = some y3 := hf 3 _ rfl
        rw [e] at this
        exact this
      obtain ⟨_, ⟨x3, zx3, rfl⟩, m3⟩ := (op1_str N Tryz.underlying9) m (by omega) c3 y3 g3 (by omega)
      have g4 : DataW.trod enc Tryz.prog w base spare held m 3 [c4] = some y4 := by
        have e : Tryz.prog.cellsOf 3 = 1 := by kernel_rfl
        have : DataW.trod enc Tryz.prog w base spare held m 3 ((([c0, c1, c2, c3, c4, c5] : List Value).drop 4).take (Tryz.prog.cellsOf 3)) = some y4 := hf 4 _ rfl
        rw [e] at this
        exact this
      obtain ⟨_, ⟨x4, rfl⟩, m4⟩ := (op1_int N Tryz.underlying3) m (by omega) c4 y4 g4 (by omega)
      have g5 : DataW.trod enc Tryz.prog w base spare held m 9 [c5] = some y5 := by
        have e : Tryz.prog.cellsOf 9 = 1 := by kernel_rfl
        have : DataW.trod enc Tryz.prog w base spare held m 9 ((([c0, c1, c2, c3, c4, c5] : List Value).drop 5).take (Tryz.prog.cellsOf 9)) = some y5 := hf 5 _ rfl
        rw [e] at this
        exact this
      obtain ⟨_, ⟨x5, zx5, rfl⟩, m5⟩ := (op1_str N Tryz.underlying9) m (by omega) c5 y5 g5 (by omega)
      exact ⟨_, ⟨⟨x0, x1, x2, x3, x4, x5⟩, trivial, rfl⟩, .cons m0 (.cons m1 (.cons m2 (.cons m3 (.cons m4 (.cons m5 (MemL.nil _ _ _))))))⟩
theorem op1_records (N : Nat) : Op1 enc w base spare held N 32 (fun d => ∃ ls : List RecD, ls.length ≤ bulkMax ∧ (∀ a ∈ ls, True) ∧ d = .list 6 (ls.map (fun a => (RecD.cs a).map D.atom))) :=
  op1_recs Tryz.underlying32 (by kernel_rfl) (by omega) (fun _ => rfl) (opL_record N)
theorem opL_sess (N : Nat) : OpL enc w base spare held N 90 3 (fun ds => ∃ a : SessD, True ∧ ds = (SessD.cs a).map D.atom) := by
  intro n hn cs y hl h hb
  match cs, hl with
  | [c0, c1, c2], _ =>
    obtain ⟨xs, m, rfl, rfl, -, hlen, hf⟩ := DataW.trod_struct Tryz.underlying90 h
    match xs, hlen with
    | [y0, y1, y2], _ =>
      simp only [List.map_cons, List.map_nil, Rows.uptoBulk, Rows.uptoBulkAll] at hb
      have g0 : DataW.trod enc Tryz.prog w base spare held m 3 [c0] = some y0 := by
        have e : Tryz.prog.cellsOf 3 = 1 := by kernel_rfl
        have : DataW.trod enc Tryz.prog w base spare held m 3 ((([c0, c1, c2] : List Value).drop 0).take (Tryz.prog.cellsOf 3)) = some y0 := hf 0 _ rfl
        rw [e] at this
        exact this
      obtain ⟨_, ⟨x0, rfl⟩, m0⟩ := (op1_int N Tryz.underlying3) m (by omega) c0 y0 g0 (by omega)
      have g1 : DataW.trod enc Tryz.prog w base spare held m 9 [c1] = some y1 := by
        have e : Tryz.prog.cellsOf 9 = 1 := by kernel_rfl
        have : DataW.trod enc Tryz.prog w base spare held m 9 ((([c0, c1, c2] : List Value).drop 1).take (Tryz.prog.cellsOf 9)) = some y1 := hf 1 _ rfl
        rw [e] at this
        exact this
      obtain ⟨_, ⟨x1, zx1, rfl⟩, m1⟩ := (op1_str N Tryz.underlying9) m (by omega) c1 y1 g1 (by omega)
      have g2 : DataW.trod enc Tryz.prog w base spare held m 3 [c2] = some y2 := by
        have e : Tryz.prog.cellsOf 3 = 1 := by kernel_rfl
        have : DataW.trod enc Tryz.prog w base spare held m 3 ((([c0, c1, c2] : List Value).drop 2).take (Tryz.prog.cellsOf 3)) = some y2 := hf 2 _ rfl
        rw [e] at this
        exact this
      obtain ⟨_, ⟨x2, rfl⟩, m2⟩ := (op1_int N Tryz.underlying3) m (by omega) c2 y2 g2 (by omega)
      exact ⟨_, ⟨⟨x0, x1, x2⟩, trivial, rfl⟩, .cons m0 (.cons m1 (.cons m2 (MemL.nil _ _ _)))⟩
theorem op1_sesss (N : Nat) : Op1 enc w base spare held N 33 (fun d => ∃ ls : List SessD, ls.length ≤ bulkMax ∧ (∀ a ∈ ls, True) ∧ d = .list 3 (ls.map (fun a => (SessD.cs a).map D.atom))) :=
  op1_recs Tryz.underlying33 (by kernel_rfl) (by omega) (fun _ => rfl) (opL_sess N)
theorem opL_user (N : Nat) : OpL enc w base spare held N 25 4 (fun ds => ∃ a : UserD, a.rs.length ≤ 1048576 ∧ ds = a.ds) := by
  intro n hn cs y hl h hb
  match cs, hl with
  | [c0, c1, c2, c3], _ =>
    obtain ⟨xs, m, rfl, rfl, -, hlen, hf⟩ := DataW.trod_struct Tryz.underlying25 h
    match xs, hlen with
    | [y0, y1, y2, y3], _ =>
      simp only [List.map_cons, List.map_nil, Rows.uptoBulk, Rows.uptoBulkAll] at hb
      have g0 : DataW.trod enc Tryz.prog w base spare held m 9 [c0] = some y0 := by
        have e : Tryz.prog.cellsOf 9 = 1 := by kernel_rfl
        have : DataW.trod enc Tryz.prog w base spare held m 9 ((([c0, c1, c2, c3] : List Value).drop 0).take (Tryz.prog.cellsOf 9)) = some y0 := hf 0 _ rfl
        rw [e] at this
        exact this
      obtain ⟨_, ⟨x0, zx0, rfl⟩, m0⟩ := (op1_str N Tryz.underlying9) m (by omega) c0 y0 g0 (by omega)
      have g1 : DataW.trod enc Tryz.prog w base spare held m 9 [c1] = some y1 := by
        have e : Tryz.prog.cellsOf 9 = 1 := by kernel_rfl
        have : DataW.trod enc Tryz.prog w base spare held m 9 ((([c0, c1, c2, c3] : List Value).drop 1).take (Tryz.prog.cellsOf 9)) = some y1 := hf 1 _ rfl
        rw [e] at this
        exact this
      obtain ⟨_, ⟨x1, zx1, rfl⟩, m1⟩ := (op1_str N Tryz.underlying9) m (by omega) c1 y1 g1 (by omega)
      have g2 : DataW.trod enc Tryz.prog w base spare held m 9 [c2] = some y2 := by
        have e : Tryz.prog.cellsOf 9 = 1 := by kernel_rfl
        have : DataW.trod enc Tryz.prog w base spare held m 9 ((([c0, c1, c2, c3] : List Value).drop 2).take (Tryz.prog.cellsOf 9)) = some y2 := hf 2 _ rfl
        rw [e] at this
        exact this
      obtain ⟨_, ⟨x2, zx2, rfl⟩, m2⟩ := (op1_str N Tryz.underlying9) m (by omega) c2 y2 g2 (by omega)
      have g3 : DataW.trod enc Tryz.prog w base spare held m 23 [c3] = some y3 := by
        have e : Tryz.prog.cellsOf 23 = 1 := by kernel_rfl
        have : DataW.trod enc Tryz.prog w base spare held m 23 ((([c0, c1, c2, c3] : List Value).drop 3).take (Tryz.prog.cellsOf 23)) = some y3 := hf 3 _ rfl
        rw [e] at this
        exact this
      obtain ⟨_, ⟨x3, lx3, rfl⟩, m3⟩ := (op1_strs N) m (by omega) c3 y3 g3 (by omega)
      exact ⟨_, ⟨⟨x0, x1, x2, x3⟩, lx3, rfl⟩, .cons m0 (.cons m1 (.cons m2 (.cons m3 (MemL.nil _ _ _))))⟩
theorem op1_users (N : Nat) : Op1 enc w base spare held N 27 (fun d => ∃ ls : List UserD, ls.length ≤ bulkMax ∧ (∀ a ∈ ls, a.rs.length ≤ 1048576) ∧ d = .list 4 (ls.map UserD.ds)) :=
  op1_recs Tryz.underlying27 (by kernel_rfl) (by omega) (fun _ => rfl) (opL_user N)
theorem opL_role (N : Nat) : OpL enc w base spare held N 81 3 (fun ds => ∃ a : RoleD, (a.holds.length ≤ 1048576 ∧ a.may.length ≤ 1048576) ∧ ds = a.ds) := by
  intro n hn cs y hl h hb
  match cs, hl with
  | [c0, c1, c2], _ =>
    obtain ⟨xs, m, rfl, rfl, -, hlen, hf⟩ := DataW.trod_struct Tryz.underlying81 h
    match xs, hlen with
    | [y0, y1, y2], _ =>
      simp only [List.map_cons, List.map_nil, Rows.uptoBulk, Rows.uptoBulkAll] at hb
      have g0 : DataW.trod enc Tryz.prog w base spare held m 9 [c0] = some y0 := by
        have e : Tryz.prog.cellsOf 9 = 1 := by kernel_rfl
        have : DataW.trod enc Tryz.prog w base spare held m 9 ((([c0, c1, c2] : List Value).drop 0).take (Tryz.prog.cellsOf 9)) = some y0 := hf 0 _ rfl
        rw [e] at this
        exact this
      obtain ⟨_, ⟨x0, zx0, rfl⟩, m0⟩ := (op1_str N Tryz.underlying9) m (by omega) c0 y0 g0 (by omega)
      have g1 : DataW.trod enc Tryz.prog w base spare held m 23 [c1] = some y1 := by
        have e : Tryz.prog.cellsOf 23 = 1 := by kernel_rfl
        have : DataW.trod enc Tryz.prog w base spare held m 23 ((([c0, c1, c2] : List Value).drop 1).take (Tryz.prog.cellsOf 23)) = some y1 := hf 1 _ rfl
        rw [e] at this
        exact this
      obtain ⟨_, ⟨x1, lx1, rfl⟩, m1⟩ := (op1_strs N) m (by omega) c1 y1 g1 (by omega)
      have g2 : DataW.trod enc Tryz.prog w base spare held m 23 [c2] = some y2 := by
        have e : Tryz.prog.cellsOf 23 = 1 := by kernel_rfl
        have : DataW.trod enc Tryz.prog w base spare held m 23 ((([c0, c1, c2] : List Value).drop 2).take (Tryz.prog.cellsOf 23)) = some y2 := hf 2 _ rfl
        rw [e] at this
        exact this
      obtain ⟨_, ⟨x2, lx2, rfl⟩, m2⟩ := (op1_strs N) m (by omega) c2 y2 g2 (by omega)
      exact ⟨_, ⟨⟨x0, x1, x2⟩, ⟨lx1, lx2⟩, rfl⟩, .cons m0 (.cons m1 (.cons m2 (MemL.nil _ _ _)))⟩
theorem op1_roles (N : Nat) : Op1 enc w base spare held N 22 (fun d => ∃ ls : List RoleD, ls.length ≤ bulkMax ∧ (∀ a ∈ ls, (a.holds.length ≤ 1048576 ∧ a.may.length ≤ 1048576)) ∧ d = .list 3 (ls.map RoleD.ds)) :=
  op1_recs Tryz.underlying22 (by kernel_rfl) (by omega) (fun _ => rfl) (opL_role N)
theorem opL_stage (N : Nat) : OpL enc w base spare held N 113 7 (fun ds => ∃ a : StageD, (a.opens.length ≤ 1048576 ∧ a.closes.length ≤ 1048576) ∧ ds = a.ds) := by
  intro n hn cs y hl h hb
  match cs, hl with
  | [c0, c1, c2, c3, c4, c5, c6], _ =>
    obtain ⟨xs, m, rfl, rfl, -, hlen, hf⟩ := DataW.trod_struct Tryz.underlying113 h
    match xs, hlen with
    | [y0, y1, y2, y3, y4, y5, y6], _ =>
      simp only [List.map_cons, List.map_nil, Rows.uptoBulk, Rows.uptoBulkAll] at hb
      have g0 : DataW.trod enc Tryz.prog w base spare held m 9 [c0] = some y0 := by
        have e : Tryz.prog.cellsOf 9 = 1 := by kernel_rfl
        have : DataW.trod enc Tryz.prog w base spare held m 9 ((([c0, c1, c2, c3, c4, c5, c6] : List Value).drop 0).take (Tryz.prog.cellsOf 9)) = some y0 := hf 0 _ rfl
        rw [e] at this
        exact this
      obtain ⟨_, ⟨x0, zx0, rfl⟩, m0⟩ := (op1_str N Tryz.underlying9) m (by omega) c0 y0 g0 (by omega)
      have g1 : DataW.trod enc Tryz.prog w base spare held m 3 [c1] = some y1 := by
        have e : Tryz.prog.cellsOf 3 = 1 := by kernel_rfl
        have : DataW.trod enc Tryz.prog w base spare held m 3 ((([c0, c1, c2, c3, c4, c5, c6] : List Value).drop 1).take (Tryz.prog.cellsOf 3)) = some y1 := hf 1 _ rfl
        rw [e] at this
        exact this
      obtain ⟨_, ⟨x1, rfl⟩, m1⟩ := (op1_int N Tryz.underlying3) m (by omega) c1 y1 g1 (by omega)
      have g2 : DataW.trod enc Tryz.prog w base spare held m 111 [c2] = some y2 := by
        have e : Tryz.prog.cellsOf 111 = 1 := by kernel_rfl
        have : DataW.trod enc Tryz.prog w base spare held m 111 ((([c0, c1, c2, c3, c4, c5, c6] : List Value).drop 2).take (Tryz.prog.cellsOf 111)) = some y2 := hf 2 _ rfl
        rw [e] at this
        exact this
      obtain ⟨_, ⟨x2, lx2, px2, rfl⟩, m2⟩ := (op1_sentries N) m (by omega) c2 y2 g2 (by omega)
      have g3 : DataW.trod enc Tryz.prog w base spare held m 111 [c3] = some y3 := by
        have e : Tryz.prog.cellsOf 111 = 1 := by kernel_rfl
        have : DataW.trod enc Tryz.prog w base spare held m 111 ((([c0, c1, c2, c3, c4, c5, c6] : List Value).drop 3).take (Tryz.prog.cellsOf 111)) = some y3 := hf 3 _ rfl
        rw [e] at this
        exact this
      obtain ⟨_, ⟨x3, lx3, px3, rfl⟩, m3⟩ := (op1_sentries N) m (by omega) c3 y3 g3 (by omega)
      have g4 : DataW.trod enc Tryz.prog w base spare held m 9 [c4] = some y4 := by
        have e : Tryz.prog.cellsOf 9 = 1 := by kernel_rfl
        have : DataW.trod enc Tryz.prog w base spare held m 9 ((([c0, c1, c2, c3, c4, c5, c6] : List Value).drop 4).take (Tryz.prog.cellsOf 9)) = some y4 := hf 4 _ rfl
        rw [e] at this
        exact this
      obtain ⟨_, ⟨x4, zx4, rfl⟩, m4⟩ := (op1_str N Tryz.underlying9) m (by omega) c4 y4 g4 (by omega)
      have g5 : DataW.trod enc Tryz.prog w base spare held m 3 [c5] = some y5 := by
        have e : Tryz.prog.cellsOf 3 = 1 := by kernel_rfl
        have : DataW.trod enc Tryz.prog w base spare held m 3 ((([c0, c1, c2, c3, c4, c5, c6] : List Value).drop 5).take (Tryz.prog.cellsOf 3)) = some y5 := hf 5 _ rfl
        rw [e] at this
        exact this
      obtain ⟨_, ⟨x5, rfl⟩, m5⟩ := (op1_int N Tryz.underlying3) m (by omega) c5 y5 g5 (by omega)
      have g6 : DataW.trod enc Tryz.prog w base spare held m 9 [c6] = some y6 := by
        have e : Tryz.prog.cellsOf 9 = 1 := by kernel_rfl
        have : DataW.trod enc Tryz.prog w base spare held m 9 ((([c0, c1, c2, c3, c4, c5, c6] : List Value).drop 6).take (Tryz.prog.cellsOf 9)) = some y6 := hf 6 _ rfl
        rw [e] at this
        exact this
      obtain ⟨_, ⟨x6, zx6, rfl⟩, m6⟩ := (op1_str N Tryz.underlying9) m (by omega) c6 y6 g6 (by omega)
      exact ⟨_, ⟨⟨x0, x1, x2, x3, x4, x5, x6⟩, ⟨lx2, lx3⟩, rfl⟩, .cons m0 (.cons m1 (.cons m2 (.cons m3 (.cons m4 (.cons m5 (.cons m6 (MemL.nil _ _ _)))))))⟩
theorem op1_stages (N : Nat) : Op1 enc w base spare held N 49 (fun d => ∃ ls : List StageD, ls.length ≤ bulkMax ∧ (∀ a ∈ ls, (a.opens.length ≤ 1048576 ∧ a.closes.length ≤ 1048576)) ∧ d = .list 7 (ls.map StageD.ds)) :=
  op1_recs Tryz.underlying49 (by kernel_rfl) (by omega) (fun _ => rfl) (opL_stage N)
theorem opL_stone (N : Nat) : OpL enc w base spare held N 116 3 (fun ds => ∃ a : StoneD, (a.done.length ≤ 1048576 ∧ a.undo.length ≤ 1048576) ∧ ds = a.ds) := by
  intro n hn cs y hl h hb
  match cs, hl with
  | [c0, c1, c2], _ =>
    obtain ⟨xs, m, rfl, rfl, -, hlen, hf⟩ := DataW.trod_struct Tryz.underlying116 h
    match xs, hlen with
    | [y0, y1, y2], _ =>
      simp only [List.map_cons, List.map_nil, Rows.uptoBulk, Rows.uptoBulkAll] at hb
      have g0 : DataW.trod enc Tryz.prog w base spare held m 9 [c0] = some y0 := by
        have e : Tryz.prog.cellsOf 9 = 1 := by kernel_rfl
        have : DataW.trod enc Tryz.prog w base spare held m 9 ((([c0, c1, c2] : List Value).drop 0).take (Tryz.prog.cellsOf 9)) = some y0 := hf 0 _ rfl
        rw [e] at this
        exact this
      obtain ⟨_, ⟨x0, zx0, rfl⟩, m0⟩ := (op1_str N Tryz.underlying9) m (by omega) c0 y0 g0 (by omega)
      have g1 : DataW.trod enc Tryz.prog w base spare held m 111 [c1] = some y1 := by
        have e : Tryz.prog.cellsOf 111 = 1 := by kernel_rfl
        have : DataW.trod enc Tryz.prog w base spare held m 111 ((([c0, c1, c2] : List Value).drop 1).take (Tryz.prog.cellsOf 111)) = some y1 := hf 1 _ rfl
        rw [e] at this
        exact this
      obtain ⟨_, ⟨x1, lx1, px1, rfl⟩, m1⟩ := (op1_sentries N) m (by omega) c1 y1 g1 (by omega)
      have g2 : DataW.trod enc Tryz.prog w base spare held m 111 [c2] = some y2 := by
        have e : Tryz.prog.cellsOf 111 = 1 := by kernel_rfl
        have : DataW.trod enc Tryz.prog w base spare held m 111 ((([c0, c1, c2] : List Value).drop 2).take (Tryz.prog.cellsOf 111)) = some y2 := hf 2 _ rfl
        rw [e] at this
        exact this
      obtain ⟨_, ⟨x2, lx2, px2, rfl⟩, m2⟩ := (op1_sentries N) m (by omega) c2 y2 g2 (by omega)
      exact ⟨_, ⟨⟨x0, x1, x2⟩, ⟨lx1, lx2⟩, rfl⟩, .cons m0 (.cons m1 (.cons m2 (MemL.nil _ _ _)))⟩
theorem op1_stones (N : Nat) : Op1 enc w base spare held N 50 (fun d => ∃ ls : List StoneD, ls.length ≤ bulkMax ∧ (∀ a ∈ ls, (a.done.length ≤ 1048576 ∧ a.undo.length ≤ 1048576)) ∧ d = .list 3 (ls.map StoneD.ds)) :=
  op1_recs Tryz.underlying50 (by kernel_rfl) (by omega) (fun _ => rfl) (opL_stone N)
theorem opL_model (N : Nat) : OpL enc w base spare held N 53 6 (fun ds => ∃ a : ModelD, a.Ok ∧ ds = a.ds) := by
  intro n hn cs y hl h hb
  match cs, hl with
  | [c0, c1, c2, c3, c4, c5], _ =>
    obtain ⟨xs, m, rfl, rfl, -, hlen, hf⟩ := DataW.trod_struct Tryz.underlying53 h
    match xs, hlen with
    | [y0, y1, y2, y3, y4, y5], _ =>
      simp only [List.map_cons, List.map_nil, Rows.uptoBulk, Rows.uptoBulkAll] at hb
      have g0 : DataW.trod enc Tryz.prog w base spare held m 9 [c0] = some y0 := by
        have e : Tryz.prog.cellsOf 9 = 1 := by kernel_rfl
        have : DataW.trod enc Tryz.prog w base spare held m 9 ((([c0, c1, c2, c3, c4, c5] : List Value).drop 0).take (Tryz.prog.cellsOf 9)) = some y0 := hf 0 _ rfl
        rw [e] at this
        exact this
      obtain ⟨_, ⟨x0, zx0, rfl⟩, m0⟩ := (op1_str N Tryz.underlying9) m (by omega) c0 y0 g0 (by omega)
      have g1 : DataW.trod enc Tryz.prog w base spare held m 48 [c1] = some y1 := by
        have e : Tryz.prog.cellsOf 48 = 1 := by kernel_rfl
        have : DataW.trod enc Tryz.prog w base spare held m 48 ((([c0, c1, c2, c3, c4, c5] : List Value).drop 1).take (Tryz.prog.cellsOf 48)) = some y1 := hf 1 _ rfl
        rw [e] at this
        exact this
      obtain ⟨_, ⟨x1, lx1, px1, rfl⟩, m1⟩ := (op1_attrs N) m (by omega) c1 y1 g1 (by omega)
      have g2 : DataW.trod enc Tryz.prog w base spare held m 23 [c2] = some y2 := by
        have e : Tryz.prog.cellsOf 23 = 1 := by kernel_rfl
        have : DataW.trod enc Tryz.prog w base spare held m 23 ((([c0, c1, c2, c3, c4, c5] : List Value).drop 2).take (Tryz.prog.cellsOf 23)) = some y2 := hf 2 _ rfl
        rw [e] at this
        exact this
      obtain ⟨_, ⟨x2, lx2, rfl⟩, m2⟩ := (op1_strs N) m (by omega) c2 y2 g2 (by omega)
      have g3 : DataW.trod enc Tryz.prog w base spare held m 49 [c3] = some y3 := by
        have e : Tryz.prog.cellsOf 49 = 1 := by kernel_rfl
        have : DataW.trod enc Tryz.prog w base spare held m 49 ((([c0, c1, c2, c3, c4, c5] : List Value).drop 3).take (Tryz.prog.cellsOf 49)) = some y3 := hf 3 _ rfl
        rw [e] at this
        exact this
      obtain ⟨_, ⟨x3, lx3, px3, rfl⟩, m3⟩ := (op1_stages N) m (by omega) c3 y3 g3 (by omega)
      have g4 : DataW.trod enc Tryz.prog w base spare held m 50 [c4] = some y4 := by
        have e : Tryz.prog.cellsOf 50 = 1 := by kernel_rfl
        have : DataW.trod enc Tryz.prog w base spare held m 50 ((([c0, c1, c2, c3, c4, c5] : List Value).drop 4).take (Tryz.prog.cellsOf 50)) = some y4 := hf 4 _ rfl
        rw [e] at this
        exact this
      obtain ⟨_, ⟨x4, lx4, px4, rfl⟩, m4⟩ := (op1_stones N) m (by omega) c4 y4 g4 (by omega)
      have g5 : DataW.trod enc Tryz.prog w base spare held m 51 [c5] = some y5 := by
        have e : Tryz.prog.cellsOf 51 = 1 := by kernel_rfl
        have : DataW.trod enc Tryz.prog w base spare held m 51 ((([c0, c1, c2, c3, c4, c5] : List Value).drop 5).take (Tryz.prog.cellsOf 51)) = some y5 := hf 5 _ rfl
        rw [e] at this
        exact this
      obtain ⟨_, ⟨x5, lx5, px5, rfl⟩, m5⟩ := (op1_pairs N) m (by omega) c5 y5 g5 (by omega)
      exact ⟨_, ⟨⟨x0, x1, x2, x3, x4, x5⟩, ⟨lx1, lx2, lx3, lx4, lx5, px3, px4⟩, rfl⟩, .cons m0 (.cons m1 (.cons m2 (.cons m3 (.cons m4 (.cons m5 (MemL.nil _ _ _))))))⟩
theorem opL_ver (N : Nat) : OpL enc w base spare held N 55 7 (fun ds => ∃ a : VerD, a.m.Ok ∧ ds = a.ds) := by
  intro n hn cs y hl h hb
  match cs, hl with
  | [c0, c1, c2, c3, c4, c5, c6], _ =>
    obtain ⟨xs, m, rfl, rfl, -, hlen, hf⟩ := DataW.trod_struct Tryz.underlying55 h
    match xs, hlen with
    | [y0, y1], _ =>
      simp only [List.map_cons, List.map_nil, Rows.uptoBulk, Rows.uptoBulkAll] at hb
      have g0 : DataW.trod enc Tryz.prog w base spare held m 53 [c0, c1, c2, c3, c4, c5] = some y0 := by
        have e : Tryz.prog.cellsOf 53 = 6 := by kernel_rfl
        have : DataW.trod enc Tryz.prog w base spare held m 53 ((([c0, c1, c2, c3, c4, c5, c6] : List Value).drop 0).take (Tryz.prog.cellsOf 53)) = some y0 := hf 0 _ rfl
        rw [e] at this
        exact this
      have g1 : DataW.trod enc Tryz.prog w base spare held m 3 [c6] = some y1 := by
        have e : Tryz.prog.cellsOf 3 = 1 := by kernel_rfl
        have : DataW.trod enc Tryz.prog w base spare held m 3 ((([c0, c1, c2, c3, c4, c5, c6] : List Value).drop 6).take (Tryz.prog.cellsOf 3)) = some y1 := hf 1 _ rfl
        rw [e] at this
        exact this
      obtain ⟨_, ⟨md, hok, rfl⟩, m0⟩ := opL_model N m (by omega) [c0, c1, c2, c3, c4, c5] y0 rfl g0 (by omega)
      obtain ⟨_, ⟨v, rfl⟩, m1⟩ := (op1_int N Tryz.underlying3) m (by omega) c6 y1 g1 (by omega)
      exact ⟨_, ⟨⟨md, v⟩, hok, rfl⟩, .cons (m0.2 0 _ _ rfl rfl) (.cons (m0.2 1 _ _ rfl rfl) (.cons (m0.2 2 _ _ rfl rfl) (.cons (m0.2 3 _ _ rfl rfl) (.cons (m0.2 4 _ _ rfl rfl) (.cons (m0.2 5 _ _ rfl rfl) (.cons m1 (MemL.nil _ _ _)))))))⟩
theorem op1_vers (N : Nat) : Op1 enc w base spare held N 28 (fun d => ∃ ls : List VerD, ls.length ≤ bulkMax ∧ (∀ a ∈ ls, a.m.Ok) ∧ d = .list 7 (ls.map VerD.ds)) :=
  op1_recs Tryz.underlying28 (by kernel_rfl) (by omega) (fun _ => rfl) (opL_ver N)
theorem opL_json : ∀ N : Nat, OpL enc w base spare held N 77 6 IsJson
  | 0 => fun n hn => absurd hn (Nat.not_lt_zero _)
  | N + 1 => by
    have ih := opL_json N
    intro n hn cs y hl h hb
    match cs, hl with
    | [c0, c1, c2, c3, c4, c5], _ =>
      obtain ⟨xs, m, rfl, rfl, -, hlen, hf⟩ := DataW.trod_struct Tryz.underlying77 h
      match xs, hlen with
      | [y0, y1, y2, y3, y4, y5], _ =>
        simp only [List.map_cons, List.map_nil, Rows.uptoBulk, Rows.uptoBulkAll] at hb
        have g0 : DataW.trod enc Tryz.prog w base spare held m 5 [c0] = some y0 := by
          have e : Tryz.prog.cellsOf 5 = 1 := by kernel_rfl
          have : DataW.trod enc Tryz.prog w base spare held m 5 ((([c0, c1, c2, c3, c4, c5] : List Value).drop 0).take (Tryz.prog.cellsOf 5)) = some y0 := hf 0 _ rfl
          rw [e] at this
          exact this
        obtain ⟨_, ⟨x0, rfl⟩, m0⟩ := (op1_int N Tryz.underlying5) m (by omega) c0 y0 g0 (by omega)
        have g1 : DataW.trod enc Tryz.prog w base spare held m 4 [c1] = some y1 := by
          have e : Tryz.prog.cellsOf 4 = 1 := by kernel_rfl
          have : DataW.trod enc Tryz.prog w base spare held m 4 ((([c0, c1, c2, c3, c4, c5] : List Value).drop 1).take (Tryz.prog.cellsOf 4)) = some y1 := hf 1 _ rfl
          rw [e] at this
          exact this
        obtain ⟨_, ⟨x1, rfl⟩, m1⟩ := (op1_bool N Tryz.underlying4) m (by omega) c1 y1 g1 (by omega)
        have g2 : DataW.trod enc Tryz.prog w base spare held m 2 [c2] = some y2 := by
          have e : Tryz.prog.cellsOf 2 = 1 := by kernel_rfl
          have : DataW.trod enc Tryz.prog w base spare held m 2 ((([c0, c1, c2, c3, c4, c5] : List Value).drop 2).take (Tryz.prog.cellsOf 2)) = some y2 := hf 2 _ rfl
          rw [e] at this
          exact this
        obtain ⟨_, ⟨x2, rfl⟩, m2⟩ := (op1_int N Tryz.underlying2) m (by omega) c2 y2 g2 (by omega)
        have g3 : DataW.trod enc Tryz.prog w base spare held m 9 [c3] = some y3 := by
          have e : Tryz.prog.cellsOf 9 = 1 := by kernel_rfl
          have : DataW.trod enc Tryz.prog w base spare held m 9 ((([c0, c1, c2, c3, c4, c5] : List Value).drop 3).take (Tryz.prog.cellsOf 9)) = some y3 := hf 3 _ rfl
          rw [e] at this
          exact this
        obtain ⟨_, ⟨x3, zx3, rfl⟩, m3⟩ := (op1_str N Tryz.underlying9) m (by omega) c3 y3 g3 (by omega)
        have g4 : DataW.trod enc Tryz.prog w base spare held m 23 [c4] = some y4 := by
          have e : Tryz.prog.cellsOf 23 = 1 := by kernel_rfl
          have : DataW.trod enc Tryz.prog w base spare held m 23 ((([c0, c1, c2, c3, c4, c5] : List Value).drop 4).take (Tryz.prog.cellsOf 23)) = some y4 := hf 4 _ rfl
          rw [e] at this
          exact this
        obtain ⟨_, ⟨x4, lx4, rfl⟩, m4⟩ := (op1_strs N) m (by omega) c4 y4 g4 (by omega)
        have g5 : DataW.trod enc Tryz.prog w base spare held m 60 [c5] = some y5 := by
          have e : Tryz.prog.cellsOf 60 = 1 := by kernel_rfl
          have : DataW.trod enc Tryz.prog w base spare held m 60 ((([c0, c1, c2, c3, c4, c5] : List Value).drop 5).take (Tryz.prog.cellsOf 60)) = some y5 := hf 5 _ rfl
          rw [e] at this
          exact this
        obtain ⟨_, ⟨x5, lx5, px5, rfl⟩, m5⟩ := (op1_slice Tryz.underlying60 (by kernel_rfl) (by omega) (fun ds hd => IsJson.len hd) ih) m (by omega) c5 y5 g5 (by omega)
        exact ⟨_, .mk x0 x1 x2 x3 x4 x5 lx4 lx5 px5, .cons m0 (.cons m1 (.cons m2 (.cons m3 (.cons m4 (.cons m5 (MemL.nil _ _ _))))))⟩
theorem op1_jsons (N : Nat) : Op1 enc w base spare held N 60 (fun d => ∃ es : List (List D), es.length ≤ bulkMax ∧ (∀ x ∈ es, IsJson x) ∧ d = .list 6 es) :=
  op1_slice Tryz.underlying60 (by kernel_rfl) (by omega) (fun ds hd => IsJson.len hd) (opL_json N)
theorem opL_case (N : Nat) : OpL enc w base spare held N 64 7 (fun ds => ∃ a : CaseD, a.Ok ∧ ds = a.ds) := by
  intro n hn cs y hl h hb
  match cs, hl with
  | [c0, c1, c2, c3, c4, c5, c6], _ =>
    obtain ⟨xs, m, rfl, rfl, -, hlen, hf⟩ := DataW.trod_struct Tryz.underlying64 h
    match xs, hlen with
    | [y0, y1, y2, y3, y4, y5, y6], _ =>
      simp only [List.map_cons, List.map_nil, Rows.uptoBulk, Rows.uptoBulkAll] at hb
      have g0 : DataW.trod enc Tryz.prog w base spare held m 3 [c0] = some y0 := by
        have e : Tryz.prog.cellsOf 3 = 1 := by kernel_rfl
        have : DataW.trod enc Tryz.prog w base spare held m 3 ((([c0, c1, c2, c3, c4, c5, c6] : List Value).drop 0).take (Tryz.prog.cellsOf 3)) = some y0 := hf 0 _ rfl
        rw [e] at this
        exact this
      obtain ⟨_, ⟨x0, rfl⟩, m0⟩ := (op1_int N Tryz.underlying3) m (by omega) c0 y0 g0 (by omega)
      have g1 : DataW.trod enc Tryz.prog w base spare held m 9 [c1] = some y1 := by
        have e : Tryz.prog.cellsOf 9 = 1 := by kernel_rfl
        have : DataW.trod enc Tryz.prog w base spare held m 9 ((([c0, c1, c2, c3, c4, c5, c6] : List Value).drop 1).take (Tryz.prog.cellsOf 9)) = some y1 := hf 1 _ rfl
        rw [e] at this
        exact this
      obtain ⟨_, ⟨x1, zx1, rfl⟩, m1⟩ := (op1_str N Tryz.underlying9) m (by omega) c1 y1 g1 (by omega)
      have g2 : DataW.trod enc Tryz.prog w base spare held m 3 [c2] = some y2 := by
        have e : Tryz.prog.cellsOf 3 = 1 := by kernel_rfl
        have : DataW.trod enc Tryz.prog w base spare held m 3 ((([c0, c1, c2, c3, c4, c5, c6] : List Value).drop 2).take (Tryz.prog.cellsOf 3)) = some y2 := hf 2 _ rfl
        rw [e] at this
        exact this
      obtain ⟨_, ⟨x2, rfl⟩, m2⟩ := (op1_int N Tryz.underlying3) m (by omega) c2 y2 g2 (by omega)
      have g3 : DataW.trod enc Tryz.prog w base spare held m 60 [c3] = some y3 := by
        have e : Tryz.prog.cellsOf 60 = 1 := by kernel_rfl
        have : DataW.trod enc Tryz.prog w base spare held m 60 ((([c0, c1, c2, c3, c4, c5, c6] : List Value).drop 3).take (Tryz.prog.cellsOf 60)) = some y3 := hf 3 _ rfl
        rw [e] at this
        exact this
      obtain ⟨_, ⟨x3, lx3, px3, rfl⟩, m3⟩ := (op1_jsons N) m (by omega) c3 y3 g3 (by omega)
      have g4 : DataW.trod enc Tryz.prog w base spare held m 61 [c4] = some y4 := by
        have e : Tryz.prog.cellsOf 61 = 1 := by kernel_rfl
        have : DataW.trod enc Tryz.prog w base spare held m 61 ((([c0, c1, c2, c3, c4, c5, c6] : List Value).drop 4).take (Tryz.prog.cellsOf 61)) = some y4 := hf 4 _ rfl
        rw [e] at this
        exact this
      obtain ⟨_, ⟨x4, lx4, rfl⟩, m4⟩ := (op1_bools N) m (by omega) c4 y4 g4 (by omega)
      have g5 : DataW.trod enc Tryz.prog w base spare held m 61 [c5] = some y5 := by
        have e : Tryz.prog.cellsOf 61 = 1 := by kernel_rfl
        have : DataW.trod enc Tryz.prog w base spare held m 61 ((([c0, c1, c2, c3, c4, c5, c6] : List Value).drop 5).take (Tryz.prog.cellsOf 61)) = some y5 := hf 5 _ rfl
        rw [e] at this
        exact this
      obtain ⟨_, ⟨x5, lx5, rfl⟩, m5⟩ := (op1_bools N) m (by omega) c5 y5 g5 (by omega)
      have g6 : DataW.trod enc Tryz.prog w base spare held m 62 [c6] = some y6 := by
        have e : Tryz.prog.cellsOf 62 = 1 := by kernel_rfl
        have : DataW.trod enc Tryz.prog w base spare held m 62 ((([c0, c1, c2, c3, c4, c5, c6] : List Value).drop 6).take (Tryz.prog.cellsOf 62)) = some y6 := hf 6 _ rfl
        rw [e] at this
        exact this
      obtain ⟨_, ⟨x6, lx6, px6, rfl⟩, m6⟩ := (op1_acteds N) m (by omega) c6 y6 g6 (by omega)
      exact ⟨_, ⟨⟨x0, x1, x2, x3, x4, x5, x6⟩, ⟨lx3, px3, lx4, lx5, lx6⟩, rfl⟩, .cons m0 (.cons m1 (.cons m2 (.cons m3 (.cons m4 (.cons m5 (.cons m6 (MemL.nil _ _ _)))))))⟩
theorem op1_cases (N : Nat) : Op1 enc w base spare held N 29 (fun d => ∃ ls : List CaseD, ls.length ≤ bulkMax ∧ (∀ a ∈ ls, a.Ok) ∧ d = .list 7 (ls.map CaseD.ds)) :=
  op1_recs Tryz.underlying29 (by kernel_rfl) (by omega) (fun _ => rfl) (opL_case N)
theorem opL_state (N : Nat) : OpL enc w base spare held N 35 14 (fun ds => ∃ a : StateD, (a.Ok ∧ a.secret.size ≤ maxLen) ∧ ds = a.ds) := by
  intro n hn cs y hl h hb
  match cs, hl with
  | [c0, c1, c2, c3, c4, c5, c6, c7, c8, c9, c10, c11, c12, c13], _ =>
    obtain ⟨xs, m, rfl, rfl, -, hlen, hf⟩ := DataW.trod_struct Tryz.underlying35 h
    match xs, hlen with
    | [y0, y1, y2, y3, y4, y5, y6, y7, y8, y9, y10, y11, y12, y13], _ =>
      simp only [List.map_cons, List.map_nil, Rows.uptoBulk, Rows.uptoBulkAll] at hb
      have g0 : DataW.trod enc Tryz.prog w base spare held m 3 [c0] = some y0 := by
        have e : Tryz.prog.cellsOf 3 = 1 := by kernel_rfl
        have : DataW.trod enc Tryz.prog w base spare held m 3 ((([c0, c1, c2, c3, c4, c5, c6, c7, c8, c9, c10, c11, c12, c13] : List Value).drop 0).take (Tryz.prog.cellsOf 3)) = some y0 := hf 0 _ rfl
        rw [e] at this
        exact this
      obtain ⟨_, ⟨x0, rfl⟩, m0⟩ := (op1_int N Tryz.underlying3) m (by omega) c0 y0 g0 (by omega)
      have g1 : DataW.trod enc Tryz.prog w base spare held m 9 [c1] = some y1 := by
        have e : Tryz.prog.cellsOf 9 = 1 := by kernel_rfl
        have : DataW.trod enc Tryz.prog w base spare held m 9 ((([c0, c1, c2, c3, c4, c5, c6, c7, c8, c9, c10, c11, c12, c13] : List Value).drop 1).take (Tryz.prog.cellsOf 9)) = some y1 := hf 1 _ rfl
        rw [e] at this
        exact this
      obtain ⟨_, ⟨x1, zx1, rfl⟩, m1⟩ := (op1_str N Tryz.underlying9) m (by omega) c1 y1 g1 (by omega)
      have g2 : DataW.trod enc Tryz.prog w base spare held m 27 [c2] = some y2 := by
        have e : Tryz.prog.cellsOf 27 = 1 := by kernel_rfl
        have : DataW.trod enc Tryz.prog w base spare held m 27 ((([c0, c1, c2, c3, c4, c5, c6, c7, c8, c9, c10, c11, c12, c13] : List Value).drop 2).take (Tryz.prog.cellsOf 27)) = some y2 := hf 2 _ rfl
        rw [e] at this
        exact this
      obtain ⟨_, ⟨x2, lx2, px2, rfl⟩, m2⟩ := (op1_users N) m (by omega) c2 y2 g2 (by omega)
      have g3 : DataW.trod enc Tryz.prog w base spare held m 22 [c3] = some y3 := by
        have e : Tryz.prog.cellsOf 22 = 1 := by kernel_rfl
        have : DataW.trod enc Tryz.prog w base spare held m 22 ((([c0, c1, c2, c3, c4, c5, c6, c7, c8, c9, c10, c11, c12, c13] : List Value).drop 3).take (Tryz.prog.cellsOf 22)) = some y3 := hf 3 _ rfl
        rw [e] at this
        exact this
      obtain ⟨_, ⟨x3, lx3, px3, rfl⟩, m3⟩ := (op1_roles N) m (by omega) c3 y3 g3 (by omega)
      have g4 : DataW.trod enc Tryz.prog w base spare held m 28 [c4] = some y4 := by
        have e : Tryz.prog.cellsOf 28 = 1 := by kernel_rfl
        have : DataW.trod enc Tryz.prog w base spare held m 28 ((([c0, c1, c2, c3, c4, c5, c6, c7, c8, c9, c10, c11, c12, c13] : List Value).drop 4).take (Tryz.prog.cellsOf 28)) = some y4 := hf 4 _ rfl
        rw [e] at this
        exact this
      obtain ⟨_, ⟨x4, lx4, px4, rfl⟩, m4⟩ := (op1_vers N) m (by omega) c4 y4 g4 (by omega)
      have g5 : DataW.trod enc Tryz.prog w base spare held m 29 [c5] = some y5 := by
        have e : Tryz.prog.cellsOf 29 = 1 := by kernel_rfl
        have : DataW.trod enc Tryz.prog w base spare held m 29 ((([c0, c1, c2, c3, c4, c5, c6, c7, c8, c9, c10, c11, c12, c13] : List Value).drop 5).take (Tryz.prog.cellsOf 29)) = some y5 := hf 5 _ rfl
        rw [e] at this
        exact this
      obtain ⟨_, ⟨x5, lx5, px5, rfl⟩, m5⟩ := (op1_cases N) m (by omega) c5 y5 g5 (by omega)
      have g6 : DataW.trod enc Tryz.prog w base spare held m 30 [c6] = some y6 := by
        have e : Tryz.prog.cellsOf 30 = 1 := by kernel_rfl
        have : DataW.trod enc Tryz.prog w base spare held m 30 ((([c0, c1, c2, c3, c4, c5, c6, c7, c8, c9, c10, c11, c12, c13] : List Value).drop 6).take (Tryz.prog.cellsOf 30)) = some y6 := hf 6 _ rfl
        rw [e] at this
        exact this
      obtain ⟨_, ⟨x6, lx6, px6, rfl⟩, m6⟩ := (op1_timers N) m (by omega) c6 y6 g6 (by omega)
      have g7 : DataW.trod enc Tryz.prog w base spare held m 31 [c7] = some y7 := by
        have e : Tryz.prog.cellsOf 31 = 1 := by kernel_rfl
        have : DataW.trod enc Tryz.prog w base spare held m 31 ((([c0, c1, c2, c3, c4, c5, c6, c7, c8, c9, c10, c11, c12, c13] : List Value).drop 7).take (Tryz.prog.cellsOf 31)) = some y7 := hf 7 _ rfl
        rw [e] at this
        exact this
      obtain ⟨_, ⟨x7, lx7, px7, rfl⟩, m7⟩ := (op1_works N) m (by omega) c7 y7 g7 (by omega)
      have g8 : DataW.trod enc Tryz.prog w base spare held m 32 [c8] = some y8 := by
        have e : Tryz.prog.cellsOf 32 = 1 := by kernel_rfl
        have : DataW.trod enc Tryz.prog w base spare held m 32 ((([c0, c1, c2, c3, c4, c5, c6, c7, c8, c9, c10, c11, c12, c13] : List Value).drop 8).take (Tryz.prog.cellsOf 32)) = some y8 := hf 8 _ rfl
        rw [e] at this
        exact this
      obtain ⟨_, ⟨x8, lx8, px8, rfl⟩, m8⟩ := (op1_records N) m (by omega) c8 y8 g8 (by omega)
      have g9 : DataW.trod enc Tryz.prog w base spare held m 33 [c9] = some y9 := by
        have e : Tryz.prog.cellsOf 33 = 1 := by kernel_rfl
        have : DataW.trod enc Tryz.prog w base spare held m 33 ((([c0, c1, c2, c3, c4, c5, c6, c7, c8, c9, c10, c11, c12, c13] : List Value).drop 9).take (Tryz.prog.cellsOf 33)) = some y9 := hf 9 _ rfl
        rw [e] at this
        exact this
      obtain ⟨_, ⟨x9, lx9, px9, rfl⟩, m9⟩ := (op1_sesss N) m (by omega) c9 y9 g9 (by omega)
      have g10 : DataW.trod enc Tryz.prog w base spare held m 3 [c10] = some y10 := by
        have e : Tryz.prog.cellsOf 3 = 1 := by kernel_rfl
        have : DataW.trod enc Tryz.prog w base spare held m 3 ((([c0, c1, c2, c3, c4, c5, c6, c7, c8, c9, c10, c11, c12, c13] : List Value).drop 10).take (Tryz.prog.cellsOf 3)) = some y10 := hf 10 _ rfl
        rw [e] at this
        exact this
      obtain ⟨_, ⟨x10, rfl⟩, m10⟩ := (op1_int N Tryz.underlying3) m (by omega) c10 y10 g10 (by omega)
      have g11 : DataW.trod enc Tryz.prog w base spare held m 3 [c11] = some y11 := by
        have e : Tryz.prog.cellsOf 3 = 1 := by kernel_rfl
        have : DataW.trod enc Tryz.prog w base spare held m 3 ((([c0, c1, c2, c3, c4, c5, c6, c7, c8, c9, c10, c11, c12, c13] : List Value).drop 11).take (Tryz.prog.cellsOf 3)) = some y11 := hf 11 _ rfl
        rw [e] at this
        exact this
      obtain ⟨_, ⟨x11, rfl⟩, m11⟩ := (op1_int N Tryz.underlying3) m (by omega) c11 y11 g11 (by omega)
      have g12 : DataW.trod enc Tryz.prog w base spare held m 3 [c12] = some y12 := by
        have e : Tryz.prog.cellsOf 3 = 1 := by kernel_rfl
        have : DataW.trod enc Tryz.prog w base spare held m 3 ((([c0, c1, c2, c3, c4, c5, c6, c7, c8, c9, c10, c11, c12, c13] : List Value).drop 12).take (Tryz.prog.cellsOf 3)) = some y12 := hf 12 _ rfl
        rw [e] at this
        exact this
      obtain ⟨_, ⟨x12, rfl⟩, m12⟩ := (op1_int N Tryz.underlying3) m (by omega) c12 y12 g12 (by omega)
      have g13 : DataW.trod enc Tryz.prog w base spare held m 3 [c13] = some y13 := by
        have e : Tryz.prog.cellsOf 3 = 1 := by kernel_rfl
        have : DataW.trod enc Tryz.prog w base spare held m 3 ((([c0, c1, c2, c3, c4, c5, c6, c7, c8, c9, c10, c11, c12, c13] : List Value).drop 13).take (Tryz.prog.cellsOf 3)) = some y13 := hf 13 _ rfl
        rw [e] at this
        exact this
      obtain ⟨_, ⟨x13, rfl⟩, m13⟩ := (op1_int N Tryz.underlying3) m (by omega) c13 y13 g13 (by omega)
      exact ⟨_, ⟨⟨x0, x1, x2, x3, x4, x5, x6, x7, x8, x9, x10, x11, x12, x13⟩, ⟨⟨lx2, lx3, lx4, lx5, lx6, lx7, lx8, lx9, px2, px3, px4, px5⟩, zx1⟩, rfl⟩, .cons m0 (.cons m1 (.cons m2 (.cons m3 (.cons m4 (.cons m5 (.cons m6 (.cons m7 (.cons m8 (.cons m9 (.cons m10 (.cons m11 (.cons m12 (.cons m13 (MemL.nil _ _ _))))))))))))))⟩
end
end Go.Proofs.YtinijohmdljieaaGreatDoor
