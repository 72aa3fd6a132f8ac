/- slices.SortFunc at roles, by their names. What a first state's copy is, while its roles are put in order. The boxes of New: the user, the result. -/
import Derived.Test.YtinijohmdljieaaGreatDoorGc
import Derived.Test.YtinijohmdljieaaGreatDoorSort0
import Derived.Test.YtinijohmdljieaaGreatDoorGd
import Derived.Test.YtinijohmdljieaaGreatDoorStSame24
namespace Go.Proofs.YtinijohmdljieaaGreatDoor
open Go.RowKit Go.Shelf Go.Lib Go.Sort

instance : Inhabited Rl := ⟨⟨⟨#[]⟩, none, 0, none, 0, [], []⟩⟩
set_option maxHeartbeats 2000000 in
theorem nan_walk (x : ByteArray) (w : World) : Calls Tryz.prog 68 #[.string x] w fun e w' => e = .returned (.bool false) ∧ w' = w := by
  have h : (x.toList != x.toList) = false := by simp
  go_enter Tryz.func68, Tryz.ntmps68
  go_wp2_with fail
  go_ret
  exact ⟨rfl, rfl⟩
set_option maxHeartbeats 4000000 in
set_option maxRecDepth 100000 in
theorem cmp_walk (x y : ByteArray) (w : World) : Calls Tryz.prog 27 #[.string x, .string y] w fun e w' => e = .returned (.int .i64 (cmpB x y)) ∧ w' = w := by
  have c1 := nan_walk x w
  have c2 := nan_walk y w
  obtain ⟨r, hr⟩ : ∃ r, cmpB x y = r := ⟨_, rfl⟩
  rw [hr]
  unfold cmpB ltb at hr
  cases h1 : Op.bytesLess x.toList y.toList
  · rw [h1] at hr
    cases h2 : (x.toList == y.toList)
    · rw [h2] at hr
      have hr' : (1 : Int) = r := hr
      subst hr'
      clear hr
      go_enter Tryz.func27, Tryz.ntmps27
      go_wp2_with (first | (go_at_call 68; refine c1.mono ?_; rintro e w' ⟨rfl, rfl⟩) | (go_at_call 68; refine c2.mono ?_; rintro e w' ⟨rfl, rfl⟩))
      go_ret
      exact ⟨rfl, rfl⟩
    · rw [h2] at hr
      have hr' : (0 : Int) = r := hr
      subst hr'
      clear hr
      go_enter Tryz.func27, Tryz.ntmps27
      go_wp2_with (first | (go_at_call 68; refine c1.mono ?_; rintro e w' ⟨rfl, rfl⟩) | (go_at_call 68; refine c2.mono ?_; rintro e w' ⟨rfl, rfl⟩))
      go_ret
      exact ⟨rfl, rfl⟩
  · rw [h1] at hr
    have hr' : (-1 : Int) = r := hr
    subst hr'
    clear hr
    go_enter Tryz.func27, Tryz.ntmps27
    go_wp2_with (first | (go_at_call 68; refine c1.mono ?_; rintro e w' ⟨rfl, rfl⟩) | (go_at_call 68; refine c2.mono ?_; rintro e w' ⟨rfl, rfl⟩))
    go_ret
    exact ⟨rfl, rfl⟩
set_option maxHeartbeats 4000000 in
set_option maxRecDepth 100000 in
theorem byNames_walk (x y : Rl) (W : World) : Calls Tryz.prog 26 #[.agg (cellsR x).toArray, .agg (cellsR y).toArray] W fun e w' => e = .returned (.int .i64 (cmpB x.name y.name)) ∧ ∃ q os', w' = grow (W.drewN q) os' := by
  have hc := fun W' => cmp_walk x.name y.name W'
  obtain ⟨r, hr⟩ : ∃ r, cmpB x.name y.name = r := ⟨_, rfl⟩
  simp only [hr] at hc ⊢
  clear hr
  simp only [cellsR]
  obtain ⟨xn, xha, xhc, xma, xmc, xh, xm⟩ := x
  obtain ⟨yn, yha, yhc, yma, ymc, yh, ym⟩ := y
  go_enter Tryz.func26, Tryz.ntmps26
  go_wp2_with (go_at_call 27; refine (hc _).mono ?_; rintro e w' ⟨rfl, rfl⟩)
  go_ret
  exact ⟨rfl, 0, _, by rw [alloc_eq_grow, alloc_eq_grow, grow_grow]; rfl⟩
def cfR (x y : Rl) : Int := cmpB x.name y.name
theorem ltOf_R (x y : Rl) : ltOf cfR x y = ltb x.name y.name := cmpB_neg _ _
theorem swoR : SWO (ltOf cfR) where
  irrefl x := by rw [ltOf_R]; exact ltb_irrefl _
  trans x y z h1 h2 := by rw [ltOf_R] at *; exact ltb_trans h1 h2
  ntrans x y z h1 h2 := by rw [ltOf_R] at *; exact ltb_ntrans h1 h2
theorem flatK_R (l : List Rl) : flatK cellsR 3 l.toArray = (flatR l).toArray := by
  apply Array.ext (by simp [flatR_len])
  intro t h1 h2
  have ht : t < l.length * 3 := by simpa [flatR_len] using h2
  have e := get_flatK cellsR 3 l.toArray t (by simpa using ht)
  have hl : t / 3 < l.length := by omega
  rw [← getElem!_pos (flatK cellsR 3 l.toArray) t h1, e]
  obtain ⟨q, r, hr, rfl⟩ : ∃ q r, r < 3 ∧ t = q * 3 + r := ⟨t / 3, t % 3, Nat.mod_lt _ (by omega), by omega⟩
  have hq : (q * 3 + r) / 3 = q := by omega
  have hm : (q * 3 + r) % 3 = r := by omega
  rw [hq] at hl
  obtain ⟨e0, e1, e2⟩ := flatR_at l q hl
  have hx : l.toArray[q]! = l[q] := by rw [getElem!_pos l.toArray q (by simpa using hl)]; simp
  rw [hq, hm, hx]
  have e3 : (flatR l).toArray[q * 3 + r]? = (flatR l)[q * 3 + r]? := by simp
  have e4 : some ((flatR l).toArray[q * 3 + r]) = (flatR l)[q * 3 + r]? := by rw [← e3]; exact (Array.getElem?_eq_getElem h2).symm
  match r, hr with
  | 0, _ => have e5 : (flatR l)[q * 3 + 0]? = some (.string l[q].name) := e0
            rw [e5] at e4; injection e4 with e4; rw [e4]; rfl
  | 1, _ => rw [e1] at e4; injection e4 with e4; rw [e4]; rfl
  | 2, _ => rw [e2] at e4; injection e4 with e4; rw [e4]; rfl
theorem heap_sortedK {w : World} {g n : Nat} {os : Array Obj} {cur : Array Value} {e : TypeId} {fr : Nat × Nat} (F : Array Value) (hb : w.heap[g]? = some (.cells cur e fr)) :
    (grow (putRow id (Sort.ahead w n) g 0 F) os).heap[g]? = some (.cells (putCells id 0 F cur) e fr) := by
  have hg : g < w.heap.size := (Array.getElem?_eq_some_iff.1 hb).1
  rw [heap_grow_old _ _ (by simpa using hg)]
  simp [putRow, mapBlock, Sort.ahead, Array.getElem?_modify, hb, onCells]
theorem grownBy_sortedK {w : World} {g n : Nat} {os : Array Obj} (F : Array Value) : w.grownBy (grow (putRow id (Sort.ahead w n) g 0 F) os) (some g) := by
  refine ⟨rfl, rfl, rfl, by simp, fun k hk hne => ?_⟩
  rw [heap_grow_old _ _ (by simpa using hk)]
  have : g ≠ k := fun e => hne (by rw [e])
  simp [putRow, mapBlock, Sort.ahead, Array.getElem?_modify, this]
theorem take_putCellsK (cur F : Array Value) (h : F.size ≤ cur.size) : (putCells id 0 F cur).toList.take F.size = F.toList := by
  apply List.ext_getElem?
  intro j
  by_cases hj : j < F.size
  · rw [List.getElem?_take_of_lt hj, Array.getElem?_toList]
    simp [putCells, hj, show j < cur.size by omega]
  · rw [List.getElem?_take_eq_none (by omega), List.getElem?_eq_none (by simp; omega)]
theorem Own.sorted {w : World} {base g vc n : Nat} {os : Array Obj} {E : TypeId} {l : List Rl} (h : Own w base E 3 (some ⟨g, 0, none⟩) vc l.length (flatR l)) (l' : List Rl) (hl : l'.length = l.length) :
    Own (grow (putRow id (Sort.ahead w n) g 0 (flatR l').toArray) os) base E 3 (some ⟨g, 0, none⟩) vc l.length (flatR l') := by
  rcases h.block with ⟨h1, _⟩ | ⟨g', he, hb, hlt, cur, hcur, h1, h2, h3⟩
  · cases h1
  · cases he
    refine ⟨by rw [flatR_len, hl], .inr ⟨g, vc, _, rfl, hb, heap_sortedK _ hcur, h.cap.1, h.cap.2, by simp [putCells, h2], ?_⟩⟩
    have := take_putCellsK cur (flatR l').toArray (by simp [flatR_len, hl]; exact h1)
    rw [show l.length * 3 = (flatR l').toArray.size by simp [flatR_len, hl], this]
/-- how the sort ends -/
def SortEnd (base g vc : Nat) (l : List Rl) (w : World) (e : Ending) (w' : World) : Prop := e = .returned (.tuple #[]) ∧ ∃ l' : List Rl, l'.Perm l ∧ UpR l' ∧ Own w' base 81 3 (some ⟨g, 0, none⟩) vc l.length (flatR l') ∧ w.grownBy w' (some g)
set_option maxHeartbeats 4000000 in
theorem sortRoles (base g vc : Nat) (l : List Rl) (w : World) (h : Own w base 81 3 (some ⟨g, 0, none⟩) vc l.length (flatR l)) (h0 : 0 < l.length) (hl : l.length ≤ 1000) :
    Calls Tryz.prog 25 #[.slice (some ⟨g, 0, none⟩) l.length vc, .func (.func 26) #[] #[]] w (SortEnd base g vc l w) := by
  have eg : ∀ args w, (callFunc 26 args).run Tryz.prog w = .ok (.enter 26 args) w := enters_of Tryz.func26 (by kernel_rfl) rfl
  have hH : HoldsK cellsR 3 w g 0 l.toArray := by
    unfold HoldsK
    rw [flatK_R]
    intro j hj
    obtain ⟨g', he, -, -, hc, hf⟩ := h.cell (by omega)
    cases he
    have hj' : j < (flatR l).length := by simpa using hj
    refine ⟨?_, by rw [Nat.zero_add]; exact hf j⟩
    rw [Nat.zero_add, getElem!_pos (flatR l).toArray j hj]
    exact hc j _ (by simp [List.getElem?_eq_getElem hj'])
  have hcon := AnyQ.slices_SortFunc Tryz.sortRole 3 Tryz.isAgg81 Tryz.sizeOf81 cellsR (fun _ => rfl) (fun x v hv => by
    simp only [cellsR, List.mem_cons, List.not_mem_nil, or_false] at hv
    rcases hv with rfl | rfl | rfl <;> rfl) cfR swoR 26 #[] g 0 vc l.toArray w eg (fun m os dk _ x y => byNames_walk x y _) hH (h.lt rfl).2 (by simp; omega)
  refine Calls.mono (R := _) hcon ?_
  rintro e w' ⟨rfl, d', n, os, hp, hs, rfl⟩
  have hd : d'.size = l.length := by simpa using hp.1
  obtain ⟨l', rfl⟩ : ∃ l' : List Rl, d' = l'.toArray := ⟨d'.toList, by simp⟩
  have hl' : l'.length = l.length := by simpa using hd
  refine ⟨rfl, l', ?_, ?_, ?_, ?_⟩
  · have h5 := hp.2.2
    have h6 : (List.take l.length l').Perm l := by simpa using h5
    rwa [List.take_of_length_le (by omega)] at h6
  · intro i j hi hj hij
    have := hs i j (Nat.zero_le _) hij (by simpa [← hl'] using hj)
    rw [ltOf_R] at this
    simpa [hi, hj] using this
  · unfold sortWorldK putRowK
    rw [flatK_R]
    exact h.sorted l' hl'
  · unfold sortWorldK putRowK
    exact grownBy_sortedK _
end Go.Proofs.YtinijohmdljieaaGreatDoor

namespace Go.Proofs.YtinijohmdljieaaGreatDoor
open Go.RowKit

theorem strs_keptF {w w' : World} {a : Option Addr} {n c : Nat} {xs : List ByteArray} {base : Nat} (h : Strs w.heap.size w (.slice a n c) xs) (hB : ∀ b o, a = some ⟨b, o, none⟩ → base ≤ b) (hk : ∀ k, base ≤ k → k < w.heap.size → w'.heap[k]? = w.heap[k]?) (hs : w.heap.size ≤ w'.heap.size) : Strs w'.heap.size w' (.slice a n c) xs := by
  obtain ⟨a', c', b, off, hv, hle, ha, hc⟩ := h.ex
  injection hv with e1 e2 e3
  subst e1; subst e2; subst e3
  refine ⟨a, c, b, off, rfl, hle, fun h0 => ⟨(ha h0).1, Nat.lt_of_lt_of_le (ha h0).2 hs⟩, fun j x hj => ?_⟩
  obtain ⟨cs, h1, h2⟩ := hc j x hj
  have h0 : 0 < xs.length := by
    rcases Nat.lt_or_ge j xs.length with h | h
    · omega
    · rw [List.getElem?_eq_none h] at hj; cases hj
  exact ⟨cs, fun i hi => by rw [World.cell?_of_block (hk b (hB b off (ha h0).1) (ha h0).2)]; exact h1 i hi, h2⟩
/-- a list of texts in no place that has turned -/
theorem strs_keptR {w w' : World} {a : Option Addr} {n c : Nat} {xs : List ByteArray} {g : Nat} (h : Strs w.heap.size w (.slice a n c) xs) (hne : 0 < xs.length → ∀ b o, a = some ⟨b, o, none⟩ → b ≠ g) (hk : ∀ k, k < w.heap.size → k ≠ g → w'.heap[k]? = w.heap[k]?) (hs : w.heap.size ≤ w'.heap.size) : Strs w'.heap.size w' (.slice a n c) xs := by
  obtain ⟨a', c', b, off, hv, hle, ha, hc⟩ := h.ex
  injection hv with e1 e2 e3
  subst e1; subst e2; subst e3
  refine ⟨a, c, b, off, rfl, hle, fun h0 => ⟨(ha h0).1, Nat.lt_of_lt_of_le (ha h0).2 hs⟩, fun j x hj => ?_⟩
  obtain ⟨cs, h1, h2⟩ := hc j x hj
  have h0 : 0 < xs.length := by
    rcases Nat.lt_or_ge j xs.length with h | h
    · omega
    · rw [List.getElem?_eq_none h] at hj; cases hj
  exact ⟨cs, fun i hi => by rw [World.cell?_of_block (hk b (ha h0).2 (hne h0 b off (ha h0).1))]; exact h1 i hi, h2⟩
/-- the user's list and the roles of a copy; cur: the roles as they lie now -/
structure TwF (n s p : ByteArray) (rs : List ByteArray) (l : List Rl) (base : Nat) (W : World) (g uc : Nat) (ua : Option Addr) (uv : Nat) (va : Option Addr) (vc : Nat) (cur : List Rl) : Prop where
  us : Own W base 25 4 (some ⟨g, 0, none⟩) uc 1 [.string n, .string s, .string p, .slice ua rs.length uv]
  ur : Strs W.heap.size W (.slice ua rs.length uv) rs
  un : ∀ b o, ua = some ⟨b, o, none⟩ → base ≤ b
  ro : Own W base 81 3 va vc l.length (flatR cur)
  pm : (cur.map datR).Perm (l.map datR)
  ap : ∀ gr, va = some ⟨gr, 0, none⟩ → g ≠ gr ∧ (0 < rs.length → ∀ b o, ua = some ⟨b, o, none⟩ → b ≠ gr)
  ol : ∀ gr, va = some ⟨gr, 0, none⟩ → ∀ r ∈ cur, OwnL base gr W r
section
variable {n s p : ByteArray} {rs : List ByteArray} {l : List Rl} {base : Nat} {W W' : World} {g uc : Nat} {ua : Option Addr} {uv : Nat} {va : Option Addr} {vc : Nat} {cur : List Rl}
theorem TwF.len (h : TwF n s p rs l base W g uc ua uv va vc cur) : cur.length = l.length := by simpa using h.pm.length_eq
theorem TwF.kept (h : TwF n s p rs l base W g uc ua uv va vc cur) (hk : ∀ k, base ≤ k → k < W.heap.size → W'.heap[k]? = W.heap[k]?) (hs : W.heap.size ≤ W'.heap.size) : TwF n s p rs l base W' g uc ua uv va vc cur := by
  refine ⟨h.us.keptB fun q hq => ?_, strs_keptF h.ur h.un hk hs, h.un, h.ro.keptB fun q hq => ?_, h.pm, h.ap, fun gr hgr r hr => ?_⟩
  · have := h.us.lt hq; exact hk q this.1 this.2
  · have := h.ro.lt hq; exact hk q this.1 this.2
  · obtain ⟨h1, h2, h3, h4⟩ := h.ol gr hgr r hr
    exact ⟨strs_keptF h1 (fun b o he => (h3 b o he).1) hk hs, strs_keptF h2 (fun b o he => (h4 b o he).1) hk hs, h3, h4⟩
theorem TwF.call (h : TwF n s p rs l base W g uc ua uv va vc cur) (hb : Below W.heap.size W W') : TwF n s p rs l base W' g uc ua uv va vc cur := h.kept (fun k _ hk => hb.block k hk) hb.size
theorem TwF.far (h : TwF n s p rs l base W g uc ua uv va vc cur) {a : Addr} (ha : a.block < base) (v : Value) : TwF n s p rs l base (W.setCell a v) g uc ua uv va vc cur :=
  h.kept (fun k h1 _ => Below.heap_setCell W a v k (by omega)) (by simp [World.setCell])
/-- the roles' block alone has turned -/
theorem TwF.row {gr : Nat} (h : TwF n s p rs l base W g uc ua uv (some ⟨gr, 0, none⟩) vc cur) {cur' : List Rl} (hp : cur'.Perm cur) (ho : Own W' base 81 3 (some ⟨gr, 0, none⟩) vc l.length (flatR cur')) (hk : ∀ k, k < W.heap.size → k ≠ gr → W'.heap[k]? = W.heap[k]?) (hs : W.heap.size ≤ W'.heap.size) : TwF n s p rs l base W' g uc ua uv (some ⟨gr, 0, none⟩) vc cur' := by
  obtain ⟨hap1, hap2⟩ := h.ap gr rfl
  refine ⟨h.us.keptB fun q hq => ?_, strs_keptR h.ur hap2 hk hs, h.un, ho, (hp.map datR).trans h.pm, h.ap, fun g2 hg2 r hr => ?_⟩
  · have := h.us.lt hq
    cases hq
    exact hk g this.2 hap1
  · cases hg2
    obtain ⟨h1, h2, h3, h4⟩ := h.ol gr rfl r (hp.subset hr)
    exact ⟨strs_kept h1 (fun b o he => (h3 b o he).2) hk hs, strs_kept h2 (fun b o he => (h4 b o he).2) hk hs, h3, h4⟩
/-- how the program reads the roles -/
theorem TwF.rls (h : TwF n s p rs l base W g uc ua uv va vc cur) (hok : ∀ r ∈ l, r.Ok) : ∃ gr, RlsC W.heap.size W va gr 0 cur := by
  have hl := h.len
  have ok : ∀ r ∈ cur, r.Ok := by
    intro r hr
    have hm : datR r ∈ l.map datR := h.pm.subset (List.mem_map_of_mem hr)
    obtain ⟨r0, h0, he⟩ := List.mem_map.1 hm
    have ho := hok r0 h0
    simp only [datR, Prod.mk.injEq] at he
    obtain ⟨e1, e2, e3⟩ := he
    exact ⟨by rw [← e1]; exact ho.name, by rw [← e2]; exact ho.holds, by rw [← e3]; exact ho.may, by rw [← e2]; exact ho.hl, by rw [← e3]; exact ho.ml⟩
  rcases h.ro.block with ⟨rfl, h0, rfl⟩ | ⟨gr, rfl, _, hlt, -⟩
  · have hn : cur = [] := List.eq_nil_of_length_eq_zero (by omega)
    subst hn
    exact ⟨0, fun hp => absurd hp (Nat.not_lt_zero _), fun j hj => absurd hj (Nat.not_lt_zero _), fun j hj => absurd hj (Nat.not_lt_zero _), fun j hj => absurd hj (Nat.not_lt_zero _), fun j hj => absurd hj (Nat.not_lt_zero _), fun j hj => absurd hj (Nat.not_lt_zero _), fun j hj => absurd hj (Nat.not_lt_zero _)⟩
  · refine ⟨gr, fun _ => ⟨rfl, hlt⟩, fun j hj => ?_, fun j hj => ?_, fun j hj => ?_, fun j hj => (h.ol gr rfl cur[j] (List.getElem_mem hj)).1, fun j hj => (h.ol gr rfl cur[j] (List.getElem_mem hj)).2.1, fun j hj => ok cur[j] (List.getElem_mem hj)⟩
    · rw [Nat.zero_add]; exact h.ro.cellAt _ (flatR_at cur j hj).1
    · rw [Nat.zero_add]; exact h.ro.cellAt _ (flatR_at cur j hj).2.1
    · rw [Nat.zero_add]; exact h.ro.cellAt _ (flatR_at cur j hj).2.2
theorem TwF.usr (h : TwF n s p rs l base W g uc ua uv va vc cur) : UsrC W g n s p (.slice ua rs.length uv) :=
  ⟨(h.us.lt rfl).2, h.us.cellAt 0 rfl, h.us.cellAt 1 rfl, h.us.cellAt 2 rfl, h.us.cellAt 3 rfl⟩
end
/-- two neighbours turned, in memory -/
theorem flatR_put : ∀ (l : List Rl) (m : Nat) (_ : m < l.length) (r : Rl), (((flatR l).set (m * 3) (.string r.name)).set (m * 3 + 1) r.hv).set (m * 3 + 2) r.mv = flatR (l.set m r)
  | r0 :: l, 0, _, r => rfl
  | r0 :: l, m + 1, h, r => by
    have e : ∀ (x : Rl) (y : List Rl), flatR (x :: y) = .string x.name :: x.hv :: x.mv :: flatR y := fun _ _ => rfl
    rw [List.set_cons_succ, e, e, show (m + 1) * 3 = m * 3 + 1 + 1 + 1 by omega, show m * 3 + 1 + 1 + 1 + 1 = (m * 3 + 1) + 1 + 1 + 1 by omega, show m * 3 + 1 + 1 + 1 + 2 = (m * 3 + 2) + 1 + 1 + 1 by omega]
    simp only [List.set_cons_succ]
    rw [flatR_put l m (by simpa using h) r]
theorem TwF.swap {n s p : ByteArray} {rs : List ByteArray} {l : List Rl} {base : Nat} {W : World} {g uc : Nat} {ua : Option Addr} {uv gr vc : Nat} {cur : List Rl} (h : TwF n s p rs l base W g uc ua uv (some ⟨gr, 0, none⟩) vc cur) {j : Nat} (hj : j + 1 < cur.length) :
    TwF n s p rs l base ((((((W.setCell ⟨gr, (j + 1) * 3, none⟩ (.string cur[j].name)).setCell ⟨gr, (j + 1) * 3 + 1, none⟩ cur[j].hv).setCell ⟨gr, (j + 1) * 3 + 2, none⟩ cur[j].mv).setCell ⟨gr, j * 3, none⟩ (.string cur[j + 1].name)).setCell ⟨gr, j * 3 + 1, none⟩ cur[j + 1].hv).setCell ⟨gr, j * 3 + 2, none⟩ cur[j + 1].mv) g uc ua uv (some ⟨gr, 0, none⟩) vc ((cur.set (j + 1) cur[j]).set j cur[j + 1]) := by
  refine h.row (swap_perm cur j hj) ?_ (fun k _ hne => ?_) (by simp [World.setCell])
  · have ho := ((((((h.ro.set (j := (j + 1) * 3) (.string cur[j].name)).set (j := (j + 1) * 3 + 1) cur[j].hv).set (j := (j + 1) * 3 + 2) cur[j].mv).set (j := j * 3) (.string cur[j + 1].name)).set (j := j * 3 + 1) cur[j + 1].hv).set (j := j * 3 + 2) cur[j + 1].mv)
    rw [flatR_put cur (j + 1) hj cur[j], flatR_put (cur.set (j + 1) cur[j]) j (by simp; omega) cur[j + 1]] at ho
    exact ho
  · rw [Below.heap_setCell _ ⟨gr, j * 3 + 2, none⟩ _ k hne, Below.heap_setCell _ ⟨gr, j * 3 + 1, none⟩ _ k hne, Below.heap_setCell _ ⟨gr, j * 3, none⟩ _ k hne, Below.heap_setCell _ ⟨gr, (j + 1) * 3 + 2, none⟩ _ k hne, Below.heap_setCell _ ⟨gr, (j + 1) * 3 + 1, none⟩ _ k hne, Below.heap_setCell _ ⟨gr, (j + 1) * 3, none⟩ _ k hne]
/-- what Twin hands back -/
theorem twF_of {sec n s p : ByteArray} {rs : List ByteArray} {l : List Rl} {w w' : World} {e : Ending} (h : TwinEnd sec n s p rs l w e w') : ∃ (g uc : Nat) (ua : Option Addr) (uv : Nat) (va : Option Addr) (vc : Nat) (cur : List Rl), e = .returned (stV sec (.slice (some ⟨g, 0, none⟩) 1 uc) (.slice va l.length vc)) ∧ Below w.heap.size w w' ∧ TwF n s p rs l w.heap.size w' g uc ua uv va vc cur := by
  obtain ⟨g, uc, ua, uv, va, vc, lm, rfl, hb, hu, hs, hr, hd, hap, hol, hun⟩ := h
  refine ⟨g, uc, ua, uv, va, vc, lm, rfl, hb, hu, hs, hun, hr, by rw [sameD_map.1 hd], fun gr hgr => ⟨by have := (hap gr hgr).1; omega, fun h0 b o he => by have := (hap gr hgr).2 h0 b o he; omega⟩, fun gr hgr r hrm => ?_⟩
  obtain ⟨j, hj, rfl⟩ := List.mem_iff_getElem.1 hrm
  exact hol gr hgr j hj
/-- a first state -/
def NewOk (sec n s p : ByteArray) (rs : List ByteArray) (l : List Rl) (w : World) (e : Ending) (w' : World) : Prop :=
  ∃ (g uc : Nat) (ua : Option Addr) (uv : Nat) (va : Option Addr) (vc gr : Nat) (cur : List Rl), e = .returned (.tuple #[stV sec (.slice (some ⟨g, 0, none⟩) 1 uc) (.slice va l.length vc), .int .i64 0]) ∧ Below w.heap.size w w' ∧
    UsrC w' g n s p (.slice ua rs.length uv) ∧ Strs w'.heap.size w' (.slice ua rs.length uv) rs ∧ RlsC w'.heap.size w' va gr 0 cur ∧ (cur.map datR).Perm (l.map datR) ∧ UpR cur
theorem NewOk.mk {sec n s p : ByteArray} {rs : List ByteArray} {l : List Rl} {w W : World} {g uc : Nat} {ua : Option Addr} {uv : Nat} {va : Option Addr} {vc : Nat} {cur : List Rl} {base : Nat} (h : TwF n s p rs l base W g uc ua uv va vc cur) (hb : Below w.heap.size w W) (hu : UpR cur) (hok : ∀ r ∈ l, r.Ok) :
    NewOk sec n s p rs l w (.returned (.tuple #[stV sec (.slice (some ⟨g, 0, none⟩) 1 uc) (.slice va l.length vc), .int .i64 0])) W := by
  obtain ⟨gr, hr⟩ := h.rls hok
  exact ⟨g, uc, ua, uv, va, vc, gr, cur, rfl, hb, h.usr, h.ur, hr, h.pm, hu⟩
end Go.Proofs.YtinijohmdljieaaGreatDoor

namespace Go.Proofs.YtinijohmdljieaaGreatDoor
open Go.RowKit

structure NwS (n s p : ByteArray) (v : Value) (w W : World) (y : List Value) : Prop where
  p : Own W w.heap.size 25 4 (some ⟨w.heap.size, 0, none⟩) 1 1 [.string n, .string s, .string p, v]
  q : Own W w.heap.size 35 14 (some ⟨w.heap.size + 1, 0, none⟩) 1 1 y
  below : Below w.heap.size w W
section
variable {n s p : ByteArray} {v : Value} {w W W' : World} {y : List Value}
theorem NwS.lt (h : NwS n s p v w W y) : w.heap.size + 1 < W.heap.size := (h.q.lt rfl).2
theorem NwS.kept (h : NwS n s p v w W y) (hb : Below w.heap.size w W') (hk : ∀ k, k < w.heap.size + 2 → W'.heap[k]? = W.heap[k]?) : NwS n s p v w W' y :=
  ⟨h.p.keptB fun g hg => by cases hg; exact hk _ (by omega), h.q.keptB fun g hg => by cases hg; exact hk _ (by omega), hb⟩
theorem NwS.call (h : NwS n s p v w W y) (hb : Below W.heap.size W W') : NwS n s p v w W' y :=
  h.kept (h.below.trans (hb.mono h.below.size)) fun k hk => hb.block k (by have := h.lt; omega)
theorem NwS.setQ (h : NwS n s p v w W y) (j : Nat) (u : Value) : NwS n s p v w (W.setCell ⟨w.heap.size + 1, j, none⟩ u) (y.set j u) :=
  ⟨h.p.setCell (a := ⟨w.heap.size + 1, j, none⟩) (fun g hg => by cases hg; show _ ≠ w.heap.size + 1; omega) u, h.q.set u, h.below.setCell (p := ⟨w.heap.size + 1, j, none⟩) (by show w.heap.size ≤ w.heap.size + 1; omega) u⟩
theorem NwS.allQ {sec : ByteArray} {us ro : Value} (h : NwS n s p v w W (stC sec us ro)) (v0 v1 v2 v3 v4 v5 v6 v7 v8 v9 v10 v11 v12 v13 : Value) : NwS n s p v w ((((((((((((((W.setCell ⟨w.heap.size + 1, 0, none⟩ v0).setCell ⟨w.heap.size + 1, 1, none⟩ v1).setCell ⟨w.heap.size + 1, 2, none⟩ v2).setCell ⟨w.heap.size + 1, 3, none⟩ v3).setCell ⟨w.heap.size + 1, 4, none⟩ v4).setCell ⟨w.heap.size + 1, 5, none⟩ v5).setCell ⟨w.heap.size + 1, 6, none⟩ v6).setCell ⟨w.heap.size + 1, 7, none⟩ v7).setCell ⟨w.heap.size + 1, 8, none⟩ v8).setCell ⟨w.heap.size + 1, 9, none⟩ v9).setCell ⟨w.heap.size + 1, 10, none⟩ v10).setCell ⟨w.heap.size + 1, 11, none⟩ v11).setCell ⟨w.heap.size + 1, 12, none⟩ v12).setCell ⟨w.heap.size + 1, 13, none⟩ v13) [v0, v1, v2, v3, v4, v5, v6, v7, v8, v9, v10, v11, v12, v13] := ((((((((((((((h.setQ 0 v0).setQ 1 v1).setQ 2 v2).setQ 3 v3).setQ 4 v4).setQ 5 v5).setQ 6 v6).setQ 7 v7).setQ 8 v8).setQ 9 v9).setQ 10 v10).setQ 11 v11).setQ 12 v12).setQ 13 v13)
end
theorem NwS.cp {n s p : ByteArray} {v : Value} {w W : World} {y : List Value} (h : NwS n s p v w W y) (j : Nat) (u : Value) (hj : ([.string n, .string s, .string p, v] : List Value)[j]? = some u) : W.cell? ⟨w.heap.size, j, none⟩ = some u := h.p.cellAt j hj
theorem NwS.cq {n s p : ByteArray} {v : Value} {w W : World} {y : List Value} (h : NwS n s p v w W y) (j : Nat) (u : Value) (hj : y[j]? = some u) : W.cell? ⟨w.heap.size + 1, j, none⟩ = some u := h.q.cellAt j hj
theorem NwS.fq {n s p : ByteArray} {v : Value} {w W : World} {y : List Value} (h : NwS n s p v w W y) (j : Nat) : W.frozen? ⟨w.heap.size + 1, j, none⟩ = false := h.q.frozenAt j
theorem NwS.start (n s p : ByteArray) (v : Value) (w : World) : NwS n s p v w ((w.alloc (.cells #[.string n, .string s, .string p, v] 25)).alloc (stO ⟨#[]⟩ (.slice none 0 0) (.slice none 0 0))) (stC ⟨#[]⟩ (.slice none 0 0) (.slice none 0 0)) := by
  have hz : (w.alloc (.cells #[.string n, .string s, .string p, v] 25)).heap.size = w.heap.size + 1 := by simp
  have h2 := ownBox (w.alloc (.cells #[.string n, .string s, .string p, v] 25)) #[.int .i64 0, .string ⟨#[]⟩, .slice none 0 0, .slice none 0 0, .slice none 0 0, .slice none 0 0, .slice none 0 0, .slice none 0 0, .slice none 0 0, .slice none 0 0, .int .i64 0, .int .i64 0, .int .i64 0, .int .i64 0] 35 14 w.heap.size (by omega) rfl
  rw [hz] at h2
  exact ⟨(ownBox w #[.string n, .string s, .string p, v] _ 4 _ (Nat.le_refl _) rfl).alloc _, h2, ((Below.refl _ _).alloc (Nat.le_refl _) _).alloc (by omega) _⟩
theorem TwF.allQ {n s p : ByteArray} {rs : List ByteArray} {l : List Rl} {base : Nat} {w W : World} {g uc : Nat} {ua : Option Addr} {uv : Nat} {va : Option Addr} {vc : Nat} {cur : List Rl} (h : TwF n s p rs l base W g uc ua uv va vc cur) (hb : w.heap.size + 1 < base) (v0 v1 v2 v3 v4 v5 v6 v7 v8 v9 v10 v11 v12 v13 : Value) : TwF n s p rs l base ((((((((((((((W.setCell ⟨w.heap.size + 1, 0, none⟩ v0).setCell ⟨w.heap.size + 1, 1, none⟩ v1).setCell ⟨w.heap.size + 1, 2, none⟩ v2).setCell ⟨w.heap.size + 1, 3, none⟩ v3).setCell ⟨w.heap.size + 1, 4, none⟩ v4).setCell ⟨w.heap.size + 1, 5, none⟩ v5).setCell ⟨w.heap.size + 1, 6, none⟩ v6).setCell ⟨w.heap.size + 1, 7, none⟩ v7).setCell ⟨w.heap.size + 1, 8, none⟩ v8).setCell ⟨w.heap.size + 1, 9, none⟩ v9).setCell ⟨w.heap.size + 1, 10, none⟩ v10).setCell ⟨w.heap.size + 1, 11, none⟩ v11).setCell ⟨w.heap.size + 1, 12, none⟩ v12).setCell ⟨w.heap.size + 1, 13, none⟩ v13) g uc ua uv va vc cur := ((((((((((((((h.far (a := ⟨w.heap.size + 1, 0, none⟩) hb v0).far (a := ⟨w.heap.size + 1, 1, none⟩) hb v1).far (a := ⟨w.heap.size + 1, 2, none⟩) hb v2).far (a := ⟨w.heap.size + 1, 3, none⟩) hb v3).far (a := ⟨w.heap.size + 1, 4, none⟩) hb v4).far (a := ⟨w.heap.size + 1, 5, none⟩) hb v5).far (a := ⟨w.heap.size + 1, 6, none⟩) hb v6).far (a := ⟨w.heap.size + 1, 7, none⟩) hb v7).far (a := ⟨w.heap.size + 1, 8, none⟩) hb v8).far (a := ⟨w.heap.size + 1, 9, none⟩) hb v9).far (a := ⟨w.heap.size + 1, 10, none⟩) hb v10).far (a := ⟨w.heap.size + 1, 11, none⟩) hb v11).far (a := ⟨w.heap.size + 1, 12, none⟩) hb v12).far (a := ⟨w.heap.size + 1, 13, none⟩) hb v13)
theorem ret_new {n s p : ByteArray} {v : Value} {w W : World} {a : Act} {sec : ByteArray} {us ro : Value} {x : Int} {R : Ending → World → Prop} (h : NwS n s p v w W (stC sec us ro)) (hp : a.tmps.getD 6 undef = .pointer (some ⟨w.heap.size + 1, 0, none⟩)) (h7 : a.tmps.getD 7 undef = .int .i64 x) (hd : a.defers = [])
    (hR : R (.returned (.tuple #[stV sec us ro, .int .i64 x])) W) : bodyPost Tryz.prog Tryz.f6 R .ret a W := by
  refine bodyPost_ret ?_ hd hR
  have hp' : a.tmps[6]?.getD undef = .pointer (some ⟨w.heap.size + 1, 0, none⟩) := by simpa using hp
  have h7' : a.tmps[7]?.getD undef = .int .i64 x := by simpa using h7
  simp [results, Tryz.results6, hp', h7', go_sem, h.cq 0 _ rfl, h.cq 1 _ rfl, h.cq 2 _ rfl, h.cq 3 _ rfl, h.cq 4 _ rfl, h.cq 5 _ rfl, h.cq 6 _ rfl, h.cq 7 _ rfl, h.cq 8 _ rfl, h.cq 9 _ rfl, h.cq 10 _ rfl, h.cq 11 _ rfl, h.cq 12 _ rfl, h.cq 13 _ rfl]
theorem ret_new24 {n s p : ByteArray} {v : Value} {w W : World} {a : Act} {sec : ByteArray} {us ro : Value} {x : Int} {R : Ending → World → Prop} (h : NwS n s p v w W (stC sec us ro)) (hp : a.tmps.getD 6 undef = .pointer (some ⟨w.heap.size + 1, 0, none⟩)) (h7 : a.tmps.getD 7 undef = .int .i64 x) (hd : a.defers = [])
    (hR : R (.returned (.tuple #[stV sec us ro, .int .i64 x])) W) : bodyPost Tryz.prog Tryz.f7 R .ret a W := by
  refine bodyPost_ret ?_ hd hR
  have hp' : a.tmps[6]?.getD undef = .pointer (some ⟨w.heap.size + 1, 0, none⟩) := by simpa using hp
  have h7' : a.tmps[7]?.getD undef = .int .i64 x := by simpa using h7
  simp [results, Tryz.results7, hp', h7', go_sem, h.cq 0 _ rfl, h.cq 1 _ rfl, h.cq 2 _ rfl, h.cq 3 _ rfl, h.cq 4 _ rfl, h.cq 5 _ rfl, h.cq 6 _ rfl, h.cq 7 _ rfl, h.cq 8 _ rfl, h.cq 9 _ rfl, h.cq 10 _ rfl, h.cq 11 _ rfl, h.cq 12 _ rfl, h.cq 13 _ rfl]
end Go.Proofs.YtinijohmdljieaaGreatDoor
