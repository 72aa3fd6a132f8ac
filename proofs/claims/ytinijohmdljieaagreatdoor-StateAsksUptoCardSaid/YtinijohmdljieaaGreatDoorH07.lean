/- Lists whose elements hold no place. A state's data. Boxes, append at a place, cells kept: what all walks over states use. -/
import Derived.Test.YtinijohmdljieaaGreatDoorH06
import Derived.Maps.AppendAt
import Derived.Deep.RegionHeld3
import Derived.Deep.RegionWith
import Derived.Deep.DeepCutAuto
namespace Go.Proofs.YtinijohmdljieaaGreatDoor
open Go.RowKit

/-- a list whose elements hold no place -/
def flatL {α : Type} (k : Nat) (f : α → List Value) (xs : List α) : D := .list k (xs.map fun x => (f x).map D.atom)
structure FlatC {α : Type} (o : Bool) (P : Nat → Prop) (w : World) (k : Nat) (f : α → List Value) (xs : List α) (a : Option Addr) (b off : Nat) : Prop where
  at0 : 0 < xs.length → a = some ⟨b, off, none⟩ ∧ P b ∧ b < w.heap.size
  cell : ∀ j (h : j < xs.length) i u, (f xs[j])[i]? = some u → w.cell? ⟨b, off + j * k + i, none⟩ = some u
  frz : o = true → ∀ j, j < xs.length → ∀ i, i < k → w.frozen? ⟨b, off + j * k + i, none⟩ = false
theorem memL_atoms {o : Bool} {P : Nat → Prop} {w : World} : ∀ {us vs : List Value}, MemL o P w (us.map D.atom) vs → vs = us
  | [], vs, h => h.inv0
  | u :: us, vs, h => by
    obtain ⟨x, xs, rfl, h1, h2⟩ := h.inv
    rw [h1.atomInv, memL_atoms h2]
theorem atoms_memL (o : Bool) (P : Nat → Prop) (w : World) : ∀ us : List Value, MemL o P w (us.map D.atom) us
  | [] => MemL.nil o P w
  | u :: us => MemL.cons (.atom u) (atoms_memL o P w us)
theorem flat_open {α : Type} {o : Bool} {P : Nat → Prop} {w : World} {k : Nat} {f : α → List Value} {xs : List α} {v : Value} (h : Mem o P w (flatL k f xs) v) : ∃ a c b off, v = .slice a xs.length c ∧ xs.length ≤ c ∧ FlatC o P w k f xs a b off := by
  obtain ⟨a, c, b, off, vs, rfl, hle, hC⟩ := h.listInv
  rw [List.length_map] at hle ⊢
  have hl : vs.length = xs.length := by rw [hC.len, List.length_map]
  refine ⟨a, c, b, off, rfl, hle, fun h0 => hC.at0 (by simpa using h0), fun j hj i u hi => ?_, fun hlo j hj i hi => hC.frz hlo j (by omega) i hi⟩
  have hr := hC.row j (by simpa using hj) (by omega)
  rw [List.getElem_map] at hr
  have he := memL_atoms hr
  exact hC.cell j (by omega) i u (by rw [he]; exact hi)
theorem FlatC.grow {α : Type} {o : Bool} {P : Nat → Prop} {w w' : World} {k : Nat} {f : α → List Value} {xs : List α} {a : Option Addr} {b off : Nat} (h : FlatC o P w k f xs a b off) (hb : Below w.heap.size w w') : FlatC o P w' k f xs a b off := by
  have hbl : ∀ j, j < xs.length → w'.heap[b]? = w.heap[b]? := fun j hj => hb.block b (h.at0 (by omega)).2.2
  exact ⟨fun h0 => ⟨(h.at0 h0).1, (h.at0 h0).2.1, Nat.lt_of_lt_of_le (h.at0 h0).2.2 hb.size⟩, fun j hj i u hi => by rw [World.cell?_of_block (hbl j hj)]; exact h.cell j hj i u hi, fun hlo j hj i hi => by rw [World.frozen?_of_block (hbl j hj)]; exact h.frz hlo j hj i hi⟩
theorem flat_own {α : Type} {w : World} {base : Nat} {E : TypeId} {k vc : Nat} {va : Option Addr} {f : α → List Value} {xs : List α} (h : Own w base E k va vc xs.length (xs.flatMap f)) (hk : 0 < k) (hf : ∀ x, (f x).length = k) : Mem true (From base) w (flatL k f xs) (.slice va xs.length vc) := by
  have hl : (xs.map fun x => (f x).map D.atom).length = xs.length := List.length_map ..
  have := memOwn (es := xs.map fun x => (f x).map D.atom) (vs := xs.map f) (by rw [hl]; exact h) hk (by simp) (by
    intro v hv
    obtain ⟨x, -, rfl⟩ := List.mem_map.1 hv
    exact hf x) (by
    intro e he
    obtain ⟨x, -, rfl⟩ := List.mem_map.1 he
    rw [List.length_map]; exact hf x) (fun j h1 h2 => by
    rw [List.getElem_map, List.getElem_map]
    exact atoms_memL true (From base) w _)
  rw [hl] at this
  exact this
/-- append(nil, l...) -/
theorem flat_app {Pr : Program} {T E : TypeId} {k bytes : Nat} (hE : Elem Pr T E k bytes) (ty : TypeId) {α : Type} {o : Bool} {P : Nat → Prop} {w : World} {f : α → List Value} {xs : List α} {a : Option Addr} {c : Nat} (h : Mem o P w (flatL k f xs) (.slice a xs.length c)) (hf : ∀ x, (f x).length = k) (h1 : ∀ x, ∀ u ∈ f x, u.oneCell' = true)
    (hl : xs.length ≤ maxLen) (hbytes : xs.length * bytes ≤ 140737488355328) :
    ∃ va vc w', (Builtin.append_ #[T, T] ty #[.slice none 0 0, .slice a xs.length c]).run Pr w = .ok (.slice va xs.length vc) w' ∧ Mem true (From w.heap.size) w' (flatL k f xs) (.slice va xs.length vc) ∧ Below w.heap.size w w' ∧ (∀ b o, va = some ⟨b, o, none⟩ → w.heap.size ≤ b ∧ b < w'.heap.size) := by
  obtain ⟨a', c', b, off, he, -, hC⟩ := flat_open h
  injection he with e1 e2 e3
  subst e1 e3
  have hfl : (xs.flatMap f).length = xs.length * k := by
    rw [List.flatMap_def]
    rw [flat_len (k := k) (xs.map f) (by intro v hv; obtain ⟨x, -, rfl⟩ := List.mem_map.1 hv; exact hf x), List.length_map]
  obtain ⟨va, vc, w', hrun, hO, hg⟩ := Own.app (cells := []) hE ty (Own.nil w w.heap.size E k) (Nat.le_refl _) a xs.length c b off (xs.flatMap f) hfl (fun h0 => (hC.at0 h0).1) (fun j u hj => by
    have hjl := lt_of_some hj
    rw [hfl] at hjl
    have hk0 : 0 < k := hE.pos
    have hq : j / k < xs.length := Nat.div_lt_of_lt_mul (by rw [Nat.mul_comm]; exact hjl)
    have hr : j % k < k := Nat.mod_lt _ hk0
    have hjk : j / k * k + j % k = j := by rw [Nat.mul_comm]; exact Nat.div_add_mod j k
    have := flat_at (k := k) (xs.map f) (by intro v hv; obtain ⟨x, -, rfl⟩ := List.mem_map.1 hv; exact hf x) (j / k) (j % k) (by simpa using hq) hr
    rw [hjk, ← List.flatMap_def, hj, List.getElem_map] at this
    have hc := hC.cell (j / k) hq (j % k) u this.symm
    rw [Nat.add_assoc, hjk] at hc
    exact hc) (fun u hu => by
    obtain ⟨x, -, hx⟩ := List.mem_flatMap.1 hu
    exact h1 x u hx) (by omega) (by rw [Nat.zero_add]; exact hbytes)
  rw [Nat.zero_add] at hrun hO
  rw [List.nil_append] at hO
  exact ⟨va, vc, w', hrun, flat_own hO hE.pos hf, (Below.refl _ _).grown hg (Nat.le_refl _) (fun k hk => by cases hk), fun b o he => by
    rcases hO.block with ⟨h1, _⟩ | ⟨g, h1, h2, h3, _⟩
    · rw [h1] at he; cases he
    · rw [h1] at he; cases he; exact ⟨h2, h3⟩⟩
/-- texts -/
def strD (rs : List ByteArray) : D := flatL 1 (fun s => [Value.string s]) rs
theorem strD_strs {o : Bool} {P : Nat → Prop} {w : World} {v : Value} {rs : List ByteArray} (h : Mem o P w (strD rs) v) : Strs w.heap.size w v rs := by
  obtain ⟨a, c, b, off, rfl, hle, hC⟩ := flat_open h
  refine ⟨a, c, b, off, rfl, hle, fun h0 => ⟨(hC.at0 h0).1, (hC.at0 h0).2.2⟩, fun j x hj => ?_⟩
  have hjl := lt_of_some hj
  rw [List.getElem?_eq_getElem hjl] at hj
  injection hj with hj
  refine ⟨fun _ => .string x, fun i hi => ?_, rfl⟩
  obtain rfl : i = 0 := by omega
  exact hC.cell j hjl 0 _ (by rw [hj]; rfl)
theorem own_strD {w : World} {base : Nat} {va : Option Addr} {vc : Nat} {rs : List ByteArray} (h : Own w base 9 1 va vc rs.length (rs.map Value.string)) : Mem true (From base) w (strD rs) (.slice va rs.length vc) :=
  flat_own (f := fun s => [Value.string s]) (by rw [← List.map_eq_flatMap]; exact h) (by omega) (fun _ => rfl)
end Go.Proofs.YtinijohmdljieaaGreatDoor

namespace Go.Proofs.YtinijohmdljieaaGreatDoor
open Go.RowKit

structure UserD where
  n : ByteArray
  s : ByteArray
  p : ByteArray
  rs : List ByteArray
def UserD.ds (u : UserD) : List D := [.atom (.string u.n), .atom (.string u.s), .atom (.string u.p), strD u.rs]
structure RoleD where
  name : ByteArray
  holds : List ByteArray
  may : List ByteArray
def RoleD.ds (r : RoleD) : List D := [.atom (.string r.name), strD r.holds, strD r.may]
structure SentryD where
  on : Int
  name : ByteArray
  cond : ByteArray
def SentryD.cs (s : SentryD) : List Value := [.int .u8 s.on, .string s.name, .string s.cond]
def senD (l : List SentryD) : D := flatL 3 SentryD.cs l
structure StageD where
  name : ByteArray
  inn : Int
  opens : List SentryD
  closes : List SentryD
  role : ByteArray
  aft : Int
  event : ByteArray
def StageD.ds (s : StageD) : List D := [.atom (.string s.name), .atom (.int .i64 s.inn), senD s.opens, senD s.closes, .atom (.string s.role), .atom (.int .i64 s.aft), .atom (.string s.event)]
structure StoneD where
  name : ByteArray
  done : List SentryD
  undo : List SentryD
def StoneD.ds (s : StoneD) : List D := [.atom (.string s.name), senD s.done, senD s.undo]
structure AttrD where
  name : ByteArray
  kind : Int
def AttrD.cs (a : AttrD) : List Value := [.string a.name, .int .u8 a.kind]
def pairC (p : ByteArray × ByteArray) : List Value := [.string p.1, .string p.2]
structure ModelD where
  name : ByteArray
  attrs : List AttrD
  events : List ByteArray
  stages : List StageD
  stones : List StoneD
  apart : List (ByteArray × ByteArray)
def ModelD.ds (m : ModelD) : List D := [.atom (.string m.name), flatL 2 AttrD.cs m.attrs, strD m.events, .list 7 (m.stages.map StageD.ds), .list 3 (m.stones.map StoneD.ds), flatL 2 pairC m.apart]
structure VerD where
  m : ModelD
  v : Int
def VerD.ds (v : VerD) : List D := [.atom (.string v.m.name), flatL 2 AttrD.cs v.m.attrs, strD v.m.events, .list 7 (v.m.stages.map StageD.ds), .list 3 (v.m.stones.map StoneD.ds), flatL 2 pairC v.m.apart, .atom (.int .i64 v.v)]
/-- a value of package json: its cells -/
inductive IsJson : List D → Prop where
  | mk (k : Int) (b : Bool) (i : Int) (t : ByteArray) (names : List ByteArray) (es : List (List D)) (hn : names.length ≤ 1048576) (he : es.length ≤ 1048576) (h : ∀ e ∈ es, IsJson e) : IsJson [.atom (.int .u8 k), .atom (.bool b), .atom (.int .i64 i), .atom (.string t), strD names, .list 6 es]
def boolC (b : Bool) : List Value := [.bool b]
structure CaseD where
  id : Int
  model : ByteArray
  version : Int
  values : List (List D)
  opn : List Bool
  done : List Bool
  acted : List (ByteArray × ByteArray)
def CaseD.ds (c : CaseD) : List D := [.atom (.int .i64 c.id), .atom (.string c.model), .atom (.int .i64 c.version), .list 6 c.values, flatL 1 boolC c.opn, flatL 1 boolC c.done, flatL 2 pairC c.acted]
structure TimerD where
  at_ : Int
  seq : Int
  cas : Int
  stage : ByteArray
  event : ByteArray
def TimerD.cs (t : TimerD) : List Value := [.int .i64 t.at_, .int .i64 t.seq, .int .i64 t.cas, .string t.stage, .string t.event]
structure WorkD where
  id : Int
  cas : Int
  stage : ByteArray
  role : ByteArray
  state : Int
  owner : ByteArray
def WorkD.cs (t : WorkD) : List Value := [.int .i64 t.id, .int .i64 t.cas, .string t.stage, .string t.role, .int .u8 t.state, .string t.owner]
structure RecD where
  seq : Int
  at_ : Int
  user : ByteArray
  deed : ByteArray
  outcome : Int
  hash : ByteArray
def RecD.cs (t : RecD) : List Value := [.int .i64 t.seq, .int .i64 t.at_, .string t.user, .string t.deed, .int .i64 t.outcome, .string t.hash]
structure SessD where
  id : Int
  user : ByteArray
  till : Int
def SessD.cs (t : SessD) : List Value := [.int .i64 t.id, .string t.user, .int .i64 t.till]
structure StateD where
  clock : Int
  secret : ByteArray
  users : List UserD
  roles : List RoleD
  models : List VerD
  cases : List CaseD
  timers : List TimerD
  works : List WorkD
  audit : List RecD
  sess : List SessD
  nc : Int
  nw : Int
  np : Int
  nt : Int
def StateD.ds (s : StateD) : List D := [.atom (.int .i64 s.clock), .atom (.string s.secret), .list 4 (s.users.map UserD.ds), .list 3 (s.roles.map RoleD.ds), .list 7 (s.models.map VerD.ds), .list 7 (s.cases.map CaseD.ds),
  flatL 5 TimerD.cs s.timers, flatL 6 WorkD.cs s.works, flatL 6 RecD.cs s.audit, flatL 3 SessD.cs s.sess, .atom (.int .i64 s.nc), .atom (.int .i64 s.nw), .atom (.int .i64 s.np), .atom (.int .i64 s.nt)]
/-- a list of records: its places and cells -/
structure RecC {α : Type} (o : Bool) (P : Nat → Prop) (w : World) (k : Nat) (f : α → List D) (xs : List α) (a : Option Addr) (b off : Nat) : Prop where
  at0 : 0 < xs.length → a = some ⟨b, off, none⟩ ∧ P b ∧ b < w.heap.size
  row : ∀ j (h : j < xs.length), ∃ us, MemL o P w (f xs[j]) us ∧ ∀ i u, us[i]? = some u → w.cell? ⟨b, off + j * k + i, none⟩ = some u
  frz : o = true → ∀ j, j < xs.length → ∀ i, i < k → w.frozen? ⟨b, off + j * k + i, none⟩ = false
theorem rec_open {α : Type} {o : Bool} {P : Nat → Prop} {w : World} {k : Nat} {f : α → List D} {xs : List α} {v : Value} (h : Mem o P w (.list k (xs.map f)) v) : ∃ a c b off, v = .slice a xs.length c ∧ xs.length ≤ c ∧ RecC o P w k f xs a b off := by
  obtain ⟨a, c, b, off, vs, rfl, hle, hC⟩ := h.listInv
  rw [List.length_map] at hle ⊢
  have hl : vs.length = xs.length := by rw [hC.len, List.length_map]
  refine ⟨a, c, b, off, rfl, hle, fun h0 => hC.at0 (by simpa using h0), fun j hj => ⟨vs[j]'(by omega), ?_, fun i u hi => hC.cell j (by omega) i u hi⟩, fun hlo j hj i hi => hC.frz hlo j (by omega) i hi⟩
  have hr := hC.row j (by simpa using hj) (by omega)
  rw [List.getElem_map] at hr
  exact hr
theorem RecC.grow {α : Type} {o : Bool} {P : Nat → Prop} {w w' : World} {k : Nat} {f : α → List D} {xs : List α} {a : Option Addr} {b off : Nat} (h : RecC o P w k f xs a b off) (hb : Below w.heap.size w w') : RecC o P w' k f xs a b off := by
  have hbl : ∀ j, j < xs.length → w'.heap[b]? = w.heap[b]? := fun j hj => hb.block b (h.at0 (by omega)).2.2
  refine ⟨fun h0 => ⟨(h.at0 h0).1, (h.at0 h0).2.1, Nat.lt_of_lt_of_le (h.at0 h0).2.2 hb.size⟩, fun j hj => ?_, fun hlo j hj i hi => by rw [World.frozen?_of_block (hbl j hj)]; exact h.frz hlo j hj i hi⟩
  obtain ⟨us, h1, h2⟩ := h.row j hj
  exact ⟨us, h1.grow hb, fun i u hi => by rw [World.cell?_of_block (hbl j hj)]; exact h2 i u hi⟩
/-- the cells of a stage, a stone, a user, a role -/
theorem UserD.cells {o : Bool} {P : Nat → Prop} {w : World} {u : UserD} {us : List Value} (h : MemL o P w u.ds us) : ∃ a c, us = [.string u.n, .string u.s, .string u.p, .slice a u.rs.length c] ∧ Mem o P w (strD u.rs) (.slice a u.rs.length c) := by
  obtain ⟨x0, y0, rfl, h0, h⟩ := MemL.inv h
  obtain ⟨x1, y1, rfl, h1, h⟩ := h.inv
  obtain ⟨x2, y2, rfl, h2, h⟩ := h.inv
  obtain ⟨x3, y3, rfl, h3, h⟩ := h.inv
  obtain rfl := h.inv0
  obtain ⟨a, c, _, _, rfl, -, -⟩ := flat_open h3
  exact ⟨a, c, by rw [h0.atomInv, h1.atomInv, h2.atomInv], h3⟩
theorem RoleD.cells {o : Bool} {P : Nat → Prop} {w : World} {r : RoleD} {us : List Value} (h : MemL o P w r.ds us) : ∃ a c a2 c2, us = [.string r.name, .slice a r.holds.length c, .slice a2 r.may.length c2] ∧ Mem o P w (strD r.holds) (.slice a r.holds.length c) ∧ Mem o P w (strD r.may) (.slice a2 r.may.length c2) := by
  obtain ⟨x0, y0, rfl, h0, h⟩ := MemL.inv h
  obtain ⟨x1, y1, rfl, h1, h⟩ := h.inv
  obtain ⟨x2, y2, rfl, h2, h⟩ := h.inv
  obtain rfl := h.inv0
  obtain ⟨a, c, _, _, rfl, -, -⟩ := flat_open h1
  obtain ⟨a2, c2, _, _, rfl, -, -⟩ := flat_open h2
  exact ⟨a, c, a2, c2, by rw [h0.atomInv], h1, h2⟩
theorem StageD.cells {o : Bool} {P : Nat → Prop} {w : World} {s : StageD} {us : List Value} (h : MemL o P w s.ds us) : ∃ a c a2 c2, us = [.string s.name, .int .i64 s.inn, .slice a s.opens.length c, .slice a2 s.closes.length c2, .string s.role, .int .i64 s.aft, .string s.event] ∧ Mem o P w (senD s.opens) (.slice a s.opens.length c) ∧ Mem o P w (senD s.closes) (.slice a2 s.closes.length c2) := by
  obtain ⟨x0, y0, rfl, h0, h⟩ := MemL.inv h
  obtain ⟨x1, y1, rfl, h1, h⟩ := h.inv
  obtain ⟨x2, y2, rfl, h2, h⟩ := h.inv
  obtain ⟨x3, y3, rfl, h3, h⟩ := h.inv
  obtain ⟨x4, y4, rfl, h4, h⟩ := h.inv
  obtain ⟨x5, y5, rfl, h5, h⟩ := h.inv
  obtain ⟨x6, y6, rfl, h6, h⟩ := h.inv
  obtain rfl := h.inv0
  obtain ⟨a, c, _, _, rfl, -, -⟩ := flat_open h2
  obtain ⟨a2, c2, _, _, rfl, -, -⟩ := flat_open h3
  exact ⟨a, c, a2, c2, by rw [h0.atomInv, h1.atomInv, h4.atomInv, h5.atomInv, h6.atomInv], h2, h3⟩
theorem StoneD.cells {o : Bool} {P : Nat → Prop} {w : World} {s : StoneD} {us : List Value} (h : MemL o P w s.ds us) : ∃ a c a2 c2, us = [.string s.name, .slice a s.done.length c, .slice a2 s.undo.length c2] ∧ Mem o P w (senD s.done) (.slice a s.done.length c) ∧ Mem o P w (senD s.undo) (.slice a2 s.undo.length c2) := by
  obtain ⟨x0, y0, rfl, h0, h⟩ := MemL.inv h
  obtain ⟨x1, y1, rfl, h1, h⟩ := h.inv
  obtain ⟨x2, y2, rfl, h2, h⟩ := h.inv
  obtain rfl := h.inv0
  obtain ⟨a, c, _, _, rfl, -, -⟩ := flat_open h1
  obtain ⟨a2, c2, _, _, rfl, -, -⟩ := flat_open h2
  exact ⟨a, c, a2, c2, by rw [h0.atomInv], h1, h2⟩
/-- a model's six slices -/
structure ModelV where
  a1 : Option Addr
  c1 : Nat
  a2 : Option Addr
  c2 : Nat
  a3 : Option Addr
  c3 : Nat
  a4 : Option Addr
  c4 : Nat
  a5 : Option Addr
  c5 : Nat
abbrev ModelV.cs (v : ModelV) (m : ModelD) : List Value := [.string m.name, .slice v.a1 m.attrs.length v.c1, .slice v.a2 m.events.length v.c2, .slice v.a3 m.stages.length v.c3, .slice v.a4 m.stones.length v.c4, .slice v.a5 m.apart.length v.c5]
structure ModelM (o : Bool) (P : Nat → Prop) (w : World) (m : ModelD) (v : ModelV) : Prop where
  attrs : Mem o P w (flatL 2 AttrD.cs m.attrs) (.slice v.a1 m.attrs.length v.c1)
  events : Mem o P w (strD m.events) (.slice v.a2 m.events.length v.c2)
  stages : Mem o P w (.list 7 (m.stages.map StageD.ds)) (.slice v.a3 m.stages.length v.c3)
  stones : Mem o P w (.list 3 (m.stones.map StoneD.ds)) (.slice v.a4 m.stones.length v.c4)
  apart : Mem o P w (flatL 2 pairC m.apart) (.slice v.a5 m.apart.length v.c5)
theorem VerD.cells {o : Bool} {P : Nat → Prop} {w : World} {r : VerD} {us : List Value} (h : MemL o P w r.ds us) : ∃ v : ModelV, us = v.cs r.m ++ [.int .i64 r.v] ∧ ModelM o P w r.m v := by
  obtain ⟨x0, y0, rfl, h0, h⟩ := MemL.inv h
  obtain ⟨x1, y1, rfl, h1, h⟩ := h.inv
  obtain ⟨x2, y2, rfl, h2, h⟩ := h.inv
  obtain ⟨x3, y3, rfl, h3, h⟩ := h.inv
  obtain ⟨x4, y4, rfl, h4, h⟩ := h.inv
  obtain ⟨x5, y5, rfl, h5, h⟩ := h.inv
  obtain ⟨x6, y6, rfl, h6, h⟩ := h.inv
  obtain rfl := h.inv0
  obtain ⟨a1, c1, _, _, rfl, -, -⟩ := flat_open h1
  obtain ⟨a2, c2, _, _, rfl, -, -⟩ := flat_open h2
  obtain ⟨a3, c3, _, _, rfl, -, -⟩ := rec_open h3
  obtain ⟨a4, c4, _, _, rfl, -, -⟩ := rec_open h4
  obtain ⟨a5, c5, _, _, rfl, -, -⟩ := flat_open h5
  exact ⟨⟨a1, c1, a2, c2, a3, c3, a4, c4, a5, c5⟩, by rw [h0.atomInv, h6.atomInv]; rfl, h1, h2, h3, h4, h5⟩
end Go.Proofs.YtinijohmdljieaaGreatDoor

namespace Go.Proofs.YtinijohmdljieaaGreatDoor
open Go.RowKit

def stC (sec : ByteArray) (us rs : Value) : List Value := [.int .i64 0, .string sec, us, rs, .slice none 0 0, .slice none 0 0, .slice none 0 0, .slice none 0 0, .slice none 0 0, .slice none 0 0, .int .i64 0, .int .i64 0, .int .i64 0, .int .i64 0]
theorem elemRole : Elem Tryz.prog 22 81 3 64 := ⟨Tryz.underlying22, ⟨.agg #[.string ⟨#[]⟩, .slice none 0 0, .slice none 0 0], by kernel_rfl, rfl⟩, by omega, Tryz.sizeOf81⟩
theorem elemUser : Elem Tryz.prog 27 25 4 72 := ⟨Tryz.underlying27, ⟨.agg #[.string ⟨#[]⟩, .string ⟨#[]⟩, .string ⟨#[]⟩, .slice none 0 0], by kernel_rfl, rfl⟩, by omega, Tryz.sizeOf25⟩
theorem cellBelow2 {w w' : World} (hb : Below w.heap.size w w') {a : Addr} {v : Value} (hc : w.cell? a = some v) : w'.cell? a = some v := (hb.cell (World.block_lt_of_cell? w a hc)).trans hc
theorem ownBox (w : World) (cur : Array Value) (E k base : Nat) (hb : base ≤ w.heap.size) (hs : cur.size = k) : Own (w.alloc (.cells cur E)) base E k (some ⟨w.heap.size, 0, none⟩) 1 1 cur.toList :=
  ⟨⟨by simp [hs], .inr ⟨w.heap.size, 1, cur, rfl, hb, heap_alloc_new w _, Nat.le_refl _, by unfold maxLen; omega, by omega, by rw [List.take_of_length_le (by simp [hs])]⟩⟩⟩
theorem Own.appAt {P : Program} {T E : TypeId} {k bytes : Nat} {w : World} {base vc n : Nat} {va : Option Addr} {cells : List Value} (hE : Elem P T E k bytes) (ty : TypeId) (h : Own w base E k va vc n cells) (hbase : base ≤ w.heap.size)
    (b off c : Nat) (news : List Value) (hl : news.length = k) (hnews : ∀ j u, news[j]? = some u → w.cell? ⟨b, off + j, none⟩ = some u) (h1 : ∀ u ∈ news, u.oneCell' = true)
    (h63 : n + 1 ≤ maxLen) (hbytes : (n + 1) * bytes ≤ 140737488355328) :
    ∃ g' vc' w', (Builtin.append_ #[T, T] ty #[.slice va n vc, .slice (some ⟨b, off, none⟩) 1 c]).run P w = .ok (.slice (some ⟨g', 0, none⟩) (n + 1) vc') w' ∧ Own w' base E k (some ⟨g', 0, none⟩) vc' (n + 1) (cells ++ news) ∧ w.grownBy w' (blockOf va) ∧ (va = some ⟨g', 0, none⟩ ∨ g' = w.heap.size) := by
  obtain ⟨z, hz, hzs⟩ := hE.info
  obtain ⟨i, hi, hz0, hz1, hz2⟩ := info_parts hz
  obtain ⟨v', w', hrun, hown, hg, -, hat⟩ := Go.run_append_own_at (P := P) (w := w) base T ty E i z k bytes hE.sl hi hz0 hz1 hz2 hzs hE.pos (.slice va n vc) n cells h.row ⟨b, off, none⟩ 1 c news (by rw [hl, Nat.one_mul]) (fun j u hj => by rw [Addr.add_lit]; exact hnews j u hj) h1 h63 hbytes hbase
  have hv : ∃ g' vc', v' = .slice (some ⟨g', 0, none⟩) (n + 1) vc' := by
    rcases hown.2 with ⟨_, h0⟩ | ⟨g, cap, _, hv, _⟩
    · omega
    · exact ⟨_, _, hv⟩
  obtain ⟨g', vc', rfl⟩ := hv
  refine ⟨g', vc', w', hrun, ⟨hown⟩, ?_, ?_⟩
  · cases va <;> exact hg
  · rcases hat with h2 | h2
    · left
      rcases h.block with ⟨rfl, _⟩ | ⟨g, rfl, _⟩
      · simp [Value.ownBlock] at h2
      · simp [Value.ownBlock] at h2
        rw [h2]
    · right
      simpa [Value.ownBlock] using h2
theorem Own.cellAt {w : World} {base : Nat} {E : TypeId} {k g vc n : Nat} {cells : List Value} (h : Own w base E k (some ⟨g, 0, none⟩) vc n cells) (j : Nat) {v : Value} (hj : cells[j]? = some v) : w.cell? ⟨g, j, none⟩ = some v := by
  have hpos : 0 < n * k := by
    rw [← h.length]
    rcases Nat.lt_or_ge j cells.length with h | h
    · omega
    · rw [List.getElem?_eq_none h] at hj; cases hj
  obtain ⟨g', he, -, -, hc, -⟩ := h.cell hpos
  cases he
  exact hc j v hj
theorem Own.frozenAt {w : World} {base : Nat} {E : TypeId} {k g vc n : Nat} {cells : List Value} (h : Own w base E k (some ⟨g, 0, none⟩) vc n cells) (j : Nat) : w.frozen? ⟨g, j, none⟩ = false := by
  rcases h.block with ⟨h1, _⟩ | ⟨g', he, -, -, cur, hcur, -⟩
  · cases h1
  · cases he
    simp [World.frozen?, hcur]
end Go.Proofs.YtinijohmdljieaaGreatDoor
