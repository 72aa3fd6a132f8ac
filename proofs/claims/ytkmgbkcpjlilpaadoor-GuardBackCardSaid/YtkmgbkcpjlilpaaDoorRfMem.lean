/- docketref17: the reader's block. -/
import Derived.Test.YtkmgbkcpjlilpaaDoorRfLow
import Derived.Test.YtkmgbkcpjlilpaaDoorGDeep
namespace Go.Proofs.YtkmgbkcpjlilpaaDoor
open Go.RowKit

/-- the reference's reader, in a state, or behind a fault -/
def RfIs (R : Nat) (w : World) (s : ByteArray) : Except Nat GSt → Prop
  | .ok st => Arr w R 47 [.string s, .int .i64 (st.i : Int), .int .i64 (st.pos : Int), .string st.now, .bool false, .int .i64 0]
  | .error a => ∃ i p : Nat, Arr w R 47 [.string s, .int .i64 (i : Int), .int .i64 (p : Int), .string ⟨#[]⟩, .bool true, .int .i64 (a : Int)]
theorem RfIs.lt {R : Nat} {w : World} {s : ByteArray} : ∀ {x : Except Nat GSt}, RfIs R w s x → R < w.heap.size
  | .ok _, h => Arr.lt h
  | .error _, ⟨_, _, h⟩ => h.lt
theorem RfIs.below {R : Nat} {w w' : World} {s : ByteArray} (hb : Below w.heap.size w w') : ∀ {x : Except Nat GSt}, RfIs R w s x → RfIs R w' s x
  | .ok _, h => ⟨(hb.block R (Arr.lt h)).trans h.heap⟩
  | .error _, ⟨i, p, h⟩ => ⟨i, p, ⟨(hb.block R h.lt).trans h.heap⟩⟩
theorem rf_cells {R : Nat} {w : World} {t : TypeId} {a b c d e f : Value} (h : Arr w R t [a, b, c, d, e, f]) : w.cell? ⟨R, 0, none⟩ = some a ∧ w.cell? ⟨R, 1, none⟩ = some b ∧ w.cell? ⟨R, 2, none⟩ = some c ∧ w.cell? ⟨R, 3, none⟩ = some d ∧ w.cell? ⟨R, 4, none⟩ = some e ∧ w.cell? ⟨R, 5, none⟩ = some f :=
  ⟨h.cell (j := 0) (by simp), h.cell (j := 1) (by simp), h.cell (j := 2) (by simp), h.cell (j := 3) (by simp), h.cell (j := 4) (by simp), h.cell (j := 5) (by simp)⟩
/-- four cells of a guard's kinds -/
def Four (cs : List Value) : Prop := ∃ (k : Nat) (n : Int) (s : ByteArray) (a : Option Addr) (l c : Nat), cs = [.int .u8 k, .int .i64 n, .string s, .slice a l c]
/-- how a function of the grammar ends -/
def RfEnd (R : Nat) (s : ByteArray) (p : Nat → PR) (st : GSt) (w : World) (e : Ending) (w' : World) : Prop :=
  KeepR R w w' ∧ ∃ fu r, p fu = some r ∧ ∃ cs : List Value, e = .returned (.agg cs.toArray) ∧ match r with
    | .ok (g, st1) => GIs (fun k => k < w.heap.size) w' g cs ∧ RfIs R w' s (.ok st1) ∧ GS s st1 ∧ st.pos ≤ st1.pos
    | .error a => Four cs ∧ RfIs R w' s (.error a)
/-- a function of the grammar, at states that leave less than N -/
def RfSub (R : Nat) (s : ByteArray) (N : Nat) (F : FuncId) (nt : NT) : Prop :=
  ∀ (st : GSt) (w : World), s.size - st.pos < N → GS s st → RfIs R w s (.ok st) → Calls Tryd.prog F #[.pointer (some ⟨R, 0, none⟩)] w (RfEnd R s (fun fu => pars s fu nt st) st w)
/-- a function of the grammar, behind a fault -/
def RfBad (R : Nat) (s : ByteArray) (F : FuncId) : Prop :=
  ∀ (a : Nat) (w : World), RfIs R w s (.error a) → Calls Tryd.prog F #[.pointer (some ⟨R, 0, none⟩)] w fun e w' => KeepR R w w' ∧ ∃ cs : List Value, e = .returned (.agg cs.toArray) ∧ Four cs ∧ RfIs R w' s (.error a)
end Go.Proofs.YtkmgbkcpjlilpaaDoor
