/- A reader's own block, and guards in memory. -/
import Derived.Test.YtkmgbkcpjlilpaaDoorGPlain
import Derived.Test.YtkmgbkcpjlilpaaDoorArrOf
namespace Go.Proofs.YtkmgbkcpjlilpaaDoor
open Go.RowKit

/-- all but one block stays -/
structure KeepR (R : Nat) (w w' : World) : Prop where
  os : w'.os = w.os
  tape : w'.tape = w.tape
  output : w'.output = w.output
  size : w.heap.size ≤ w'.heap.size
  block : ∀ k, k < w.heap.size → k ≠ R → w'.heap[k]? = w.heap[k]?
theorem KeepR.refl (R : Nat) (w : World) : KeepR R w w := ⟨rfl, rfl, rfl, Nat.le_refl _, fun _ _ _ => rfl⟩
theorem KeepR.trans {R : Nat} {a b c : World} (h : KeepR R a b) (h2 : KeepR R b c) : KeepR R a c :=
  ⟨h2.os.trans h.os, h2.tape.trans h.tape, h2.output.trans h.output, Nat.le_trans h.size h2.size, fun k hk hR => (h2.block k (Nat.lt_of_lt_of_le hk h.size) hR).trans (h.block k hk hR)⟩
theorem KeepR.of {R : Nat} {w w' : World} (h : Below w.heap.size w w') : KeepR R w w' := ⟨h.os, h.tape, h.output, h.size, fun k hk _ => h.block k hk⟩
theorem KeepR.next {R : Nat} {w w1 w' : World} (h : KeepR R w w1) (hb : Below w1.heap.size w1 w') : KeepR R w w' := h.trans (.of hb)
theorem KeepR.alloc {R : Nat} {w w' : World} (h : KeepR R w w') (o : Obj) : KeepR R w (w'.alloc o) := h.next ((Below.refl _ _).alloc (Nat.le_refl _) o)
theorem KeepR.drew {R : Nat} {w w' : World} (h : KeepR R w w') : KeepR R w w'.drew := h.next (Below.refl _ _).drew
theorem KeepR.setCell {R j : Nat} {w w' : World} (h : KeepR R w w') (v : Value) : KeepR R w (w'.setCell ⟨R, j, none⟩ v) := by
  have hb := (Below.refl 0 w').setCell (p := ⟨R, j, none⟩) (Nat.zero_le _) v
  exact ⟨hb.os.trans h.os, hb.tape.trans h.tape, hb.output.trans h.output, Nat.le_trans h.size hb.size, fun k hk hR => (Below.heap_setCell w' ⟨R, j, none⟩ v k hR).trans (h.block k hk hR)⟩
theorem KeepR.below {R B : Nat} {w w' : World} (h : KeepR R w w') (hB : B ≤ R) (hw : B ≤ w.heap.size) : Below B w w' :=
  ⟨h.os, h.tape, h.output, h.size, fun k hk => h.block k (by omega) (by omega)⟩
theorem Arr.keepR {R g : Nat} {w w' : World} {t : TypeId} {vs : List Value} (h : Arr w g t vs) (hk : KeepR R w w') (hg : g ≠ R) : Arr w' g t vs := ⟨(hk.block g h.lt hg).trans h.heap⟩

theorem KeepR.setNew {R : Nat} {w w' : World} (h : KeepR R w w') {p : Addr} (hp : w.heap.size ≤ p.block) (v : Value) : KeepR R w (w'.setCell p v) := by
  have hb := (Below.refl 0 w').setCell (p := p) (Nat.zero_le _) v
  exact ⟨hb.os.trans h.os, hb.tape.trans h.tape, hb.output.trans h.output, Nat.le_trans h.size hb.size, fun k hk hR => (Below.heap_setCell w' p v k (by omega)).trans (h.block k hk hR)⟩

/-- what a guard's four cells are; its blocks are none of X -/
def GIs (X : Nat → Prop) (w : World) : GT → List Value → Prop
  | .leaf k n s, cs => cs = [.int .u8 k, .int .i64 n, .string s, .slice none 0 0]
  | .one k a, cs => ∃ b da, cs = [.int .u8 k, .int .i64 0, .string ⟨#[]⟩, .slice (some ⟨b, 0, none⟩) 1 1] ∧ ¬ X b ∧ Arr w b 24 da ∧ GIs X w a da
  | .two k a a2, cs => ∃ b da db, cs = [.int .u8 k, .int .i64 0, .string ⟨#[]⟩, .slice (some ⟨b, 0, none⟩) 2 2] ∧ ¬ X b ∧ Arr w b 24 (da ++ db) ∧ GIs X w a da ∧ GIs X w a2 db
theorem GIs.keep {X : Nat → Prop} {w w' : World} (hk : ∀ k, k < w.heap.size → ¬ X k → w'.heap[k]? = w.heap[k]?) : ∀ {t : GT} {cs : List Value}, GIs X w t cs → GIs X w' t cs
  | .leaf .., _, h => h
  | .one .., _, ⟨b, da, h1, h2, h3, h4⟩ => ⟨b, da, h1, h2, ⟨(hk b h3.lt h2).trans h3.heap⟩, h4.keep hk⟩
  | .two .., _, ⟨b, da, db, h1, h2, h3, h4, h5⟩ => ⟨b, da, db, h1, h2, ⟨(hk b h3.lt h2).trans h3.heap⟩, h4.keep hk, h5.keep hk⟩
theorem GIs.keepR {X : Nat → Prop} {R : Nat} {w w' : World} (hX : X R) (hk : KeepR R w w') {t : GT} {cs : List Value} (h : GIs X w t cs) : GIs X w' t cs :=
  h.keep fun k hl hx => hk.block k hl (fun e => hx (e ▸ hX))
theorem GIs.below {X : Nat → Prop} {w w' : World} (hb : Below w.heap.size w w') {t : GT} {cs : List Value} (h : GIs X w t cs) : GIs X w' t cs := h.keep fun k hl _ => hb.block k hl
theorem GIs.setCell {X : Nat → Prop} {w : World} {p : Addr} (hX : X p.block) (v : Value) {t : GT} {cs : List Value} (h : GIs X w t cs) : GIs X (w.setCell p v) t cs :=
  h.keep fun k _ hx => Below.heap_setCell w p v k (fun e => hx (e ▸ hX))
/-- fewer blocks left out; and those to come -/
theorem GIs.mono {X Y : Nat → Prop} {w : World} (hXY : ∀ k, k < w.heap.size → Y k → X k) : ∀ {t : GT} {cs : List Value}, GIs X w t cs → GIs Y w t cs
  | .leaf .., _, h => h
  | .one .., _, ⟨b, da, h1, h2, h3, h4⟩ => ⟨b, da, h1, fun hy => h2 (hXY b h3.lt hy), h3, h4.mono hXY⟩
  | .two .., _, ⟨b, da, db, h1, h2, h3, h4, h5⟩ => ⟨b, da, db, h1, fun hy => h2 (hXY b h3.lt hy), h3, h4.mono hXY, h5.mono hXY⟩
/-- written out -/
theorem GIs.four {X : Nat → Prop} {w : World} : ∀ {t : GT} {cs : List Value}, GIs X w t cs → ∃ (k : Nat) (n : Int) (s : ByteArray) (a : Option Addr) (l c : Nat), cs = [.int .u8 k, .int .i64 n, .string s, .slice a l c]
  | .leaf k n s, _, h => ⟨k, n, s, none, 0, 0, h⟩
  | .one k _, _, ⟨_, _, h1, _⟩ => ⟨k, 0, ⟨#[]⟩, _, 1, 1, h1⟩
  | .two k _ _, _, ⟨_, _, _, h1, _⟩ => ⟨k, 0, ⟨#[]⟩, _, 2, 2, h1⟩
/-- the reader's block -/
def RdIs (R : Nat) (w : World) (s : ByteArray) (st : GSt) : Prop := Arr w R 42 [.string s, .int .i64 (st.i : Int), .int .i64 (st.pos : Int), .string st.now]
end Go.Proofs.YtkmgbkcpjlilpaaDoor
