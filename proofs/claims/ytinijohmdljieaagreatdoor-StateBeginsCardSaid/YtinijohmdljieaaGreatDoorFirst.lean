/- hash.first and hash.steps. -/
import Derived.Test.YtinijohmdljieaaGreatDoorSha
import Derived.Test.YtinijohmdljieaaGreatDoorArrs
namespace Go.Proofs.YtinijohmdljieaaGreatDoor
open Go.RowKit

/-- a composite of constants, whose value is known -/
theorem wpList_build_known {P : Program} {w : World} {ops : Array Oper} {rest : List Oper} {o : Oper} {a : Act} {Q : Exit → Act → World → Prop} (hgd : o.guard = none) (ty : TypeId) (parts : Array (Nat × Operand))
    (ho : o.op = .build ty parts) {v : Value} (hr : ∀ W, (Instr.build ty (parts.map fun (i, x) => (i, a.eval x))).run P W = .ok v W) (h : wpList P ops Q rest (a.put o.dst v) w) : wpList P ops Q (o :: rest) a w :=
  wpList_plain hgd fun K hK => by
    unfold Oper.wp execOp
    simp only [ho, Sem.run_bind, hr, Result.andThen_ok, Sem.run_pure]
    exact hK _ _ h
def hArr : Array Value := (H0.map vw).toArray
theorem first_walk (w : World) : Calls Tryz.prog 191 #[] w fun e w' => e = .returned (.agg hArr) ∧ Below w.heap.size w w' := by
  go_enter Tryz.func191, Tryz.ntmps191
  go_wp2
  exact ret_arr Tryz.results191 rfl rfl (Arr.new w (H0.map vw) 275) Tryz.underlying275 rfl (by kernel_rfl) ⟨rfl, (Below.refl _ _).alloc (Nat.le_refl _) _⟩
def kArr : Array Value := (K64.map vw).toArray
set_option maxHeartbeats 1000000 in
set_option maxRecDepth 100000 in
theorem steps_walk (w : World) : Calls Tryz.prog 192 #[] w fun e w' => e = .returned (.agg kArr) ∧ Below w.heap.size w w' := by
  have hA0 : Arr (w.alloc (.cells (List.replicate 64 (vw 0)).toArray 277)) w.heap.size 277 (List.replicate 64 (vw 0)) := Arr.new w _ _
  have HT : Hid ((w.alloc (.cells (List.replicate 64 (vw 0)).toArray 277)).there w.heap.size 0 kArr.size) := hA0.there (by simp [kArr, K64])
  have HI : Hid ((Tryz.prog.info? 277).map (·.size) = some kArr.size) := by show _ = _; kernel_rfl
  have HO : Hid (kArr.all (·.oneCell') = true) := all_oneCell_toArray (by intro v hv; obtain ⟨x, -, rfl⟩ := List.mem_map.1 hv; rfl)
  have HA := Lib.hid hA0
  have HB : Hid (Below w.heap.size w (w.alloc (.cells (List.replicate 64 (vw 0)).toArray 277))) := (Below.refl _ _).alloc (Nat.le_refl _) _
  clear hA0
  go_enter Tryz.func192, Tryz.ntmps192
  go_wp2_with (first | (refine wpList_build_known (by rfl) 277 _ (by rfl) (v := .agg kArr) (fun W => by kernel_rfl) ?_) | (refine wpList_store_mid (by rfl) 277 _ _ (by rfl) w.heap.size 0 kArr (by rfl) (by rfl) HT.out HI.out HO.out ?_))
  have h1 := HA.out.store (new := kArr.toList) (by simp [kArr, K64])
  have h2 := below_cells (b := w.heap.size) (Nat.le_refl _) kArr.toList 0 HB.out
  go_wp2
  exact ret_arr Tryz.results192 rfl rfl h1 Tryz.underlying277 rfl (by kernel_rfl) ⟨rfl, h2⟩
end Go.Proofs.YtinijohmdljieaaGreatDoor
