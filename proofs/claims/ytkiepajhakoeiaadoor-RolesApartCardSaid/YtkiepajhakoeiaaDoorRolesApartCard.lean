/- Proved: for every input docketlaw20.RolesApart returns true (its card). No conditions. -/
import Derived.Test.YtkiepajhakoeiaaDoorRolesWorld
import Derived.Test.YtkiepajhakoeiaaDoorRolesApart
namespace Go.Proofs.YtkiepajhakoeiaaDoor
open Go.ChangeShapes Go.WideShapes Go.ChangeAt Go.RowKit
open Go.ChangeMaps (open_string)

set_option maxHeartbeats 2000000 in
/-- the law's walk -/
theorem rolesApart_walk (v1 v2 : Value) (ap ac : List (ByteArray × ByteArray)) (user role : ByteArray) (w : World) (hr : role.size ≤ maxLen)
    (hap : ap.length ≤ maxLen) (hac : ac.length ≤ maxLen) (h1 : Str2s w.heap.size w v1 ap) (h2 : Str2s w.heap.size w v2 ac) :
    Calls Tryd.prog 3 #[v1, v2, .string user, .string role] w fun e w' => e = .returned (.bool true) ∧ Below w.heap.size w w' := by
  obtain ⟨a1, c1, b1, o1, rfl, -, -, -⟩ := h1.cells
  obtain ⟨a2, c2, b2, o2, rfl, -, -, -⟩ := h2.cells
  have cA := roles_Apart _ _ ap ac user role w hr hap hac h1 h2
  have cB := fun W (hb : Below w.heap.size w W) => refApart w.heap.size _ _ ap ac user role W hr hap hac (h1.below hb) (h2.below hb)
  unfold maxLen at hap hac
  clear h1 h2
  generalize (apartE ap ac role == 0 && apart ap ac user role) = r at *
  generalize apartE ap ac role = x at *
  by_cases hb1 : 40 < ap.length
  · have g : decide (40 < (ap.length : Int)) = true := decide_eq_true (by omega)
    clear cA cB
    go_enter Tryd.func3, Tryd.ntmps3
    go_wp2_with fail
    go_ret
    exact ⟨rfl, Below.refl _ _⟩
  have g : decide (40 < (ap.length : Int)) = false := decide_eq_false (by omega)
  by_cases hb2 : 1100 < ac.length
  · have g : decide (1100 < (ac.length : Int)) = true := decide_eq_true (by omega)
    clear cA cB
    go_enter Tryd.func3, Tryd.ntmps3
    go_wp2_with fail
    go_ret
    exact ⟨rfl, Below.refl _ _⟩
  have g2 : decide (1100 < (ac.length : Int)) = false := decide_eq_false (by omega)
  go_enter Tryd.func3, Tryd.ntmps3
  go_wp2_with fail
  refine cA.mono ?_
  rintro e w1 ⟨rfl, hb⟩
  go_wp2_with fail
  refine (cB _ hb).mono ?_
  rintro e w2 ⟨rfl, hb'⟩
  go_wp2_with fail
  go_ret
  exact ⟨rfl, hb.trans (hb'.mono hb.size)⟩

set_option maxRecDepth 100000 in
set_option maxHeartbeats 1000000 in
theorem contract (H : Type) (enc : TypeId × Value → H) (W : World) (base : Nat) (args : Array Value) (ds gs : List (DataW H)) (before : List MemPlace)
    (hval : ∀ (j : Nat) t v, Tryd.f3.params[j]? = some t → args[j]? = some v → Value.okWide Tryd.prog W .any base t v)
    (hW : DataW.Whole enc Tryd.prog Tryd.f3.params.toList Rows.rolesApartSpec.vars false W args.toList ds gs before) :
    Calls Tryd.prog 3 args W fun e W' => ∃ v, e = .returned v ∧ Rows.rolesApartSpec.post enc Tryd.prog Tryd.f3 false true false false W args v W' := by
  have hW' := hW
  obtain ⟨p, q, hA0, hV, rfl, hfz, hnd⟩ := hW
  have hA : DataW.TrodAll enc Tryd.prog W 0 (fun _ => true) true Tryd.f3.params.toList args.toList ds p := hA0
  obtain ⟨rfl, rfl⟩ := trodVars_none hV
  have hlt : ∀ x ∈ p, x.block < W.heap.size := fun x hx => by simpa using hW'.lt x (by simp [hx])
  have hAk := hA
  rw [Tryd.params3] at hA hval
  obtain ⟨v0, vs0, d0, ds0, p0, q0, hargs, rfl, rfl, h0, r0⟩ := trodAll_cons hA
  obtain ⟨v1, vs1, d1, ds1, p1, q1, rfl, rfl, rfl, h1, r1⟩ := trodAll_cons r0
  obtain ⟨v2, vs2, d2, ds2, p2, q2, rfl, rfl, rfl, h2, r2⟩ := trodAll_cons r1
  obtain ⟨v3, vs3, d3, ds3, p3, q3, rfl, rfl, rfl, h3, r3⟩ := trodAll_cons r2
  obtain ⟨rfl, rfl, rfl⟩ := trodAll_nil r3
  obtain rfl : args = #[v0, v1, v2, v3] := Array.ext' hargs
  obtain ⟨user, rfl, rfl, rfl, hu⟩ := open_string Tryd.underlying9 (hval 2 9 v2 rfl rfl) h2
  obtain ⟨role, rfl, rfl, rfl, hr⟩ := open_string Tryd.underlying9 (hval 3 9 v3 rfl rfl) h3
  obtain ⟨a0, n0, c0, rfl⟩ := okWide_slice Tryd.underlying22 (hval 0 22 v0 rfl rfl)
  obtain ⟨a1, n1, c1, rfl⟩ := okWide_slice Tryd.underlying23 (hval 1 23 v1 rfl rfl)
  obtain ⟨f0, g0⟩ := h0
  obtain ⟨f1, g1⟩ := h1
  obtain ⟨ap, s0, l0⟩ := openRow (k := 2) Tryd.underlying22 (by kernel_rfl) (by omega) (elArr2 Tryd.underlying49 Tryd.underlying9 (by kernel_rfl)) g0
  obtain ⟨ac, s1, l1⟩ := openRow (k := 2) Tryd.underlying23 (by kernel_rfl) (by omega) (elStr2 Tryd.underlying51 rfl rfl Tryd.underlying9 Tryd.underlying9 (by kernel_rfl) (by kernel_rfl)) g1
  refine (rolesApart_walk _ _ ap ac user role W hr l0 l1 s0 s1).mono fun e W' ⟨he, hb⟩ => ?_
  subst he
  exact ⟨_, rfl, _, _, _, [], _, [], hW', trodAll_mk1 (shut_bool Tryd.underlying4 _), argsStay laidOut hb _ _ _ _ (by kernel_rfl) hAk hlt, rfl, hb.frame _, fun h => by cases h⟩

theorem laid_met (os : Os) (args : Array Value) : laidMet Tryd.prog Rows.rolesApartRow.laid ((laidWorld os).forCall (fun _ _ => 0) ⟨#[], args, []⟩).memory :=
  laidMet_of_run' 8 (by kernel_rfl) (by kernel_rfl)
theorem reads (os : Os) {H : Type} (enc : TypeId × Value → H) : ∃ places, DataW.whole enc Tryd.prog ((laidWorld os).forCall (fun _ _ => 0) ⟨#[], #[.slice none 0 0, .slice none 0 0, .string ⟨#[]⟩, .string ⟨#[]⟩], []⟩).memory Tryd.f3.params.toList Rows.rolesApartSpec.vars false #[Value.slice none 0 0, Value.slice none 0 0, .string ⟨#[]⟩, .string ⟨#[]⟩].toList 8 = some ([.nil, .nil, .lit (.string []), .lit (.string [])], [], places) :=
  ⟨[], by kernel_rfl⟩

set_option maxRecDepth 100000 in
theorem lifted (os : Os) (started : os.Started) (H : Type) (enc : TypeId × Value → H) (F : Stop.Interp) :
    ReturnsInHanded {} Tryd.checked os 3 .any ((OpenSpec.ofChange Rows.rolesApartSpec).preRow enc Tryd.prog Tryd.f3 Rows.rolesApartRow.domain false Rows.rolesApartRow.laid) (((OpenSpec.ofChange Rows.rolesApartSpec).at F).post enc Tryd.prog Tryd.f3 false true false false) := by
  obtain ⟨places, hx⟩ := reads os enc
  refine returnsInHanded_of_row (C := Tryd.checked) (s := OpenSpec.ofChange Rows.rolesApartSpec) own started (by kernel_rfl) Tryd.func3
    (witness_row_at (enc := enc) (C := Tryd.checked) false (laidWorld os) #[.slice none 0 0, .slice none 0 0, .string ⟨#[]⟩, .string ⟨#[]⟩] rfl (by kernel_rfl) (by kernel_rfl) (by kernel_rfl)
      (OpenSpec.preRow_of_cond 8 hx (by kernel_rfl) (fun k hk => by cases hk) (by kernel_rfl) (laid_met os _))) ?_
  intro W base args ds gs before hval hW _ _ _ _ _ _
  exact contract H enc W base args ds gs before hval hW

theorem said : Rows.RolesApartSaid :=
  OpenClaim.holds_of_cond 3 Tryd.f3 rfl rfl rfl rfl rfl rfl rfl ⟨rfl, rfl, rfl, rfl, rfl⟩ rfl rfl rfl rfl rfl (by kernel_rfl) Tryd.func3 (by kernel_rfl)
    (of_decide_eq_true (by kernel_rfl)) (by unfold Func.isWrapper; first | (rw [if_pos (by decide +kernel)]; kernel_rfl) | (rw [if_neg (by decide +kernel)]; exact ⟨rfl, rfl⟩))
    (fun os started H enc _ F => by rw [OpenClaim.pre_eq_preRow]; exact lifted os started H enc F)

theorem card : Rows.RolesApartCardSaid :=
  Claim7.holds_tied_plain_at .later [] _ _ _ _ said (fun _ h => by cases h) (by kernel_rfl) (fun _ h => by cases h) rolesApart_row_tie rfl ⟨rfl, rfl⟩ (by kernel_rfl) rfl
    (plain_of "docket/docketlaw20.RolesApart" 3 _ _ (by kernel_rfl) Tryd.func3 Tryd.params3 (by kernel_rfl) (by kernel_rfl)) (by kernel_rfl)
end Go.Proofs.YtkiepajhakoeiaaDoor
