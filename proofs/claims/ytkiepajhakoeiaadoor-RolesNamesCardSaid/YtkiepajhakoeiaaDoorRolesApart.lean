/- roles.Apart tells whether one of the pairs has the role and, as the other one, a role in which the user acted. -/
import Derived.Test.YtkiepajhakoeiaaDoorApart
import Derived.Test.YtkiepajhakoeiaaDoorRolesNamed
import Derived.Test.YtkiepajhakoeiaaDoorShelf
import Derived.Laws.StructEq
namespace Go.Proofs.YtkiepajhakoeiaaDoor
open Go.RowKit

def enc2 (x : ByteArray × ByteArray) : List Value := [.string x.1, .string x.2]
def eq2 (x y : ByteArray × ByteArray) : Bool := bq x.1 y.1 && bq x.2 y.2
theorem enc_cells {w : World} {xs : List (ByteArray × ByteArray)} (b off : Nat)
    (hc : ∀ j (hj : j < xs.length), w.cell? ⟨b, off + j * 2, none⟩ = some (.string xs[j].1) ∧ w.cell? ⟨b, off + j * 2 + 1, none⟩ = some (.string xs[j].2)) :
    ∀ j, j < xs.length → ∀ i v, (enc2 xs[j]!)[i]? = some v → w.cell? ⟨b, off + j * 2 + i, none⟩ = some v := by
  intro j hj i v hi
  rw [getElem!_pos xs j hj] at hi
  obtain ⟨h1, h2⟩ := hc j hj
  match i, hi with
  | 0, hi => simp [enc2] at hi; rw [← hi]; exact h1
  | 1, hi => simp [enc2] at hi; rw [← hi]; exact h2
  | i + 2, hi => simp [enc2] at hi

theorem eqActed : EqlAt Tryd.prog 51 (fun x => .agg (enc2 x).toArray) eq2 := by
  refine ⟨fun x y w => ?_, GuardAt.agg _ (by kernel_rfl)⟩
  have u9 := Tryd.underlying9
  have a9 := Tryd.isAgg9
  have z9 := Tryd.sizeOf9
  have hS : Tryd.prog.underlying 51 = some (.struct (Tryd.prog.fieldsOf 51)) := by kernel_rfl
  have hp : Tryd.prog.stoodInHeld 51 = false := by kernel_rfl
  simp only [enc2]
  rw [run_eql_struct, show (10000 : Nat) = 9999 + 1 from rfl, run_equalIn_agg w 9999 51 _ _ hS hp]
  simp only [Program.fieldsOf, Tryd.underlying51]
  go_simp
  by_cases h1 : x.fst.toList = y.fst.toList <;> by_cases h2 : x.snd.toList = y.snd.toList <;> simp [h1, h2, eq2, bq]

set_option maxHeartbeats 1000000 in
theorem containsActed (B : Nat) (v : Value) (ac : List (ByteArray × ByteArray)) (x : ByteArray × ByteArray) (w : World) (hl : ac.length ≤ 1024) (h : Str2s B w v ac) :
    Calls Tryd.prog 25 #[v, .agg #[.string x.1, .string x.2]] w
      fun e w' => e = .returned (.bool (ac.any (eq2 x))) ∧ Below w.heap.size w w' := by
  obtain ⟨a, c, b, o, rfl, hle, ha, hc⟩ := h.cells
  by_cases h0 : 0 < ac.length
  · obtain ⟨rfl, hB⟩ := ha h0
    have hC := AnyQ.slices_Contains Tryd.laysActed 2 Tryd.isAgg51 Tryd.sizeOf51 enc2 (fun _ => rfl) eq2 eqActed b o ac.length c ac x w (Nat.le_refl _) (by omega) (enc_cells b o hc)
    rw [List.take_length] at hC
    exact hC
  · have : ac = [] := List.eq_nil_of_length_eq_zero (by omega)
    subst this
    clear h ha hc hle
    simp only [List.length_nil, List.any_nil]
    go_enter Tryd.func25, Tryd.ntmps25
    go_wp2
    refine wp_loop_rounds 1 ?_
    rw [rounds_succ]
    go_wp2
    go_ret
    exact ⟨rfl, ((Below.refl _ _).alloc (Nat.le_refl _) _).alloc (by simp) _⟩

/-- what the closure of roles.Apart asks of a pair -/
def pairP (ac : List (ByteArray × ByteArray)) (user role : ByteArray) (p : ByteArray × ByteArray) : Bool :=
  if bq role p.1 then ac.any (eq2 (user, p.2)) else if bq role p.2 then ac.any (eq2 (user, p.1)) else false

set_option maxHeartbeats 1000000 in
theorem roles_Apart1 (va : Value) (ac : List (ByteArray × ByteArray)) (user role : ByteArray) (b1 b2 b3 : Nat) (w : World) (hl : ac.length ≤ 1024) (h : Str2s w.heap.size w va ac)
    (h1 : b1 < w.heap.size) (h2 : b2 < w.heap.size) (h3 : b3 < w.heap.size)
    (c1 : w.cell? ⟨b1, 0, none⟩ = some (.string role)) (c2 : w.cell? ⟨b2, 0, none⟩ = some va) (c3 : w.cell? ⟨b3, 0, none⟩ = some (.string user)) :
    PredBelow Tryd.prog 24 #[.pointer (some ⟨b1, 0, none⟩), .pointer (some ⟨b2, 0, none⟩), .pointer (some ⟨b3, 0, none⟩)] (fun x => .agg (enc2 x).toArray) (pairP ac user role) w := fun W x hb => by
  have d1 := (hb.cell (p := ⟨b1, 0, none⟩) h1).trans c1
  have d2 := (hb.cell (p := ⟨b2, 0, none⟩) h2).trans c2
  have d3 := (hb.cell (p := ⟨b3, 0, none⟩) h3).trans c3
  have s1 : b1 < W.heap.size := Nat.lt_of_lt_of_le h1 hb.size
  have s2 : b2 < W.heap.size := Nat.lt_of_lt_of_le h2 hb.size
  have s3 : b3 < W.heap.size := Nat.lt_of_lt_of_le h3 hb.size
  have hC := fun (W' : World) (hb' : Below w.heap.size w W') y => containsActed w.heap.size va ac y W' hl (h.below hb')
  obtain ⟨x1, x2⟩ := x
  show Calls Tryd.prog 24 #[.agg #[.string x1, .string x2], .pointer (some ⟨b1, 0, none⟩), .pointer (some ⟨b2, 0, none⟩), .pointer (some ⟨b3, 0, none⟩)] W
    fun e w' => e = .returned (.bool (pairP ac user role (x1, x2))) ∧ Below w.heap.size w w'
  obtain ⟨r, hr⟩ : ∃ r, pairP ac user role (x1, x2) = r := ⟨_, rfl⟩
  have Hr := Lib.hid hr
  rw [hr]
  clear h c1 c2 c3 hr
  cases e1 : (role.toList == x1.toList) <;> cases e2 : (role.toList == x2.toList)
  all_goals
    go_enter Tryd.func24, Tryd.ntmps24
    go_wp2_with (go_at_call 25; refine (hC _ (hb.alloc hb.size _) (_, _)).mono ?_; rintro e w1 ⟨rfl, hb1⟩)
    go_ret
    first
      | exact ⟨ret_bool (by rw [← Hr.out]; simp [pairP, bq, e1, e2]), hb.alloc hb.size _⟩
      | exact ⟨ret_bool (by rw [← Hr.out]; simp [pairP, bq, e1, e2]), (hb.alloc hb.size _).trans (hb1.mono (by have := hb.size; simp; omega))⟩

theorem hit_dec (user role : ByteArray) (p a : ByteArray × ByteArray) : hit user role p a = (decide (user = a.1) && ((decide (p.1 = role) && decide (p.2 = a.2)) || (decide (p.2 = role) && decide (p.1 = a.2)))) := by
  simp only [hit, bq, ba_eq]
  rw [show decide (a.1 = user) = decide (user = a.1) from decide_eq_decide.2 ⟨Eq.symm, Eq.symm⟩]
theorem eq2_dec (x a : ByteArray × ByteArray) : eq2 x a = (decide (x.1 = a.1) && decide (x.2 = a.2)) := by
  simp only [eq2, bq, ba_eq]
theorem pair_hit (ac : List (ByteArray × ByteArray)) (user role : ByteArray) (p : ByteArray × ByteArray) : pairP ac user role p = ac.any (hit user role p) := by
  obtain ⟨p1, p2⟩ := p
  simp only [pairP, bq, ba_eq, decide_eq_true_eq]
  by_cases h1 : role = p1
  · rw [if_pos h1]
    congr 1
    funext a
    rw [eq2_dec, hit_dec]
    subst h1
    rw [decide_eq_true rfl]
    by_cases h2 : p2 = role
    · rw [h2]; cases decide (user = a.1) <;> simp
    · rw [decide_eq_false h2]; cases decide (user = a.1) <;> simp
  · rw [if_neg h1]
    by_cases h2 : role = p2
    · rw [if_pos h2]
      congr 1
      funext a
      rw [eq2_dec, hit_dec]
      subst h2
      rw [decide_eq_true rfl, decide_eq_false (fun h => h1 h.symm : ¬ p1 = role)]
      cases decide (user = a.1) <;> simp
    · rw [if_neg h2]
      have : hit user role (p1, p2) = fun _ => false := by
        funext a
        rw [hit_dec, decide_eq_false (fun h => h1 h.symm : ¬ p1 = role), decide_eq_false (fun h => h2 h.symm : ¬ p2 = role)]
        simp
      rw [this]; simp

set_option maxHeartbeats 1000000 in
theorem containsPairs (v : Value) (ap : List (ByteArray × ByteArray)) (p : ByteArray × ByteArray → Bool) (g : Nat) (lb : Array Value) (eg : ∀ args w, (callFunc g args).run Tryd.prog w = .ok (.enter g args) w)
    (w : World) (hl : ap.length ≤ 32) (hp : PredBelow Tryd.prog g lb (fun x => .agg (enc2 x).toArray) p w) (h : Str2s w.heap.size w v ap) :
    Calls Tryd.prog 23 #[v, .func (.func g) #[] lb] w fun e w' => e = .returned (.bool (ap.any p)) ∧ Below w.heap.size w w' := by
  obtain ⟨a, c, b, o, rfl, -, ha, hc⟩ := h.cells
  by_cases h0 : 0 < ap.length
  · obtain ⟨rfl, hB⟩ := ha h0
    have hC := Tryd.slices_ContainsFunc 2 Tryd.isAgg49 Tryd.sizeOf49 enc2 (fun _ => rfl) p g lb eg b o ap.length c ap w hp (Nat.le_refl _) (by omega) hB (enc_cells b o hc)
    rw [List.take_length] at hC
    exact hC
  · have : ap = [] := List.eq_nil_of_length_eq_zero (by omega)
    subst this
    clear h ha hc hp
    simp only [List.length_nil, List.any_nil]
    go_enter Tryd.func23, Tryd.ntmps23
    go_wp2
    refine wp_loop_rounds 1 ?_
    rw [rounds_succ]
    go_wp2
    go_ret
    exact ⟨rfl, Below.refl _ _⟩

set_option maxHeartbeats 2000000 in
/-- the whole function, at any two slices that read so -/
theorem roles_Apart (v1 v2 : Value) (ap ac : List (ByteArray × ByteArray)) (user role : ByteArray) (w : World) (hr : role.size ≤ maxLen)
    (hap : ap.length ≤ maxLen) (hac : ac.length ≤ maxLen) (h1 : Str2s w.heap.size w v1 ap) (h2 : Str2s w.heap.size w v2 ac) :
    Calls Tryd.prog 9 #[v1, v2, .string user, .string role] w
      fun e w' => e = .returned (.tuple #[.bool (apartE ap ac role == 0 && apart ap ac user role), .int .i64 (apartE ap ac role)]) ∧ Below w.heap.size w w' := by
  obtain ⟨a1, c1, b1, o1, rfl, -, ha1, hc1⟩ := h1.cells
  obtain ⟨a2, c2, b2, o2, rfl, -, ha2, hc2⟩ := h2.cells
  unfold maxLen at hap hac
  have cN := fun W => roles_named role W hr
  by_cases hb : 32 < ap.length ∨ 1024 < ac.length
  · have he : apartE ap ac role = 4 := by simp [apartE, hb]
    rw [he]
    clear ha1 ha2 hc1 hc2 he hr h1 h2 cN
    by_cases hb1 : 32 < ap.length
    · have g : decide (32 < (ap.length : Int)) = true := decide_eq_true (by omega)
      go_enter Tryd.func9, Tryd.ntmps9
      go_wp2_with fail
      go_ret2
      exact ⟨rfl, (((Below.refl _ _).alloc (Nat.le_refl _) _).alloc (by simp) _).alloc (by simp; omega) _⟩
    · have g : decide (32 < (ap.length : Int)) = false := decide_eq_false (by omega)
      have g2 : decide (1024 < (ac.length : Int)) = true := decide_eq_true (by omega)
      go_enter Tryd.func9, Tryd.ntmps9
      go_wp2_with fail
      go_ret2
      exact ⟨rfl, (((Below.refl _ _).alloc (Nat.le_refl _) _).alloc (by simp) _).alloc (by simp; omega) _⟩
  · have g : decide (32 < (ap.length : Int)) = false := decide_eq_false (by omega)
    have g2 : decide (1024 < (ac.length : Int)) = false := decide_eq_false (by omega)
    cases hn : named role.data.toList
    · have he : apartE ap ac role = 5 := by simp [apartE, hb, hn]
      rw [he]
      simp only [hn] at cN
      clear ha1 ha2 hc1 hc2 he hr hn h1 h2
      go_enter Tryd.func9, Tryd.ntmps9
      go_wp2_with (go_at_call 22; refine (cN _).mono ?_; rintro e w1 ⟨rfl, hb1⟩)
      go_ret2
      exact ⟨rfl, ((((Below.refl _ _).alloc (Nat.le_refl _) _).alloc (by simp) _).alloc (by simp; omega) _).trans (hb1.mono (by simp; omega))⟩
    · have he : apartE ap ac role = 0 := by simp [apartE, hb, hn]
      rw [he]
      simp only [hn] at cN
      clear ha1 ha2 hc1 hc2 he hr hn
      have H1 := Lib.hid h1; have H2 := Lib.hid h2; clear h1 h2
      have hA : (ap.any fun p => ac.any (hit user role p)) = ap.any (pairP ac user role) := by
        congr 1; funext p; exact (pair_hit ac user role p).symm
      have HA := Lib.hid hA; clear hA
      go_enter Tryd.func9, Tryd.ntmps9
      go_wp2_with (go_at_call 22; refine (cN _).mono ?_; rintro e w1 ⟨rfl, hb1⟩)
      obtain ⟨k1, -⟩ := bcell hb1
      have hs := hb1.size
      simp at hs
      have hB : Below w.heap.size w w1 := ((((Below.refl _ _).alloc (Nat.le_refl _) _).alloc (by simp) _).alloc (by simp; omega) _).trans (hb1.mono (by simp; omega))
      refine (containsPairs _ ap (pairP ac user role) _ _ (enters_of Tryd.func24 (by kernel_rfl) rfl) w1 (by omega) (roles_Apart1 (.slice a2 ac.length c2) ac user role _ _ _ w1 (by omega) ?_ (by omega) (by omega) (by omega) ?_ ?_ ?_) ?_).mono ?_
      · exact (H2.out.below hB).mono hB.size
      · rw [k1 _ _ (by simp)]; go_simp
      · rw [k1 _ _ (by simp; omega)]; go_simp
      · rw [k1 _ _ (by simp)]; go_simp
      · exact (H1.out.below hB).mono hB.size
      rintro e w2 ⟨rfl, hb2⟩
      go_wp2
      go_ret2
      exact ⟨by rw [apart, HA.out]; rfl, hB.trans (hb2.mono (by omega))⟩
end Go.Proofs.YtkiepajhakoeiaaDoor
