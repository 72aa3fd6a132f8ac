/- docketref24.TwinModel. -/
import Derived.Test.YtinijohmdljieaaGreatDoorUA
import Derived.Test.YtinijohmdljieaaGreatDoorCTwin
import Derived.Deep.RegionHeld3
import Derived.Deep.DeepCutAuto
namespace Go.Proofs.YtinijohmdljieaaGreatDoor
open Go.RowKit

theorem elemAttr : Elem Tryz.prog 48 109 2 24 := ⟨Tryz.underlying48, ⟨.agg #[.string ⟨#[]⟩, .int .u8 0], by kernel_rfl, rfl⟩, by omega, Tryz.sizeOf109⟩
theorem elemPair : Elem Tryz.prog 51 110 2 32 := ⟨Tryz.underlying51, ⟨.agg #[.string ⟨#[]⟩, .string ⟨#[]⟩], by kernel_rfl, rfl⟩, by omega, Tryz.sizeOf110⟩
theorem elemStage : Elem Tryz.prog 49 113 7 112 := ⟨Tryz.underlying49, ⟨.agg #[.string ⟨#[]⟩, .int .i64 0, .slice none 0 0, .slice none 0 0, .string ⟨#[]⟩, .int .i64 0, .string ⟨#[]⟩], by kernel_rfl, rfl⟩, by omega, Tryz.sizeOf113⟩
theorem elemStone : Elem Tryz.prog 50 116 3 64 := ⟨Tryz.underlying50, ⟨.agg #[.string ⟨#[]⟩, .slice none 0 0, .slice none 0 0], by kernel_rfl, rfl⟩, by omega, Tryz.sizeOf116⟩
abbrev modelC (n : ByteArray) (a e s t p : Value) : List Value := [.string n, a, e, s, t, p]
structure ModelD.Ok (m : ModelD) : Prop where
  al : m.attrs.length ≤ 1048576
  el : m.events.length ≤ 1048576
  sl : m.stages.length ≤ 1048576
  tl : m.stones.length ≤ 1048576
  pl : m.apart.length ≤ 1048576
  so : ∀ s ∈ m.stages, s.opens.length ≤ 1048576 ∧ s.closes.length ≤ 1048576
  st : ∀ s ∈ m.stones, s.done.length ≤ 1048576 ∧ s.undo.length ≤ 1048576
theorem ModelM.grow {o : Bool} {P : Nat → Prop} {w w' : World} {m : ModelD} {v : ModelV} (h : ModelM o P w m v) (hb : Below w.heap.size w w') : ModelM o P w' m v := ⟨h.attrs.grow hb, h.events.grow hb, h.stages.grow hb, h.stones.grow hb, h.apart.grow hb⟩
theorem UB.orderA {E : TypeId} {k : Nat} {w W w3 : World} {x y : List Value} {d : D} {v : Value} (hB : B2 E k w W x y) (hz2 : w.heap.size + 2 ≤ W.heap.size) (hb : Below W.heap.size W w3) (hm : Mem true (From W.heap.size) w3 d v) (z : Array Value) (hz : z.size = k) : UB E k w3.heap.size [(d, v)] w (w3.alloc (.cells z E)) x y z.toList := by
  have h1 := hB.call hb
  have hbs := hb.size
  have ha : Below w3.heap.size w3 (w3.alloc (.cells z E)) := (Below.refl _ _).alloc (Nat.le_refl _) _
  have h2 := h1.call ha
  refine ⟨⟨h2.p, h2.q, (ownBox w3 z E k w3.heap.size (Nat.le_refl _) hz).base_le (by omega), by omega, h2.below⟩, fun p hp => ?_⟩
  rw [List.mem_singleton] at hp
  rw [hp]
  have hq := hm.weak (P' := fun b => w.heap.size + 2 ≤ b ∧ b ≠ w3.heap.size) fun b hb2 hl => ⟨by have : W.heap.size ≤ b := hb2; omega, by omega⟩
  exact hq.grow ha
theorem UB.orderB {E : TypeId} {k : Nat} {w W w3 : World} {x y : List Value} {d : D} {v : Value} (hB : B2 E k w W x y) (hz2 : w.heap.size + 2 ≤ W.heap.size) (z : Array Value) (hz : z.size = k) (hb : Below (W.alloc (.cells z E)).heap.size (W.alloc (.cells z E)) w3) (hm : Mem true (From (W.alloc (.cells z E)).heap.size) w3 d v) : UB E k W.heap.size [(d, v)] w w3 x y z.toList := by
  have ha : Below W.heap.size W (W.alloc (.cells z E)) := (Below.refl _ _).alloc (Nat.le_refl _) _
  have e : (W.alloc (.cells z E)).heap.size = W.heap.size + 1 := by simp
  have h2 := (hB.call ha).call hb
  refine ⟨⟨h2.p, h2.q, ((ownBox W z E k W.heap.size (Nat.le_refl _) hz).below hb (Nat.le_refl _)).base_le (by omega), hz2, h2.below⟩, fun p hp => ?_⟩
  rw [List.mem_singleton] at hp
  rw [hp]
  exact hm.weak fun b hb2 _ => by
    have h5 : (W.alloc (.cells z E)).heap.size ≤ b := hb2
    rw [e] at h5
    exact ⟨by omega, by omega⟩
/-- two lists made for a record that lies in the box at B -/
theorem two_new {wr w3 w5 : World} {B j1 j2 : Nat} {d1 d2 : D} {v1 v2 u1 u2 : Value} (hB : B = wr.heap.size) (h3 : B + 1 ≤ w3.heap.size) (hm1 : Mem true (From (B + 1)) w3 d1 v1) (hb3 : Below wr.heap.size wr w3) (hm2 : Mem true (From (B + 1)) w5 d2 v2) (hb5 : Below w3.heap.size (w3.setCell ⟨B, j1, none⟩ u1) w5) :
    Below wr.heap.size wr (w5.setCell ⟨B, j2, none⟩ u2) ∧ Mem true (From wr.heap.size) (w5.setCell ⟨B, j2, none⟩ u2) d1 v1 ∧ Mem true (From wr.heap.size) (w5.setCell ⟨B, j2, none⟩ u2) d2 v2 := by
  have h35 : w3.heap.size ≤ w5.heap.size := by have := hb5.size; simpa [World.setCell] using this
  have e1 : (w3.setCell ⟨B, j1, none⟩ u1).heap.size = w3.heap.size := by simp [World.setCell]
  have fk : ∀ (W : World) (j : Nat) (u : Value) (b : Nat), From (B + 1) b → (W.setCell ⟨B, j, none⟩ u).heap[b]? = W.heap[b]? := fun W j u b hb => Below.heap_setCell W ⟨B, j, none⟩ u b (by have : B + 1 ≤ b := hb; show b ≠ B; omega)
  refine ⟨((hb3.setCell (p := ⟨B, j1, none⟩) (by show _ ≤ B; omega) u1).trans (hb5.mono (by omega))).setCell (p := ⟨B, j2, none⟩) (by show _ ≤ B; omega) u2, ?_, ?_⟩
  · have h1 := hm1.kept (w' := w3.setCell ⟨B, j1, none⟩ u1) (fun b hb _ => fk w3 j1 u1 b hb) (by rw [e1]; exact Nat.le_refl _)
    have h2 := h1.kept (w' := w5) (fun b _ hl => hb5.block b (by rw [e1] at hl; exact hl)) (by rw [e1]; exact h35)
    exact (h2.kept (fun b hb _ => fk w5 j2 u2 b hb) (by simp [World.setCell])).weak fun b hb _ => by have : B + 1 ≤ b := hb; show wr.heap.size ≤ b; omega
  · exact (hm2.kept (fun b hb _ => fk w5 j2 u2 b hb) (by simp [World.setCell])).weak fun b hb _ => by have : B + 1 ≤ b := hb; show wr.heap.size ≤ b; omega
theorem ret_mtwin {w W : World} {rb : Nat} {a : Act} {x z : List Value} {n : ByteArray} {v1 v2 v3 v4 v5 : Value} {R : Ending → World → Prop} (h : C3 53 6 rb w W x (modelC n v1 v2 v3 v4 v5) z) (hp : a.tmps.getD 2 undef = .pointer (some ⟨w.heap.size + 1, 0, none⟩)) (hd : a.defers = [])
    (hR : R (.returned (.agg (modelC n v1 v2 v3 v4 v5).toArray)) W) : bodyPost Tryz.prog Tryz.f35 R .ret a W := by
  refine bodyPost_ret ?_ hd hR
  have hp' : a.tmps[2]?.getD undef = .pointer (some ⟨w.heap.size + 1, 0, none⟩) := by simpa using hp
  simp [results, Tryz.results35, hp', go_sem, h.cq 0 _ rfl, h.cq 1 _ rfl, h.cq 2 _ rfl, h.cq 3 _ rfl, h.cq 4 _ rfl, h.cq 5 _ rfl]
/-- how TwinModel ends -/
def MEnd (md : ModelD) (w : World) (e : Ending) (w' : World) : Prop := ∃ mv' : ModelV, e = .returned (.agg (mv'.cs md).toArray) ∧ ModelM true (From w.heap.size) w' md mv' ∧ Below w.heap.size w w'
set_option maxHeartbeats 8000000 in
set_option maxRecDepth 100000 in
theorem modelTwin (md : ModelD) (hok : md.Ok) (a1 : Option Addr) (c1 : Nat) (a2 : Option Addr) (c2 : Nat) (a3 : Option Addr) (c3 : Nat) (a4 : Option Addr) (c4 : Nat) (a5 : Option Addr) (c5 : Nat) (w : World) (hM : ModelM false (From 0) w md ⟨a1, c1, a2, c2, a3, c3, a4, c4, a5, c5⟩) : Calls Tryz.prog 35 #[.agg (modelC md.name (.slice a1 md.attrs.length c1) (.slice a2 md.events.length c2) (.slice a3 md.stages.length c3) (.slice a4 md.stones.length c4) (.slice a5 md.apart.length c5)).toArray] w (MEnd md w) := by
  have hm3 : Mem false (From 0) w (.list 7 (md.stages.map StageD.ds)) (.slice a3 md.stages.length c3) := hM.stages
  have hm4 : Mem false (From 0) w (.list 3 (md.stones.map StoneD.ds)) (.slice a4 md.stones.length c4) := hM.stones
  obtain ⟨_, _, b3, o3, hve, -, hS3⟩ := rec_open hm3
  obtain ⟨_, _, b4, o4, hve2, -, hS4⟩ := rec_open hm4
  injection hve with hv1 hv2 hv3
  injection hve2 with hv4 hv5 hv6
  subst hv1 hv3 hv4 hv6
  have HM := Lib.hid hM
  have H3 := Lib.hid hS3
  have H4 := Lib.hid hS4
  have HO := Lib.hid hok
  have HDS : Hid (∀ W mv', ModelM true (From w.heap.size) W md mv' → Below w.heap.size w W → MEnd md w (.returned (.agg (mv'.cs md).toArray)) W) := fun W mv' h1 h2 => ⟨mv', rfl, h1, h2⟩
  generalize MEnd md w = R at HDS ⊢
  have HB0 := Lib.hid (B2.start w 53 6 #[.string md.name, .slice a1 md.attrs.length c1, .slice a2 md.events.length c2, .slice a3 md.stages.length c3, .slice a4 md.stones.length c4, .slice a5 md.apart.length c5] #[.string ⟨#[]⟩, .slice none 0 0, .slice none 0 0, .slice none 0 0, .slice none 0 0, .slice none 0 0] rfl rfl)
  have HZ0 : Hid (((w.alloc (.cells #[.string md.name, .slice a1 md.attrs.length c1, .slice a2 md.events.length c2, .slice a3 md.stages.length c3, .slice a4 md.stones.length c4, .slice a5 md.apart.length c5] 53)).alloc (.cells #[.string ⟨#[]⟩, .slice none 0 0, .slice none 0 0, .slice none 0 0, .slice none 0 0, .slice none 0 0] 53)).heap.size = w.heap.size + 2) := by show _ = _; simp
  clear hM hm3 hm4 hS3 hS4 hok hv2 hv5
  go_enter Tryz.func35, Tryz.ntmps35
  go_upto_region 1 with fail
  revert HB0 HZ0
  generalize ((w.alloc (.cells #[.string md.name, .slice a1 md.attrs.length c1, .slice a2 md.events.length c2, .slice a3 md.stages.length c3, .slice a4 md.stones.length c4, .slice a5 md.apart.length c5] 53)).alloc (.cells #[.string ⟨#[]⟩, .slice none 0 0, .slice none 0 0, .slice none 0 0, .slice none 0 0, .slice none 0 0] 53)) = W0
  intro HB0 HZ0
  go_cut [3] (fun t wx => ∃ (rb : Nat) (va : Option Addr) (vc : Nat), t = .pointer (some ⟨rb, 0, none⟩) ∧ Hid (UB 53 6 rb [(strD md.events, .slice va md.events.length vc)] w wx (modelC md.name (.slice a1 md.attrs.length c1) (.slice a2 md.events.length c2) (.slice a3 md.stages.length c3) (.slice a4 md.stones.length c4) (.slice a5 md.apart.length c5)) (modelC ⟨#[]⟩ (.slice none 0 0) (.slice none 0 0) (.slice none 0 0) (.slice none 0 0) (.slice none 0 0)) (modelC md.name (.slice none 0 0) (.slice va md.events.length vc) (.slice none 0 0) (.slice none 0 0) (.slice none 0 0))))
  case first =>
    have HBd := Lib.hid (HB0.out.call (Below.refl _ _).drew)
    have HW := Lib.hid (fun W (hb : Below w.heap.size w W) => wordsM (.slice a2 md.events.length c2) md.events W HO.out.el (HM.out.events.grow hb))
    clear HO H3 H4 HDS
    have hzd : w.heap.size + 2 ≤ W0.drew.heap.size := by have := HZ0.out; show _ ≤ W0.heap.size; omega
    have hne : w.heap.size ≠ W0.heap.size := by have := HZ0.out; omega
    have HA := Lib.hid (fun (w3 : World) (va : Option Addr) (vc : Nat) (hO : Mem true (From W0.drew.heap.size) w3 (strD md.events) (.slice va md.events.length vc)) (hb : Below W0.drew.heap.size W0.drew w3) => UB.orderA (E := 53) (k := 6) HBd.out hzd hb hO #[.string md.name, .slice none 0 0, .slice va md.events.length vc, .slice none 0 0, .slice none 0 0, .slice none 0 0] rfl)
    have HBB := Lib.hid (fun (w3 : World) (va : Option Addr) (vc : Nat) (hO : Mem true (From (W0.drew.alloc (.cells #[.string ⟨#[]⟩, .slice none 0 0, .slice none 0 0, .slice none 0 0, .slice none 0 0, .slice none 0 0] 53)).heap.size) w3 (strD md.events) (.slice va md.events.length vc)) (hb : Below (W0.drew.alloc (.cells #[.string ⟨#[]⟩, .slice none 0 0, .slice none 0 0, .slice none 0 0, .slice none 0 0, .slice none 0 0] 53)).heap.size (W0.drew.alloc (.cells #[.string ⟨#[]⟩, .slice none 0 0, .slice none 0 0, .slice none 0 0, .slice none 0 0, .slice none 0 0] 53)) w3) => UB.orderB (E := 53) (k := 6) HBd.out hzd #[.string ⟨#[]⟩, .slice none 0 0, .slice none 0 0, .slice none 0 0, .slice none 0 0, .slice none 0 0] rfl hb hO)
    have HBe := Lib.hid (HBd.out.call ((Below.refl _ _).alloc (Nat.le_refl _) (.cells #[.string ⟨#[]⟩, .slice none 0 0, .slice none 0 0, .slice none 0 0, .slice none 0 0, .slice none 0 0] 53)))
    have b0 := HB0.out.cp 0 _ rfl
    have b2 := HB0.out.cp 2 _ rfl
    have hne' : W0.heap.size ≠ w.heap.size := Ne.symm hne
    go_region_held3 (fun W => W.cell? ⟨w.heap.size, 0, none⟩ = some (.string md.name) ∧ W.cell? ⟨w.heap.size, 2, none⟩ = some (.slice a2 md.events.length c2))
      (go_keep)
      ((first
        | (go_at_call 34; refine (HW.out _ HBd.out.below).mono ?_; rintro e w3 ⟨va, vc, rfl, hO, hb⟩; have hs0 := (HBd.out.call hb).cp 0 _ rfl; have hs2 := (HBd.out.call hb).cp 2 _ rfl; have HU := Lib.hid (HA.out w3 va vc hO hb); clear hO hb)
        | (go_at_call 34; refine (HW.out _ HBe.out.below).mono ?_; rintro e w3 ⟨va, vc, rfl, hO, hb⟩; have hs0 := (HBe.out.call hb).cp 0 _ rfl; have hs2 := (HBe.out.call hb).cp 2 _ rfl; have HU := Lib.hid (HBB.out w3 va vc hO hb); have z0 : w3.cell? ⟨W0.heap.size, 0, none⟩ = some (.string ⟨#[]⟩) := HU.out.bx.cr 0 _ rfl; have z1 : w3.cell? ⟨W0.heap.size, 1, none⟩ = some (.slice none 0 0) := HU.out.bx.cr 1 _ rfl; have z2 : w3.cell? ⟨W0.heap.size, 2, none⟩ = some (.slice none 0 0) := HU.out.bx.cr 2 _ rfl; have z3 : w3.cell? ⟨W0.heap.size, 3, none⟩ = some (.slice none 0 0) := HU.out.bx.cr 3 _ rfl; have z4 : w3.cell? ⟨W0.heap.size, 4, none⟩ = some (.slice none 0 0) := HU.out.bx.cr 4 _ rfl; have z5 : w3.cell? ⟨W0.heap.size, 5, none⟩ = some (.slice none 0 0) := HU.out.bx.cr 5 _ rfl; have zf : ∀ j, w3.frozen? ⟨W0.heap.size, j, none⟩ = false := HU.out.bx.fr; clear hO hb)))
    all_goals
      go_wp2_with fail
      go_meet
      first
        | (have zz := z0; clear zz; exact ⟨_, va, vc, rfl, (((((HU.out.setR 0 (.string md.name)).setR 1 (.slice none 0 0)).setR 2 (.slice va md.events.length vc)).setR 3 (.slice none 0 0)).setR 4 (.slice none 0 0)).setR 5 (.slice none 0 0)⟩)
        | exact ⟨_, va, vc, rfl, HU.out⟩
  obtain ⟨rb, va, vc, rfl, HT1⟩ := hcut
  clear HB0 HZ0
  obtain ⟨va1, vc1, w1, hap, hm, hb, -⟩ := flat_app elemAttr 48 (HM.out.attrs.grow HT1.out.bx.below) (fun _ => rfl) (fun x u hu => by simp only [AttrD.cs, List.mem_cons, List.not_mem_nil, or_false] at hu; rcases hu with rfl | rfl <;> rfl) (by have := HO.out.al; unfold maxLen; omega) (by have := HO.out.al; omega)
  have HAP := Lib.hid hap
  have HT2 := Lib.hid ((HT1.out.made hb hm).setR 1 (.slice va1 md.attrs.length vc1))
  have k1 := HT1.out.bx.cp 1 _ rfl
  have c1 := HT1.out.bx.cr 1 _ rfl
  have c1' := (HT1.out.bx.call hb).cr 1 _ rfl
  have f1 := (HT1.out.bx.call hb).fr 1
  clear hap hm hb HT1
  go_upto_region 3 with (at_builtin; refine wpList_append_run rfl (.tmp 15) (.tmp 17) 48 rfl rfl rfl HAP.out ?_)
  clear HAP k1 c1 c1' f1
  revert HT2
  generalize w1.setCell ⟨rb, 1, none⟩ _ = X2
  intro HT2
  obtain ⟨va5, vc5, w5, hap, hm, hb, -⟩ := flat_app elemPair 51 (HM.out.apart.grow HT2.out.bx.below) (fun _ => rfl) (fun x u hu => by simp only [pairC, List.mem_cons, List.not_mem_nil, or_false] at hu; rcases hu with rfl | rfl <;> rfl) (by have := HO.out.pl; unfold maxLen; omega) (by have := HO.out.pl; omega)
  have HAP := Lib.hid hap
  have HT3 := Lib.hid ((HT2.out.made hb hm).setR 5 (.slice va5 md.apart.length vc5))
  have k5 := HT2.out.bx.cp 5 _ rfl
  have c5 := HT2.out.bx.cr 5 _ rfl
  have c5' := (HT2.out.bx.call hb).cr 5 _ rfl
  have f5 := (HT2.out.bx.call hb).fr 5
  clear hap hm hb HT2
  go_upto_region 4 with (at_builtin; refine wpList_append_run rfl (.tmp 21) (.tmp 23) 51 rfl rfl rfl HAP.out ?_)
  clear HAP k5 c5 c5' f5
  revert HT3
  generalize w5.setCell ⟨rb, 5, none⟩ _ = X3
  intro HT3
  have HT4 := Lib.hid (UA.start HT3.out 113 7 StageD.ds)
  clear HT3
  generalize X3.heap.size = M4 at HT4
  have HSO := Lib.hid HO.out.so
  have HTO := Lib.hid HO.out.st
  have HSL := Lib.hid HO.out.sl
  have HTLL := Lib.hid HO.out.tl
  have hsl := HSL.out
  have htl := HTLL.out
  go_upto_region 5 with fail
  go_loopw [4] (fun j wx => ∃ (m : Nat) (vas : Option Addr) (vcs : Nat) (vs : List (List Value)), m ≤ md.stages.length ∧ j = .int .i64 m ∧ Hid (UA 53 6 rb [(flatL 2 pairC md.apart, .slice va5 md.apart.length vc5), (flatL 2 AttrD.cs md.attrs, .slice va1 md.attrs.length vc1), (strD md.events, .slice va md.events.length vc)] 113 7 StageD.ds w wx (modelC md.name (.slice a1 md.attrs.length c1) (.slice a2 md.events.length c2) (.slice a3 md.stages.length c3) (.slice a4 md.stones.length c4) (.slice a5 md.apart.length c5)) (modelC ⟨#[]⟩ (.slice none 0 0) (.slice none 0 0) (.slice none 0 0) (.slice none 0 0) (.slice none 0 0)) (modelC md.name (.slice va1 md.attrs.length vc1) (.slice va md.events.length vc) (.slice vas m vcs) (.slice none 0 0) (.slice va5 md.apart.length vc5)) M4 vas vcs (md.stages.take m) vs)) (fun j _ => md.stages.length - (intOf j).toNat)
  case atStart => exact ⟨0, none, 0, [], Nat.zero_le _, rfl, HT4.out⟩
  case round =>
    clear HT4
    obtain ⟨m, vas, vcs, vs, hml, rfl, HT⟩ := hrel
    have kk := HT.out.bx.cp 3 _ rfl
    by_cases hlt : m < md.stages.length
    · obtain ⟨rfl, -, hbl⟩ := H3.out.at0 (by omega)
      obtain ⟨us0, hr, hcell⟩ := H3.out.row m hlt
      have hso := HSO.out _ (List.getElem_mem hlt)
      have HTL : Hid ((md.stages.take m).length = m) := by show _ = _; rw [List.length_take]; omega
      have HPU := Lib.hid (fun (W' : World) (hb : Below wr.heap.size wr W') (us : List Value) (hu : us.length = 7) (hx : (StageD.ds md.stages[m]).length = 7) (hm : MemL true (From wr.heap.size) W' (StageD.ds md.stages[m]) us) (h1 : ∀ u ∈ us, u.oneCell' = true) h63 hby => HT.out.push elemStage 49 hb hu hx hm h1 h63 hby)
      have HTK := Lib.hid (fun W8 vx vy vz h => UA.took (E := 53) (k := 6) (rb := rb) (fs := [(flatL 2 pairC md.apart, .slice va5 md.apart.length vc5), (flatL 2 AttrD.cs md.attrs, .slice va1 md.attrs.length vc1), (strD md.events, .slice va md.events.length vc)]) (E2 := 113) (k2 := 7) (f := StageD.ds) (w := w) (W := W8) (x := (modelC md.name (.slice a1 md.attrs.length c1) (.slice a2 md.events.length c2) (.slice (some ⟨b3, o3, none⟩) md.stages.length c3) (.slice a4 md.stones.length c4) (.slice a5 md.apart.length c5))) (y := (modelC ⟨#[]⟩ (.slice none 0 0) (.slice none 0 0) (.slice none 0 0) (.slice none 0 0) (.slice none 0 0))) (z := (modelC md.name (.slice va1 md.attrs.length vc1) (.slice va md.events.length vc) (.slice vas m vcs) (.slice none 0 0) (.slice va5 md.apart.length vc5))) (M := M4) (va := vx) (vc := vy) (vs := vz) (l := md.stages) hlt h)
      obtain ⟨st, hst⟩ : ∃ st, md.stages[m] = st := ⟨_, rfl⟩
      rw [hst] at hr hso HPU
      obtain ⟨sa, sc, sa2, sc2, rfl, hop, hcl⟩ := StageD.cells hr
      have e0 := cellBelow2 HT.out.bx.below (hcell 0 _ rfl)
      have e1 := cellBelow2 HT.out.bx.below (hcell 1 _ rfl)
      have e2 := cellBelow2 HT.out.bx.below (hcell 2 _ rfl)
      have e3 := cellBelow2 HT.out.bx.below (hcell 3 _ rfl)
      have e4 := cellBelow2 HT.out.bx.below (hcell 4 _ rfl)
      have e5 := cellBelow2 HT.out.bx.below (hcell 5 _ rfl)
      have e6 := cellBelow2 HT.out.bx.below (hcell 6 _ rfl)
      simp only [Nat.add_zero] at e0
      have hg1 := hop.grow HT.out.bx.below
      have hg2 := hcl.grow HT.out.bx.below
      have HV0 := Lib.hid ((Below.refl wr.heap.size wr).alloc (Nat.le_refl _) (.cells #[.string st.name, .int .i64 st.inn, .slice sa st.opens.length sc, .slice sa2 st.closes.length sc2, .string st.role, .int .i64 st.aft, .string st.event] 113))
      have HBx := Lib.hid (ownBox wr #[.string st.name, .int .i64 st.inn, .slice sa st.opens.length sc, .slice sa2 st.closes.length sc2, .string st.role, .int .i64 st.aft, .string st.event] 113 7 wr.heap.size (Nat.le_refl _) rfl)
      have HW1 := Lib.hid (refList _ st.opens (wr.alloc (.cells #[.string st.name, .int .i64 st.inn, .slice sa st.opens.length sc, .slice sa2 st.closes.length sc2, .string st.role, .int .i64 st.aft, .string st.event] 113)) hso.1 (hg1.grow HV0.out))
      have HW2 := Lib.hid (fun W (hb : Below wr.heap.size wr W) => refList _ st.closes W hso.2 (hg2.grow hb))
      have HZ0 : Hid ((wr.alloc (.cells #[.string st.name, .int .i64 st.inn, .slice sa st.opens.length sc, .slice sa2 st.closes.length sc2, .string st.role, .int .i64 st.aft, .string st.event] 113)).heap.size = wr.heap.size + 1) := by show _ = _; simp
      have i1 : (0 : Int) ≤ (m : Int) := by omega
      have i2 : (m : Int) < (md.stages.length : Int) := by omega
      clear hr hop hcl hg1 hg2 hso hbl hcell HO H3
      go_wp2_with fail
      refine HW1.out.mono ?_
      rintro e w3 ⟨va3, vc3, rfl, hm1, hb⟩
      have HBx3 := Lib.hid (HBx.out.below hb (Nat.le_refl _))
      have hz3 : wr.heap.size + 1 ≤ w3.heap.size := by have := hb.size; rw [HZ0.out] at this; exact this
      rw [HZ0.out] at hm1
      have HM1 := Lib.hid hm1
      have HB3 := Lib.hid (HV0.out.trans (hb.mono HV0.out.size))
      have b1 := HBx3.out.cellAt 2 rfl
      have b2 := HBx3.out.cellAt 3 rfl
      have bf := HBx3.out.frozenAt 2
      clear hm1 hb HV0 HBx HW1 HZ0 kk i1 i2 e0 e1 e2 e3 e4 e5 e6
      go_wp2_with fail
      have HBx4 := Lib.hid (HBx3.out.set (j := 2) (.slice va3 st.opens.length vc3))
      have HB4 := Lib.hid (HB3.out.setCell (p := ⟨wr.heap.size, 2, none⟩) (Nat.le_refl _) (.slice va3 st.opens.length vc3))
      refine (HW2.out _ HB4.out).mono ?_
      rintro e w5 ⟨va4, vc4, rfl, hm2, hb⟩
      have hz5 : w3.heap.size ≤ w5.heap.size := by have := hb.size; simpa [World.setCell] using this
      have hz1 : (w3.setCell ⟨wr.heap.size, 2, none⟩ (.slice va3 st.opens.length vc3)).heap.size = w3.heap.size := by simp [World.setCell]
      have HBx5 := Lib.hid (HBx4.out.below hb (Nat.le_refl _))
      rw [hz1] at hm2 hb
      have hm2' := hm2.weak (P' := From (wr.heap.size + 1)) fun b hb2 _ => by have : w3.heap.size ≤ b := hb2; show wr.heap.size + 1 ≤ b; omega
      obtain ⟨hB7, hM1, hM2⟩ := two_new (wr := wr) (j1 := 2) (j2 := 3) (u2 := (.slice va4 st.closes.length vc4)) rfl hz3 HM1.out HB3.out hm2' hb
      have g0 := HBx5.out.cellAt 0 rfl
      have g1 := HBx5.out.cellAt 1 rfl
      have g2 := HBx5.out.cellAt 2 rfl
      have g3 := HBx5.out.cellAt 3 rfl
      have g4 := HBx5.out.cellAt 4 rfl
      have g5 := HBx5.out.cellAt 5 rfl
      have g6 := HBx5.out.cellAt 6 rfl
      have gf := HBx5.out.frozenAt 3
      obtain ⟨g', vc', w8, hap, hA8, hg8⟩ := HPU.out _ hB7 [.string st.name, .int .i64 st.inn, .slice va3 st.opens.length vc3, .slice va4 st.closes.length vc4, .string st.role, .int .i64 st.aft, .string st.event] rfl rfl (.cons (.atom _) (.cons (.atom _) (.cons hM1 (.cons hM2 (.cons (.atom _) (.cons (.atom _) (.cons (.atom _) (MemL.nil _ _ _)))))))) (fun u hu => by simp only [List.mem_cons, List.not_mem_nil, or_false] at hu; rcases hu with rfl | rfl | rfl | rfl | rfl | rfl | rfl <;> rfl) (by rw [HTL.out]; unfold maxLen; omega) (by rw [HTL.out]; omega)
      rw [HTL.out] at hap
      have hz7 : (w5.setCell ⟨wr.heap.size, 3, none⟩ (.slice va4 st.closes.length vc4)).heap.size = w5.heap.size := by simp [World.setCell]
      rw [hz7] at hap
      have HAP1 := Lib.hid hap
      rw [← hst] at hA8
      have HN8 := Lib.hid (HTK.out _ _ _ _ hA8)
      have HT7 := Lib.hid (HT.out.call ((HB4.out.trans (hb.mono (by omega)))))
      have u3 := HT7.out.bx.cr 3 _ rfl
      have u8 := HN8.out.bx.cr 3 _ rfl
      have uf8 := HN8.out.bx.fr 3
      have hne := HT.out.bx.lt
      have hne2 : rb ≠ wr.heap.size := by omega
      have hne3 : rb < w5.heap.size := by have := HB3.out.size; omega
      clear hap hA8 hg8 hm2 hm2' hb hz5 hz1 hz7 hB7 hM1 hM2 HBx3 HBx4 HBx5 HB4 HB3 HM1 HW2 b1 b2 bf HT hz3 HPU HTK HTL HT7 hst
      go_wp2_with (at_builtin; refine wpList_append_run rfl (.tmp 47) (.tmp 49) 49 rfl rfl rfl HAP1.out ?_)
      have HN9 := Lib.hid (HN8.out.setR 3 (.slice (some ⟨g', 0, none⟩) (m + 1) vc'))
      have wr1 : True := trivial
      go_roundw
      case rel => exact ⟨m + 1, _, _, _, by omega, by go_num, HN9⟩
      case measure => simp [intOf]; omega
    · have hme : m = md.stages.length := by omega
      subst hme
      have i1 : ¬ (md.stages.length : Int) < (md.stages.length : Int) := by omega
      have hd1 := HT.out.done (by omega)
      rw [List.take_of_length_le (Nat.le_refl _)] at hd1
      have HD4 := Lib.hid hd1
      clear HT hd1 H3
      have HT5 := Lib.hid (UA.start HD4.out 116 3 StoneD.ds)
      clear HD4
      have k4 := HT5.out.bx.cp 4 _ rfl
      go_upto_region 12 with fail
      clear k4 kk
      generalize wr.heap.size = M5 at HT5
      go_loopw [6] (fun j wx => ∃ (m : Nat) (vat : Option Addr) (vct : Nat) (vs : List (List Value)), m ≤ md.stones.length ∧ j = .int .i64 m ∧ Hid (UA 53 6 rb [(.list 7 (md.stages.map StageD.ds), .slice vas md.stages.length vcs), (flatL 2 pairC md.apart, .slice va5 md.apart.length vc5), (flatL 2 AttrD.cs md.attrs, .slice va1 md.attrs.length vc1), (strD md.events, .slice va md.events.length vc)] 116 3 StoneD.ds w wx (modelC md.name (.slice a1 md.attrs.length c1) (.slice a2 md.events.length c2) (.slice a3 md.stages.length c3) (.slice a4 md.stones.length c4) (.slice a5 md.apart.length c5)) (modelC ⟨#[]⟩ (.slice none 0 0) (.slice none 0 0) (.slice none 0 0) (.slice none 0 0) (.slice none 0 0)) (modelC md.name (.slice va1 md.attrs.length vc1) (.slice va md.events.length vc) (.slice vas md.stages.length vcs) (.slice vat m vct) (.slice va5 md.apart.length vc5)) M5 vat vct (md.stones.take m) vs)) (fun j _ => md.stones.length - (intOf j).toNat)
      case atStart => exact ⟨0, none, 0, [], Nat.zero_le _, rfl, HT5.out⟩
      case round =>
        clear HT5
        obtain ⟨m, vat, vct, vs, hml, rfl, HT⟩ := hrel
        have kk := HT.out.bx.cp 4 _ rfl
        by_cases hlt : m < md.stones.length
        · obtain ⟨rfl, -, hbl⟩ := H4.out.at0 (by omega)
          obtain ⟨us0, hr, hcell⟩ := H4.out.row m hlt
          have hso := HTO.out _ (List.getElem_mem hlt)
          have HTL : Hid ((md.stones.take m).length = m) := by show _ = _; rw [List.length_take]; omega
          have HPU := Lib.hid (fun (W' : World) (hb : Below wr.heap.size wr W') (us : List Value) (hu : us.length = 3) (hx : (StoneD.ds md.stones[m]).length = 3) (hm : MemL true (From wr.heap.size) W' (StoneD.ds md.stones[m]) us) (h1 : ∀ u ∈ us, u.oneCell' = true) h63 hby => HT.out.push elemStone 50 hb hu hx hm h1 h63 hby)
          have HTK := Lib.hid (fun W8 vx vy vz h => UA.took (E := 53) (k := 6) (rb := rb) (fs := [(.list 7 (md.stages.map StageD.ds), .slice vas md.stages.length vcs), (flatL 2 pairC md.apart, .slice va5 md.apart.length vc5), (flatL 2 AttrD.cs md.attrs, .slice va1 md.attrs.length vc1), (strD md.events, .slice va md.events.length vc)]) (E2 := 116) (k2 := 3) (f := StoneD.ds) (w := w) (W := W8) (x := (modelC md.name (.slice a1 md.attrs.length c1) (.slice a2 md.events.length c2) (.slice a3 md.stages.length c3) (.slice (some ⟨b4, o4, none⟩) md.stones.length c4) (.slice a5 md.apart.length c5))) (y := (modelC ⟨#[]⟩ (.slice none 0 0) (.slice none 0 0) (.slice none 0 0) (.slice none 0 0) (.slice none 0 0))) (z := (modelC md.name (.slice va1 md.attrs.length vc1) (.slice va md.events.length vc) (.slice vas md.stages.length vcs) (.slice vat m vct) (.slice va5 md.apart.length vc5))) (M := M5) (va := vx) (vc := vy) (vs := vz) (l := md.stones) hlt h)
          obtain ⟨st, hst⟩ : ∃ st, md.stones[m] = st := ⟨_, rfl⟩
          rw [hst] at hr hso HPU
          obtain ⟨sa, sc, sa2, sc2, rfl, hop, hcl⟩ := StoneD.cells hr
          have e0 := cellBelow2 HT.out.bx.below (hcell 0 _ rfl)
          have e1 := cellBelow2 HT.out.bx.below (hcell 1 _ rfl)
          have e2 := cellBelow2 HT.out.bx.below (hcell 2 _ rfl)
          simp only [Nat.add_zero] at e0
          have hg1 := hop.grow HT.out.bx.below
          have hg2 := hcl.grow HT.out.bx.below
          have HV0 := Lib.hid ((Below.refl wr.heap.size wr).alloc (Nat.le_refl _) (.cells #[.string st.name, .slice sa st.done.length sc, .slice sa2 st.undo.length sc2] 116))
          have HBx := Lib.hid (ownBox wr #[.string st.name, .slice sa st.done.length sc, .slice sa2 st.undo.length sc2] 116 3 wr.heap.size (Nat.le_refl _) rfl)
          have HW1 := Lib.hid (refList _ st.done (wr.alloc (.cells #[.string st.name, .slice sa st.done.length sc, .slice sa2 st.undo.length sc2] 116)) hso.1 (hg1.grow HV0.out))
          have HW2 := Lib.hid (fun W (hb : Below wr.heap.size wr W) => refList _ st.undo W hso.2 (hg2.grow hb))
          have HZ0 : Hid ((wr.alloc (.cells #[.string st.name, .slice sa st.done.length sc, .slice sa2 st.undo.length sc2] 116)).heap.size = wr.heap.size + 1) := by show _ = _; simp
          have i1 : (0 : Int) ≤ (m : Int) := by omega
          have i2 : (m : Int) < (md.stones.length : Int) := by omega
          clear hr hop hcl hg1 hg2 hso hbl hcell HO H4
          go_wp2_with fail
          refine HW1.out.mono ?_
          rintro e w3 ⟨va3, vc3, rfl, hm1, hb⟩
          have HBx3 := Lib.hid (HBx.out.below hb (Nat.le_refl _))
          have hz3 : wr.heap.size + 1 ≤ w3.heap.size := by have := hb.size; rw [HZ0.out] at this; exact this
          rw [HZ0.out] at hm1
          have HM1 := Lib.hid hm1
          have HB3 := Lib.hid (HV0.out.trans (hb.mono HV0.out.size))
          have b1 := HBx3.out.cellAt 1 rfl
          have b2 := HBx3.out.cellAt 2 rfl
          have bf := HBx3.out.frozenAt 1
          clear hm1 hb HV0 HBx HW1 HZ0 kk i1 i2 e0 e1 e2
          go_wp2_with fail
          have HBx4 := Lib.hid (HBx3.out.set (j := 1) (.slice va3 st.done.length vc3))
          have HB4 := Lib.hid (HB3.out.setCell (p := ⟨wr.heap.size, 1, none⟩) (Nat.le_refl _) (.slice va3 st.done.length vc3))
          refine (HW2.out _ HB4.out).mono ?_
          rintro e w5 ⟨va4, vc4, rfl, hm2, hb⟩
          have hz5 : w3.heap.size ≤ w5.heap.size := by have := hb.size; simpa [World.setCell] using this
          have hz1 : (w3.setCell ⟨wr.heap.size, 1, none⟩ (.slice va3 st.done.length vc3)).heap.size = w3.heap.size := by simp [World.setCell]
          have HBx5 := Lib.hid (HBx4.out.below hb (Nat.le_refl _))
          rw [hz1] at hm2 hb
          have hm2' := hm2.weak (P' := From (wr.heap.size + 1)) fun b hb2 _ => by have : w3.heap.size ≤ b := hb2; show wr.heap.size + 1 ≤ b; omega
          obtain ⟨hB7, hM1, hM2⟩ := two_new (wr := wr) (j1 := 1) (j2 := 2) (u2 := (.slice va4 st.undo.length vc4)) rfl hz3 HM1.out HB3.out hm2' hb
          have g0 := HBx5.out.cellAt 0 rfl
          have g1 := HBx5.out.cellAt 1 rfl
          have g2 := HBx5.out.cellAt 2 rfl
          have gf := HBx5.out.frozenAt 2
          obtain ⟨g', vc', w8, hap, hA8, hg8⟩ := HPU.out _ hB7 [.string st.name, .slice va3 st.done.length vc3, .slice va4 st.undo.length vc4] rfl rfl (.cons (.atom _) (.cons hM1 (.cons hM2 (MemL.nil _ _ _)))) (fun u hu => by simp only [List.mem_cons, List.not_mem_nil, or_false] at hu; rcases hu with rfl | rfl | rfl <;> rfl) (by rw [HTL.out]; unfold maxLen; omega) (by rw [HTL.out]; omega)
          rw [HTL.out] at hap
          have hz7 : (w5.setCell ⟨wr.heap.size, 2, none⟩ (.slice va4 st.undo.length vc4)).heap.size = w5.heap.size := by simp [World.setCell]
          rw [hz7] at hap
          have HAP1 := Lib.hid hap
          rw [← hst] at hA8
          have HN8 := Lib.hid (HTK.out _ _ _ _ hA8)
          have HT7 := Lib.hid (HT.out.call ((HB4.out.trans (hb.mono (by omega)))))
          have u3 := HT7.out.bx.cr 4 _ rfl
          have u8 := HN8.out.bx.cr 4 _ rfl
          have uf8 := HN8.out.bx.fr 4
          have hne := HT.out.bx.lt
          have hne2 : rb ≠ wr.heap.size := by omega
          have hne3 : rb < w5.heap.size := by have := HB3.out.size; omega
          clear hap hA8 hg8 hm2 hm2' hb hz5 hz1 hz7 hB7 hM1 hM2 HBx3 HBx4 HBx5 HB4 HB3 HM1 HW2 b1 b2 bf HT hz3 HPU HTK HTL HT7 hst
          go_wp2_with (at_builtin; refine wpList_append_run rfl (.tmp 73) (.tmp 75) 50 rfl rfl rfl HAP1.out ?_)
          have HN9 := Lib.hid (HN8.out.setR 4 (.slice (some ⟨g', 0, none⟩) (m + 1) vc'))
          have wr1 : True := trivial
          go_roundw
          case rel => exact ⟨m + 1, _, _, _, by omega, by go_num, HN9⟩
          case measure => simp [intOf]; omega
        · have hme : m = md.stones.length := by omega
          subst hme
          have i1 : ¬ (md.stones.length : Int) < (md.stones.length : Int) := by omega
          have hd1 := HT.out.done (by omega)
          rw [List.take_of_length_le (Nat.le_refl _)] at hd1
          have HD5 := Lib.hid hd1
          clear HT hd1 H4
          have r0 := HD5.out.bx.cr 0 _ rfl
          have r1 := HD5.out.bx.cr 1 _ rfl
          have r2 := HD5.out.bx.cr 2 _ rfl
          have r3 := HD5.out.bx.cr 3 _ rfl
          have r4 := HD5.out.bx.cr 4 _ rfl
          have r5 := HD5.out.bx.cr 5 _ rfl
          have q0 := HD5.out.bx.cq 0 _ rfl
          have q1 := HD5.out.bx.cq 1 _ rfl
          have q2 := HD5.out.bx.cq 2 _ rfl
          have q3 := HD5.out.bx.cq 3 _ rfl
          have q4 := HD5.out.bx.cq 4 _ rfl
          have q5 := HD5.out.bx.cq 5 _ rfl
          have hf := HD5.out.bx.fq
          go_wp2_with fail
          have h7 := (((((HD5.out.setQ 0 (.string md.name)).setQ 1 (.slice va1 md.attrs.length vc1)).setQ 2 (.slice va md.events.length vc)).setQ 3 (.slice vas md.stages.length vcs)).setQ 4 (.slice vat md.stones.length vct)).setQ 5 (.slice va5 md.apart.length vc5)
          have hfr := fun p hp => (h7.ms p hp).weak (P' := From w.heap.size) fun b hb _ => by have := hb.1; show w.heap.size ≤ b; omega
          exact ret_mtwin (n := md.name) (v1 := .slice va1 md.attrs.length vc1) (v2 := .slice va md.events.length vc) (v3 := .slice vas md.stages.length vcs) (v4 := .slice vat md.stones.length vct) (v5 := .slice va5 md.apart.length vc5) h7.bx rfl rfl (HDS.out _ ⟨va1, vc1, va, vc, vas, vcs, vat, vct, va5, vc5⟩ ⟨hfr (flatL 2 AttrD.cs md.attrs, .slice va1 md.attrs.length vc1) (by simp), hfr (strD md.events, .slice va md.events.length vc) (by simp), hfr (.list 7 (md.stages.map StageD.ds), .slice vas md.stages.length vcs) (by simp), hfr (.list 3 (md.stones.map StoneD.ds), .slice vat md.stones.length vct) (by simp), hfr (flatL 2 pairC md.apart, .slice va5 md.apart.length vc5) (by simp)⟩ h7.bx.below)
end Go.Proofs.YtinijohmdljieaaGreatDoor
