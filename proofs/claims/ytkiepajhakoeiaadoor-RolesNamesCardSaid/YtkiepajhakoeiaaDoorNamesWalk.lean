/- docketlaw20.RolesNames: its walk. -/
import Derived.Test.YtkiepajhakoeiaaDoorAlive
import Derived.Test.YtkiepajhakoeiaaDoorRolesApart
import Derived.Test.YtkiepajhakoeiaaDoorRolesMay
namespace Go.Proofs.YtkiepajhakoeiaaDoor
open Go.RowKit

abbrev annB : ByteArray := ⟨#[97, 110, 110]⟩
abbrev bobB : ByteArray := ⟨#[98, 111, 98]⟩
abbrev capB : ByteArray := ⟨#[65]⟩
abbrev aB : ByteArray := ⟨#[97]⟩
abbrev bB : ByteArray := ⟨#[98]⟩

theorem two_mayE {l : List Rl} (h : TwoIs l) {names : List ByteArray} (hn : names.length ≤ 1024) (deed : ByteArray) : mayE l names deed = if named deed.data.toList then 0 else 5 := by
  unfold mayE
  rw [two_closed h hn, if_neg (by simp)]
theorem two_may1 {l : List Rl} (h : TwoIs l) {b : Bool} (hm : MayIs l [bossB] checkB b) : b = true := by
  refine hm.2 ⟨by rw [two_mayE h (by simp)]; rfl, ?_⟩
  obtain ⟨a, c, a', c', a2, c2, rfl⟩ := h
  exact ⟨⟨clerkB, none, 0, a2, c2, [], [checkB]⟩, .more (n := clerkB) (r := ⟨bossB, a, c, a', c', [clerkB], [signB]⟩) (.start (n := bossB) (by simp) rfl) (by simp) rfl, by simp⟩
theorem two_may2 {l : List Rl} (h : TwoIs l) {b : Bool} (hm : MayIs l [clerkB] signB b) : b = false := by
  cases b with
  | false => rfl
  | true =>
    obtain ⟨-, r, hr, hs⟩ := hm.1 rfl
    obtain ⟨a, c, a', c', a2, c2, rfl⟩ := h
    have key : ∀ r, Reach [⟨bossB, a, c, a', c', [clerkB], [signB]⟩, ⟨clerkB, none, 0, a2, c2, [], [checkB]⟩] [clerkB] r → r = ⟨clerkB, none, 0, a2, c2, [], [checkB]⟩ := by
      intro r hr
      induction hr with
      | start hn hf =>
        rw [List.mem_singleton.1 hn] at hf
        exact (Option.some.inj ((show findR _ _ = some (⟨clerkB, none, 0, a2, c2, [], [checkB]⟩ : Rl) from rfl).symm.trans hf)).symm
      | more _ hn _ ih => rw [ih] at hn; cases hn
    rw [key r hr] at hs
    have := List.mem_singleton.1 hs
    cases this

theorem strs_one (w : World) (s : ByteArray) : Strs (w.alloc (.cells #[.string s] 9)).heap.size (w.alloc (.cells #[.string s] 9)) (.slice (some ⟨w.heap.size, 0, none⟩) 1 1) [s] :=
  strs_block [s] (cs := #[.string s]) (t := 9) (fz := (0, 0)) (by simp [heap_push]) rfl (by simp) 1 (by simp)
theorem str2_block {B b : Nat} {w : World} {t : TypeId} {fz : Nat × Nat} (x y : ByteArray) (hb : w.heap[b]? = some (.cells #[.string x, .string y] t fz)) (hB : b < B) : Str2s B w (.slice (some ⟨b, 0, none⟩) 1 1) [(x, y)] := by
  refine ⟨some ⟨b, 0, none⟩, 1, b, 0, rfl, by simp, fun _ => ⟨rfl, hB⟩, fun j p hj => ⟨fun i => (#[Value.string x, Value.string y] : Array Value).getD i undef, fun i hi => ?_, ?_⟩⟩
  all_goals
    match j, hj with
    | 0, hj =>
      injection hj with hj
      subst hj
      first
        | exact ⟨rfl, rfl⟩
        | (rw [cell_of hb]
           match i, hi with
           | 0, _ => rfl
           | 1, _ => rfl)
    | j + 1, hj => simp at hj

abbrev apN : List (ByteArray × ByteArray) := [(clerkB, bossB)]
abbrev acN : List (ByteArray × ByteArray) := [(annB, clerkB)]
theorem apN1 : apart apN acN annB bossB = true := by decide +kernel
theorem apN2 : apart apN acN bobB bossB = false := by decide +kernel
theorem apE1 : apartE apN acN bossB = 0 := by decide +kernel
theorem apE2 : apartE apN acN capB = 5 := by decide +kernel
theorem rls_one (w : World) : Rls ((w.alloc (.cells #[.string bB] 9)).alloc (.cells #[.string aB, .slice (some ⟨w.heap.size, 0, none⟩) 1 1, .slice none 0 0] 39)).heap.size ((w.alloc (.cells #[.string bB] 9)).alloc (.cells #[.string aB, .slice (some ⟨w.heap.size, 0, none⟩) 1 1, .slice none 0 0] 39)) (.slice (some ⟨w.heap.size + 1, 0, none⟩) 1 1) [⟨aB, some ⟨w.heap.size, 0, none⟩, 1, none, 0, [bB], []⟩] := by
  refine ⟨some ⟨w.heap.size + 1, 0, none⟩, 1, w.heap.size + 1, 0, rfl, by simp, fun _ => ⟨rfl, by simp⟩, fun j x hj => ?_⟩
  match j, hj with
  | 0, hj =>
    injection hj with hj
    subst hj
    refine ⟨fun i => (#[Value.string aB, .slice (some ⟨w.heap.size, 0, none⟩) 1 1, .slice none 0 0] : Array Value).getD i undef, fun i hi => ?_, rfl, rfl, rfl, strs_block [bB] (cs := #[.string bB]) (t := 9) (fz := (0, 0)) (by simp only [heap_push, Array.getElem?_push, Array.size_push]; repeat (first | rw [if_pos trivial] | rw [if_pos (by omega)] | rw [if_neg (by omega)])) rfl (by simp; omega) _ (by simp), strs_none _ _, ⟨show (1 : Nat) ≤ maxLen by decide +kernel, fun s hs => by rw [List.mem_singleton.1 hs]; decide +kernel, by simp, show (1 : Nat) ≤ maxLen by decide +kernel, show (0 : Nat) ≤ maxLen by decide +kernel⟩⟩
    rw [cell_of (cs := #[Value.string aB, .slice (some ⟨w.heap.size, 0, none⟩) 1 1, .slice none 0 0]) (t := 39) (fz := (0, 0)) (by simp only [heap_push, Array.getElem?_push, Array.size_push]; repeat (first | rw [if_pos trivial] | rw [if_pos (by omega)] | rw [if_neg (by omega)]))]
    match i, hi with
    | 0, _ => rfl
    | 1, _ => rfl
    | 2, _ => rfl
  | j + 1, hj => simp at hj
theorem chkN (m : Option Addr) (c : Nat) : chkP [⟨aB, m, c, none, 0, [bB], []⟩] = 200 := by rfl

set_option maxHeartbeats 2500000 in
theorem rolesNames_walk (w : World) : Calls Tryd.prog 8 #[] w fun e w' => e = .returned (.bool true) ∧ Below w.heap.size w w' := by
  go_enter Tryd.func8, Tryd.ntmps8
  go_wp2_with fail
  refine (law_two _).mono ?_
  rintro e w1 ⟨v, l, rfl, hT, hR, hb⟩
  have h2 : Hid (l.length = 2) := Lib.hid (by obtain ⟨_, _, _, _, _, _, rfl⟩ := hT; rfl)
  obtain ⟨a, c, b, o, rfl, -, -⟩ := hR.cells
  go_wp2_with fail
  have hba := (Below.refl w1.heap.size w1).alloc (Nat.le_refl _) (.cells #[.string bossB] 9)
  have c1 := roles_May _ _ l [bossB] checkB _ ((Rls.below hR hba).mono (by simp)) (by rw [h2.out]; decide +kernel) (strs_one w1 bossB) (by decide +kernel) (fun s hs => by rw [List.mem_singleton.1 hs]; decide +kernel) (by decide +kernel)
  rw [two_mayE hT (by simp)] at c1
  refine c1.mono ?_
  rintro e w2 ⟨bo, rfl, hM, hb2⟩
  obtain rfl := two_may1 hT hM
  have hB2 := (hb.trans (hba.mono hb.size)).trans (hb2.mono (by have := hb.size; simp; omega))
  rw [show (if named checkB.data.toList = true then (0 : Int) else 5) = 0 from rfl]
  clear hM hba hb2 hb hR hT h2 c1
  go_wp2_with fail
  refine (law_two _).mono ?_
  rintro e w3 ⟨v, l, rfl, hT, hR, hb⟩
  have h2 : Hid (l.length = 2) := Lib.hid (by obtain ⟨_, _, _, _, _, _, rfl⟩ := hT; rfl)
  obtain ⟨a, c, b, o, rfl, -, -⟩ := hR.cells
  go_wp2_with fail
  have hba := (Below.refl w3.heap.size w3).alloc (Nat.le_refl _) (.cells #[.string clerkB] 9)
  have c1 := roles_May _ _ l [clerkB] signB _ ((Rls.below hR hba).mono (by simp)) (by rw [h2.out]; decide +kernel) (strs_one w3 clerkB) (by decide +kernel) (fun s hs => by rw [List.mem_singleton.1 hs]; decide +kernel) (by decide +kernel)
  rw [two_mayE hT (by simp)] at c1
  refine c1.mono ?_
  rintro e w4 ⟨bo, rfl, hM, hb2⟩
  obtain rfl := two_may2 hT hM
  have hB4 := hB2.trans (((hb.trans (hba.mono hb.size)).trans (hb2.mono (by have := hb.size; simp; omega))).mono hB2.size)
  rw [show (if named signB.data.toList = true then (0 : Int) else 5) = 0 from rfl]
  clear hM hba hb2 hb hR hT h2 c1 hB2
  go_wp2_with fail
  refine (law_two _).mono ?_
  rintro e w5 ⟨v, l, rfl, hT, hR, hb⟩
  have h2 : Hid (l.length = 2) := Lib.hid (by obtain ⟨_, _, _, _, _, _, rfl⟩ := hT; rfl)
  obtain ⟨a, c, b, o, rfl, -, -⟩ := hR.cells
  go_wp2_with fail
  have c1 := roles_May _ _ l [] ⟨#[]⟩ _ hR (by rw [h2.out]; decide +kernel) (strs_none w5.heap.size w5) (by decide +kernel) (fun s hs => by cases hs) (by decide +kernel)
  rw [two_mayE hT (by simp)] at c1
  refine c1.mono ?_
  rintro e w6 ⟨bo, rfl, -, hb2⟩
  have hB6 := hB4.trans ((hb.trans (hb2.mono hb.size)).mono hB4.size)
  rw [show (if named (⟨#[]⟩ : ByteArray).data.toList = true then (0 : Int) else 5) = 5 from rfl]
  clear hb2 hb hR hT h2 c1 hB4
  go_wp2_with fail
  have hA7 : Str2s _ _ _ apN := str2_block (B := ((w6.alloc (.cells #[.string clerkB, .string bossB] 49)).alloc (.cells #[.string annB, .string clerkB] 51)).heap.size) (b := w6.heap.size) (w := ((w6.alloc (.cells #[.string clerkB, .string bossB] 49)).alloc (.cells #[.string annB, .string clerkB] 51))) (t := 49) (fz := (0, 0)) clerkB bossB (by simp only [heap_push, Array.getElem?_push, Array.size_push]; repeat (first | rw [if_pos trivial] | rw [if_pos (by omega)] | rw [if_neg (by omega)])) (by simp; omega)
  have hC7 : Str2s _ _ _ acN := str2_block (B := ((w6.alloc (.cells #[.string clerkB, .string bossB] 49)).alloc (.cells #[.string annB, .string clerkB] 51)).heap.size) (b := w6.heap.size + 1) (w := ((w6.alloc (.cells #[.string clerkB, .string bossB] 49)).alloc (.cells #[.string annB, .string clerkB] 51))) (t := 51) (fz := (0, 0)) annB clerkB (by simp only [heap_push, Array.getElem?_push, Array.size_push]; repeat (first | rw [if_pos trivial] | rw [if_pos (by omega)] | rw [if_neg (by omega)])) (by simp)
  have hB7 : Below w.heap.size w ((w6.alloc (.cells #[.string clerkB, .string bossB] 49)).alloc (.cells #[.string annB, .string clerkB] 51)) := (hB6.alloc hB6.size _).alloc (by have := hB6.size; simp; omega) _
  generalize ((w6.alloc (.cells #[.string clerkB, .string bossB] 49)).alloc (.cells #[.string annB, .string clerkB] 51)) = w7 at *
  have cA := fun user role W (hr : role.size ≤ maxLen) (hb : Below w7.heap.size w7 W) => roles_Apart _ _ apN acN user role W hr (by decide +kernel) (by decide +kernel) ((hA7.below hb).mono hb.size) ((hC7.below hb).mono hb.size)
  have c8 := cA annB bossB w7 (by decide +kernel) (Below.refl _ _)
  rw [apN1, apE1] at c8
  refine c8.mono ?_
  rintro e w8 ⟨rfl, hb8⟩
  have c9 := cA bobB bossB w8 (by decide +kernel) hb8
  rw [apN2, apE1] at c9
  clear c8
  go_wp2_with fail
  refine c9.mono ?_
  rintro e w9 ⟨rfl, hb9⟩
  have hb79 := hb8.trans (hb9.mono hb8.size)
  have c10 := cA bobB capB w9 (by decide +kernel) hb79
  rw [apE2] at c10
  clear c9
  go_wp2_with fail
  refine c10.mono ?_
  rintro e w10 ⟨rfl, hb10⟩
  have hB10 := hB7.trans ((hb79.trans (hb10.mono hb79.size)).mono hB7.size)
  clear c10 cA hA7 hC7 hb79 hb10 hb9 hb8 hB7 hB6
  go_wp2_with fail
  refine (law_alive _).mono ?_
  rintro e w11 ⟨rfl, hb11⟩
  have hB11 := hB10.trans (hb11.mono hB10.size)
  clear hb11 hB10
  go_wp2_with fail
  have hB12 : Below w.heap.size w ((w11.alloc (.cells #[.string bB] 9)).alloc (.cells #[.string aB, .slice (some ⟨w11.heap.size, 0, none⟩) 1 1, .slice none 0 0] 39)) := (hB11.alloc hB11.size _).alloc (by have := hB11.size; simp; omega) _
  have cK := roles_Check _ _ _ (rls_one w11) (show (1 : Nat) ≤ maxLen by decide +kernel)
  rw [chkN] at cK
  refine cK.mono ?_
  rintro e w12 ⟨rfl, hb12⟩
  have hB13 := Lib.hid (hB12.trans (hb12.mono hB12.size))
  clear hb12 hB12 cK
  go_wp2
  go_ret
  exact ⟨rfl, hB13.out⟩
end Go.Proofs.YtkiepajhakoeiaaDoor
