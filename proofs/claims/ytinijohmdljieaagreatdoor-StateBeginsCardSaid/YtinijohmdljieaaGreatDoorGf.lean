/- state.New. state.New at what may be. docketref24.New at what may not be. -/
import Derived.Test.YtinijohmdljieaaGreatDoorGe
namespace Go.Proofs.YtinijohmdljieaaGreatDoor
open Go.RowKit

/-- what New says of a secret, roles and a user -/
def newE (sec n s p : ByteArray) (rs : List ByteArray) (l : List Rl) : Int := if sec.size = 0 ∨ 64 < sec.size then 3 else if chkP l ≠ 0 ∨ mayB n s p rs = false then 8 else 0
set_option maxHeartbeats 8000000 in
set_option maxRecDepth 100000 in
theorem stNew_short (sec n s p : ByteArray) (v u : Value) (w : World) (h : sec.size = 0 ∨ 64 < sec.size) :
    Calls Tryz.prog 6 #[.string sec, v, .agg #[.string n, .string s, .string p, u]] w fun e w' => e = .returned (.tuple #[stV ⟨#[]⟩ (.slice none 0 0) (.slice none 0 0), .int .i64 3]) ∧ Below w.heap.size w w' := by
  have HN0 := Lib.hid (NwS.start n s p u w)
  by_cases h0 : sec.size = 0
  · have d0 : ((sec.size : Int) == 0) = true := by rw [h0]; rfl
    have hs : Hid (sec.size = 0) := h0
    clear h0 h
    go_enter Tryz.func6, Tryz.ntmps6
    go_upto_region 3 with fail
    revert HN0
    generalize ((w.alloc (.cells #[.string n, .string s, .string p, u] 25)).alloc (stO ⟨#[]⟩ (.slice none 0 0) (.slice none 0 0))) = W0
    intro HN
    have q0 := HN.out.cq 0 _ rfl
    have q1 := HN.out.cq 1 _ rfl
    have q2 := HN.out.cq 2 _ rfl
    have q3 := HN.out.cq 3 _ rfl
    have q4 := HN.out.cq 4 _ rfl
    have q5 := HN.out.cq 5 _ rfl
    have q6 := HN.out.cq 6 _ rfl
    have q7 := HN.out.cq 7 _ rfl
    have q8 := HN.out.cq 8 _ rfl
    have q9 := HN.out.cq 9 _ rfl
    have q10 := HN.out.cq 10 _ rfl
    have q11 := HN.out.cq 11 _ rfl
    have q12 := HN.out.cq 12 _ rfl
    have q13 := HN.out.cq 13 _ rfl
    have hf := HN.out.fq
    go_wp2_with fail
    have h7 := HN.out.allQ (.int .i64 0) (.string ⟨#[]⟩) (.slice none 0 0) (.slice none 0 0) (.slice none 0 0) (.slice none 0 0) (.slice none 0 0) (.slice none 0 0) (.slice none 0 0) (.slice none 0 0) (.int .i64 0) (.int .i64 0) (.int .i64 0) (.int .i64 0)
    exact ret_new (sec := ⟨#[]⟩) h7 rfl rfl rfl ⟨rfl, h7.below⟩
  · have d0 : ((sec.size : Int) == 0) = false := by rw [beq_eq_false_iff_ne]; omega
    have d1 : decide (64 < (sec.size : Int)) = true := decide_eq_true (by omega)
    clear h0 h
    go_enter Tryz.func6, Tryz.ntmps6
    go_upto_region 3 with fail
    revert HN0
    generalize ((w.alloc (.cells #[.string n, .string s, .string p, u] 25)).alloc (stO ⟨#[]⟩ (.slice none 0 0) (.slice none 0 0))) = W0
    intro HN
    have q0 := HN.out.cq 0 _ rfl
    have q1 := HN.out.cq 1 _ rfl
    have q2 := HN.out.cq 2 _ rfl
    have q3 := HN.out.cq 3 _ rfl
    have q4 := HN.out.cq 4 _ rfl
    have q5 := HN.out.cq 5 _ rfl
    have q6 := HN.out.cq 6 _ rfl
    have q7 := HN.out.cq 7 _ rfl
    have q8 := HN.out.cq 8 _ rfl
    have q9 := HN.out.cq 9 _ rfl
    have q10 := HN.out.cq 10 _ rfl
    have q11 := HN.out.cq 11 _ rfl
    have q12 := HN.out.cq 12 _ rfl
    have q13 := HN.out.cq 13 _ rfl
    have hf := HN.out.fq
    go_wp2_with fail
    have h7 := HN.out.allQ (.int .i64 0) (.string ⟨#[]⟩) (.slice none 0 0) (.slice none 0 0) (.slice none 0 0) (.slice none 0 0) (.slice none 0 0) (.slice none 0 0) (.slice none 0 0) (.slice none 0 0) (.int .i64 0) (.int .i64 0) (.int .i64 0) (.int .i64 0)
    exact ret_new (sec := ⟨#[]⟩) h7 rfl rfl rfl ⟨rfl, h7.below⟩
set_option maxHeartbeats 8000000 in
set_option maxRecDepth 100000 in
theorem stNew_roles (sec n s p : ByteArray) (a : Option Addr) (c : Nat) (rs : List ByteArray) (v : Value) (l : List Rl) (w : World) (h0 : ¬ sec.size = 0) (h64 : ¬ 64 < sec.size)
    (h : Rls w.heap.size w v l) (hl : l.length ≤ maxLen) (hk : chkP l ≠ 0) :
    Calls Tryz.prog 6 #[.string sec, v, .agg #[.string n, .string s, .string p, .slice a rs.length c]] w fun e w' => e = .returned (.tuple #[stV ⟨#[]⟩ (.slice none 0 0) (.slice none 0 0), .int .i64 8]) ∧ Below w.heap.size w w' := by
  have HN0 := Lib.hid (NwS.start n s p (.slice a rs.length c) w)
  have d0 : ((sec.size : Int) == 0) = false := by rw [beq_eq_false_iff_ne]; omega
  have d1 : decide (64 < (sec.size : Int)) = false := decide_eq_false (by omega)
  have HC := Lib.hid (fun W (hb : Below w.heap.size w W) => roles_Check v l W ((Rls.below h hb).mono hb.size) hl)
  obtain ⟨x, hx⟩ : ∃ x, chkP l = x := ⟨_, rfl⟩
  have d2 : (x != 0) = true := by rw [← hx]; simpa using hk
  rw [hx] at HC
  clear hx hk h h0 h64
  go_enter Tryz.func6, Tryz.ntmps6
  go_upto_region 4 with fail
  revert HN0
  generalize ((w.alloc (.cells #[.string n, .string s, .string p, .slice a rs.length c] 25)).alloc (stO ⟨#[]⟩ (.slice none 0 0) (.slice none 0 0))) = W0
  intro HN0
  go_wp2_with fail
  refine (HC.out _ HN0.out.below).mono ?_
  rintro e w1 ⟨rfl, hb1⟩
  have HN := Lib.hid (HN0.out.call hb1)
  clear hb1 HC HN0
  have q0 := HN.out.cq 0 _ rfl
  have q1 := HN.out.cq 1 _ rfl
  have q2 := HN.out.cq 2 _ rfl
  have q3 := HN.out.cq 3 _ rfl
  have q4 := HN.out.cq 4 _ rfl
  have q5 := HN.out.cq 5 _ rfl
  have q6 := HN.out.cq 6 _ rfl
  have q7 := HN.out.cq 7 _ rfl
  have q8 := HN.out.cq 8 _ rfl
  have q9 := HN.out.cq 9 _ rfl
  have q10 := HN.out.cq 10 _ rfl
  have q11 := HN.out.cq 11 _ rfl
  have q12 := HN.out.cq 12 _ rfl
  have q13 := HN.out.cq 13 _ rfl
  have hf := HN.out.fq
  go_wp2_with fail
  have h7 := HN.out.allQ (.int .i64 0) (.string ⟨#[]⟩) (.slice none 0 0) (.slice none 0 0) (.slice none 0 0) (.slice none 0 0) (.slice none 0 0) (.slice none 0 0) (.slice none 0 0) (.slice none 0 0) (.int .i64 0) (.int .i64 0) (.int .i64 0) (.int .i64 0)
  exact ret_new (sec := ⟨#[]⟩) h7 rfl rfl rfl ⟨rfl, h7.below⟩

set_option maxHeartbeats 8000000 in
set_option maxRecDepth 100000 in
theorem stNew_user (sec n s p : ByteArray) (a : Option Addr) (c : Nat) (rs : List ByteArray) (v : Value) (l : List Rl) (w : World) (h0 : ¬ sec.size = 0) (h64 : ¬ 64 < sec.size)
    (hn : n.size ≤ maxLen) (hs : s.size ≤ maxLen) (hp : p.size ≤ 1000000) (hr : ∀ x ∈ rs, x.size ≤ maxLen) (hrl : rs.length ≤ 1000000) (hu : Strs w.heap.size w (.slice a rs.length c) rs) (h : Rls w.heap.size w v l) (hl : l.length ≤ maxLen) (hk : chkP l = 0) (hm : mayB n s p rs = false) :
    Calls Tryz.prog 6 #[.string sec, v, .agg #[.string n, .string s, .string p, .slice a rs.length c]] w fun e w' => e = .returned (.tuple #[stV ⟨#[]⟩ (.slice none 0 0) (.slice none 0 0), .int .i64 8]) ∧ Below w.heap.size w w' := by
  have HN0 := Lib.hid (NwS.start n s p (.slice a rs.length c) w)
  have d0 : ((sec.size : Int) == 0) = false := by rw [beq_eq_false_iff_ne]; omega
  have d1 : decide (64 < (sec.size : Int)) = false := decide_eq_false (by omega)
  have HC := Lib.hid (fun W (hb : Below w.heap.size w W) => roles_Check v l W ((Rls.below h hb).mono hb.size) hl)
  have HU := Lib.hid (fun W (hb : Below w.heap.size w W) => user_walk n s p a c rs W hn hs hp hr hrl ((hu.below hb).mono hb.size))
  rw [hk] at HC
  rw [hm] at HU
  clear hk hm h hu hn hs hp hr h0 h64
  go_enter Tryz.func6, Tryz.ntmps6
  go_upto_region 4 with fail
  revert HN0
  generalize ((w.alloc (.cells #[.string n, .string s, .string p, .slice a rs.length c] 25)).alloc (stO ⟨#[]⟩ (.slice none 0 0) (.slice none 0 0))) = W0
  intro HN0
  go_wp2_with fail
  refine (HC.out _ HN0.out.below).mono ?_
  rintro e w1 ⟨rfl, hb1⟩
  have HN1 := Lib.hid (HN0.out.call hb1)
  clear hb1 HC HN0
  have u0 := HN1.out.cp 0 _ rfl
  have u1 := HN1.out.cp 1 _ rfl
  have u2 := HN1.out.cp 2 _ rfl
  have u3 := HN1.out.cp 3 _ rfl
  go_wp2_with fail
  refine (HU.out _ HN1.out.below).mono ?_
  rintro e w2 ⟨rfl, hb2⟩
  have HN := Lib.hid (HN1.out.call hb2)
  clear hb2 HU HN1 u0 u1 u2 u3
  have q0 := HN.out.cq 0 _ rfl
  have q1 := HN.out.cq 1 _ rfl
  have q2 := HN.out.cq 2 _ rfl
  have q3 := HN.out.cq 3 _ rfl
  have q4 := HN.out.cq 4 _ rfl
  have q5 := HN.out.cq 5 _ rfl
  have q6 := HN.out.cq 6 _ rfl
  have q7 := HN.out.cq 7 _ rfl
  have q8 := HN.out.cq 8 _ rfl
  have q9 := HN.out.cq 9 _ rfl
  have q10 := HN.out.cq 10 _ rfl
  have q11 := HN.out.cq 11 _ rfl
  have q12 := HN.out.cq 12 _ rfl
  have q13 := HN.out.cq 13 _ rfl
  have hf := HN.out.fq
  go_wp2_with fail
  have h7 := HN.out.allQ (.int .i64 0) (.string ⟨#[]⟩) (.slice none 0 0) (.slice none 0 0) (.slice none 0 0) (.slice none 0 0) (.slice none 0 0) (.slice none 0 0) (.slice none 0 0) (.slice none 0 0) (.int .i64 0) (.int .i64 0) (.int .i64 0) (.int .i64 0)
  exact ret_new (sec := ⟨#[]⟩) h7 rfl rfl rfl ⟨rfl, h7.below⟩

end Go.Proofs.YtinijohmdljieaaGreatDoor

namespace Go.Proofs.YtinijohmdljieaaGreatDoor
open Go.RowKit

set_option maxHeartbeats 8000000 in
set_option maxRecDepth 100000 in
theorem stNew_ok (sec n s p : ByteArray) (a : Option Addr) (c : Nat) (rs : List ByteArray) (v : Value) (l : List Rl) (w : World) (h0 : ¬ sec.size = 0) (h64 : ¬ 64 < sec.size)
    (hn : n.size ≤ maxLen) (hs : s.size ≤ maxLen) (hp : p.size ≤ 1000000) (hr : ∀ x ∈ rs, x.size ≤ maxLen) (hrl : rs.length ≤ 1000000) (hu : Strs w.heap.size w (.slice a rs.length c) rs) (h : Rls w.heap.size w v l) (hl : l.length ≤ maxLen) (hk : chkP l = 0) (hm : mayB n s p rs = true) (hok : ∀ r ∈ l, r.Ok) :
    Calls Tryz.prog 6 #[.string sec, v, .agg #[.string n, .string s, .string p, .slice a rs.length c]] w (NewOk sec n s p rs l w) := by
  have HN0 := Lib.hid (NwS.start n s p (.slice a rs.length c) w)
  have d0 : ((sec.size : Int) == 0) = false := by rw [beq_eq_false_iff_ne]; omega
  have d1 : decide (64 < (sec.size : Int)) = false := decide_eq_false (by omega)
  have HC := Lib.hid (fun W (hb : Below w.heap.size w W) => roles_Check v l W ((Rls.below h hb).mono hb.size) hl)
  have HU := Lib.hid (fun W (hb : Below w.heap.size w W) => user_walk n s p a c rs W hn hs hp hr hrl ((hu.below hb).mono hb.size))
  rw [hk] at HC
  rw [hm] at HU
  obtain ⟨hk1, hk2, hk3⟩ := chk_ok hk
  have HTW := Lib.hid (fun W b (hb : Below w.heap.size w W) hA => twin_walk sec n s p b a c rs v l W hA ((hu.below hb).mono hb.size) (by omega) (by omega) (fun r hr => by have := hk3 r hr; omega) ((Rls.below h hb).mono hb.size))
  have HOK := Lib.hid hok
  have hk2' : l.length ≤ 1000 := by omega
  obtain ⟨a0, c0, b0, o0, rfl, -, -⟩ := h.cells
  clear hk hm h hu hn hs hp hr h0 h64 hk1 hk2 hk3 hok hl hrl
  go_enter Tryz.func6, Tryz.ntmps6
  go_upto_region 4 with fail
  revert HN0
  generalize ((w.alloc (.cells #[.string n, .string s, .string p, .slice a rs.length c] 25)).alloc (stO ⟨#[]⟩ (.slice none 0 0) (.slice none 0 0))) = W0
  intro HN0
  go_wp2_with fail
  refine (HC.out _ HN0.out.below).mono ?_
  rintro e w1 ⟨rfl, hb1⟩
  have HN1 := Lib.hid (HN0.out.call hb1)
  clear hb1 HC HN0
  have u0 := HN1.out.cp 0 _ rfl
  have u1 := HN1.out.cp 1 _ rfl
  have u2 := HN1.out.cp 2 _ rfl
  have u3 := HN1.out.cp 3 _ rfl
  go_wp2_with fail
  refine (HU.out _ HN1.out.below).mono ?_
  rintro e w2 ⟨rfl, hb2⟩
  have HN2 := Lib.hid (HN1.out.call hb2)
  clear hb2 HU HN1 u0 u1 u2 u3
  have u0 := HN2.out.cp 0 _ rfl
  have u1 := HN2.out.cp 1 _ rfl
  have u2 := HN2.out.cp 2 _ rfl
  have u3 := HN2.out.cp 3 _ rfl
  have HB3 := Lib.hid ((Below.refl w2.heap.size w2).alloc (Nat.le_refl _) (.cells #[.string n, .string s, .string p, .slice a rs.length c] 25))
  have HZ3 : Hid ((w2.alloc (.cells #[.string n, .string s, .string p, .slice a rs.length c] 25)).heap.size = w2.heap.size + 1) := by show _ = _; simp
  have HT := Lib.hid (HTW.out (w2.alloc (.cells #[.string n, .string s, .string p, .slice a rs.length c] 25)) w2.heap.size (HN2.out.call HB3.out).below (Arr.new w2 [.string n, .string s, .string p, .slice a rs.length c] 25))
  clear HTW
  go_wp2_with fail
  refine HT.out.mono ?_
  intro e w4 he
  obtain ⟨g, uc, ua, uv, va, vc, cur, rfl, hb4, hF⟩ := twF_of he
  clear he HT u0 u1 u2 u3
  have HN4 := Lib.hid ((HN2.out.call HB3.out).call hb4)
  have hbs : w.heap.size + 1 < (w2.alloc (.cells #[.string n, .string s, .string p, .slice a rs.length c] 25)).heap.size := by have := HN2.out.lt; have := HZ3.out; omega
  generalize (w2.alloc (.cells #[.string n, .string s, .string p, .slice a rs.length c] 25)).heap.size = base at *
  have HB5 := Lib.hid ((Below.refl w4.heap.size w4).alloc (Nat.le_refl _) (stO sec (.slice (some ⟨g, 0, none⟩) 1 uc) (.slice va l.length vc)))
  have HF := Lib.hid (hF.call HB5.out)
  have HN5 := Lib.hid (HN4.out.call HB5.out)
  have HBX := Lib.hid (ownBox w4 #[.int .i64 0, .string sec, .slice (some ⟨g, 0, none⟩) 1 uc, .slice va l.length vc, .slice none 0 0, .slice none 0 0, .slice none 0 0, .slice none 0 0, .slice none 0 0, .slice none 0 0, .int .i64 0, .int .i64 0, .int .i64 0, .int .i64 0] 35 14 w.heap.size (by have := HN4.out.lt; omega) rfl)
  have hrow : ∀ gr, va = some ⟨gr, 0, none⟩ → base ≤ gr ∧ gr < w4.heap.size := fun gr hgr => hF.ro.lt hgr
  clear hF HN4 HN2 hb4 HB3 HZ3
  go_upto_region 8 with fail
  revert HF HN5 HBX HB5
  generalize w4.alloc (stO sec (.slice (some ⟨g, 0, none⟩) 1 uc) (.slice va l.length vc)) = w5
  intro HB5 HF HN5 HBX
  have b3 := HBX.out.cellAt 3 rfl
  by_cases h0 : 0 < l.length
  · obtain ⟨gr, rfl⟩ : ∃ gr, va = some ⟨gr, 0, none⟩ := by
      rcases HF.out.ro.block with ⟨_, h1, _⟩ | ⟨gr, h1, _⟩
      · omega
      · exact ⟨gr, h1⟩
    obtain ⟨hr1, hr2⟩ := hrow gr rfl
    have hSO := sortRoles base gr vc cur w5 (by rw [HF.out.len]; exact HF.out.ro) (by rw [HF.out.len]; exact h0) (by rw [HF.out.len]; exact hk2')
    rw [HF.out.len] at hSO
    have HSO := Lib.hid hSO
    clear hSO hrow
    go_wp2_with fail
    refine HSO.out.mono ?_
    rintro e w6 ⟨rfl, l', hp', hup, ho', hg'⟩
    rw [HF.out.len] at ho'
    have HF6 := Lib.hid (HF.out.row hp' ho' (fun k hk hne => hg'.block k hk (by simpa using hne)) hg'.size)
    have HN6 := Lib.hid (HN5.out.kept (HN5.out.below.grown hg' HN5.out.below.size (fun k hk => by cases hk; omega)) (fun k hk => hg'.block k (by have := HN5.out.lt; omega) (by simp; omega)))
    have BX := Lib.hid (HBX.out.grown hg' (fun k hk => by cases hk; simp; omega))
    have HUP := Lib.hid hup
    clear hp' ho' hg' hup HSO HF HN5 HBX HB5 b3 hr1 hr2
    have b0 := BX.out.cellAt 0 rfl
    have b1 := BX.out.cellAt 1 rfl
    have b2 := BX.out.cellAt 2 rfl
    have b3 := BX.out.cellAt 3 rfl
    have b4 := BX.out.cellAt 4 rfl
    have b5 := BX.out.cellAt 5 rfl
    have b6 := BX.out.cellAt 6 rfl
    have b7 := BX.out.cellAt 7 rfl
    have b8 := BX.out.cellAt 8 rfl
    have b9 := BX.out.cellAt 9 rfl
    have b10 := BX.out.cellAt 10 rfl
    have b11 := BX.out.cellAt 11 rfl
    have b12 := BX.out.cellAt 12 rfl
    have b13 := BX.out.cellAt 13 rfl
    have q0 := HN6.out.cq 0 _ rfl
    have q1 := HN6.out.cq 1 _ rfl
    have q2 := HN6.out.cq 2 _ rfl
    have q3 := HN6.out.cq 3 _ rfl
    have q4 := HN6.out.cq 4 _ rfl
    have q5 := HN6.out.cq 5 _ rfl
    have q6 := HN6.out.cq 6 _ rfl
    have q7 := HN6.out.cq 7 _ rfl
    have q8 := HN6.out.cq 8 _ rfl
    have q9 := HN6.out.cq 9 _ rfl
    have q10 := HN6.out.cq 10 _ rfl
    have q11 := HN6.out.cq 11 _ rfl
    have q12 := HN6.out.cq 12 _ rfl
    have q13 := HN6.out.cq 13 _ rfl
    have hf := HN6.out.fq
    go_wp2_with fail
    have h7 := HN6.out.allQ (.int .i64 0) (.string sec) (.slice (some ⟨g, 0, none⟩) 1 uc) (.slice (some ⟨gr, 0, none⟩) l.length vc) (.slice none 0 0) (.slice none 0 0) (.slice none 0 0) (.slice none 0 0) (.slice none 0 0) (.slice none 0 0) (.int .i64 0) (.int .i64 0) (.int .i64 0) (.int .i64 0)
    have t7 := HF6.out.allQ hbs (.int .i64 0) (.string sec) (.slice (some ⟨g, 0, none⟩) 1 uc) (.slice (some ⟨gr, 0, none⟩) l.length vc) (.slice none 0 0) (.slice none 0 0) (.slice none 0 0) (.slice none 0 0) (.slice none 0 0) (.slice none 0 0) (.int .i64 0) (.int .i64 0) (.int .i64 0) (.int .i64 0)
    exact ret_new (sec := sec) h7 rfl rfl rfl (NewOk.mk t7 h7.below HUP.out HOK.out)
  · obtain rfl : l = [] := List.eq_nil_of_length_eq_zero (by omega)
    have HSO := Lib.hid (AnyF.slices_SortFunc_none Tryz.sortRole va vc (.func (.func 26) #[] #[]) w5)
    clear hrow
    go_wp2_with fail
    refine Calls.mono (R := fun e w' => e = .returned (.tuple #[]) ∧ w' = w5) HSO.out ?_
    rintro e w6 ⟨rfl, rfl⟩
    have HUP : Hid (UpR cur) := fun i j hi => absurd hi (by have := HF.out.len; simp at this; simp [this])
    clear HSO HB5 b3 h0
    have b0 := HBX.out.cellAt 0 rfl
    have b1 := HBX.out.cellAt 1 rfl
    have b2 := HBX.out.cellAt 2 rfl
    have b3 := HBX.out.cellAt 3 rfl
    have b4 := HBX.out.cellAt 4 rfl
    have b5 := HBX.out.cellAt 5 rfl
    have b6 := HBX.out.cellAt 6 rfl
    have b7 := HBX.out.cellAt 7 rfl
    have b8 := HBX.out.cellAt 8 rfl
    have b9 := HBX.out.cellAt 9 rfl
    have b10 := HBX.out.cellAt 10 rfl
    have b11 := HBX.out.cellAt 11 rfl
    have b12 := HBX.out.cellAt 12 rfl
    have b13 := HBX.out.cellAt 13 rfl
    have q0 := HN5.out.cq 0 _ rfl
    have q1 := HN5.out.cq 1 _ rfl
    have q2 := HN5.out.cq 2 _ rfl
    have q3 := HN5.out.cq 3 _ rfl
    have q4 := HN5.out.cq 4 _ rfl
    have q5 := HN5.out.cq 5 _ rfl
    have q6 := HN5.out.cq 6 _ rfl
    have q7 := HN5.out.cq 7 _ rfl
    have q8 := HN5.out.cq 8 _ rfl
    have q9 := HN5.out.cq 9 _ rfl
    have q10 := HN5.out.cq 10 _ rfl
    have q11 := HN5.out.cq 11 _ rfl
    have q12 := HN5.out.cq 12 _ rfl
    have q13 := HN5.out.cq 13 _ rfl
    have hf := HN5.out.fq
    go_wp2_with fail
    have h7 := HN5.out.allQ (.int .i64 0) (.string sec) (.slice (some ⟨g, 0, none⟩) 1 uc) (.slice va (List.length ([] : List Rl)) vc) (.slice none 0 0) (.slice none 0 0) (.slice none 0 0) (.slice none 0 0) (.slice none 0 0) (.slice none 0 0) (.int .i64 0) (.int .i64 0) (.int .i64 0) (.int .i64 0)
    have t7 := HF.out.allQ hbs (.int .i64 0) (.string sec) (.slice (some ⟨g, 0, none⟩) 1 uc) (.slice va (List.length ([] : List Rl)) vc) (.slice none 0 0) (.slice none 0 0) (.slice none 0 0) (.slice none 0 0) (.slice none 0 0) (.slice none 0 0) (.int .i64 0) (.int .i64 0) (.int .i64 0) (.int .i64 0)
    exact ret_new (sec := sec) h7 rfl rfl rfl (NewOk.mk t7 h7.below HUP.out HOK.out)
end Go.Proofs.YtinijohmdljieaaGreatDoor

namespace Go.Proofs.YtinijohmdljieaaGreatDoor
open Go.RowKit

set_option maxHeartbeats 8000000 in
set_option maxRecDepth 100000 in
theorem refNew_short (sec n s p : ByteArray) (v u : Value) (w : World) (h : sec.size = 0 ∨ 64 < sec.size) :
    Calls Tryz.prog 7 #[.string sec, v, .agg #[.string n, .string s, .string p, u]] w fun e w' => e = .returned (.tuple #[stV ⟨#[]⟩ (.slice none 0 0) (.slice none 0 0), .int .i64 3]) ∧ Below w.heap.size w w' := by
  have HN0 := Lib.hid (NwS.start n s p u w)
  by_cases h0 : sec.size = 0
  · obtain rfl : sec = ⟨#[]⟩ := by
      obtain ⟨d⟩ := sec
      have : d.size = 0 := h0
      rw [Array.eq_empty_of_size_eq_zero this]
    clear h0 h
    go_enter Tryz.func7, Tryz.ntmps7
    go_upto_region 2 with fail
    revert HN0
    generalize ((w.alloc (.cells #[.string n, .string s, .string p, u] 25)).alloc (stO ⟨#[]⟩ (.slice none 0 0) (.slice none 0 0))) = W0
    intro HN
    have q0 := HN.out.cq 0 _ rfl
    have q1 := HN.out.cq 1 _ rfl
    have q2 := HN.out.cq 2 _ rfl
    have q3 := HN.out.cq 3 _ rfl
    have q4 := HN.out.cq 4 _ rfl
    have q5 := HN.out.cq 5 _ rfl
    have q6 := HN.out.cq 6 _ rfl
    have q7 := HN.out.cq 7 _ rfl
    have q8 := HN.out.cq 8 _ rfl
    have q9 := HN.out.cq 9 _ rfl
    have q10 := HN.out.cq 10 _ rfl
    have q11 := HN.out.cq 11 _ rfl
    have q12 := HN.out.cq 12 _ rfl
    have q13 := HN.out.cq 13 _ rfl
    have hf := HN.out.fq
    go_wp2_with fail
    have h7 := HN.out.allQ (.int .i64 0) (.string ⟨#[]⟩) (.slice none 0 0) (.slice none 0 0) (.slice none 0 0) (.slice none 0 0) (.slice none 0 0) (.slice none 0 0) (.slice none 0 0) (.slice none 0 0) (.int .i64 0) (.int .i64 0) (.int .i64 0) (.int .i64 0)
    exact ret_new24 (sec := ⟨#[]⟩) h7 rfl rfl rfl ⟨rfl, h7.below⟩
  · have hz : sec.toList.isEmpty = false := by
      rw [Go.ByteArray.toList_eq]
      cases he : sec.data.toList with
      | nil => exact absurd (by show sec.data.size = 0; rw [← Array.length_toList, he]; rfl) h0
      | cons x y => rfl
    have d1 : decide (64 < (sec.size : Int)) = true := decide_eq_true (by omega)
    clear h0 h
    go_enter Tryz.func7, Tryz.ntmps7
    go_upto_region 2 with fail
    revert HN0
    generalize ((w.alloc (.cells #[.string n, .string s, .string p, u] 25)).alloc (stO ⟨#[]⟩ (.slice none 0 0) (.slice none 0 0))) = W0
    intro HN
    have q0 := HN.out.cq 0 _ rfl
    have q1 := HN.out.cq 1 _ rfl
    have q2 := HN.out.cq 2 _ rfl
    have q3 := HN.out.cq 3 _ rfl
    have q4 := HN.out.cq 4 _ rfl
    have q5 := HN.out.cq 5 _ rfl
    have q6 := HN.out.cq 6 _ rfl
    have q7 := HN.out.cq 7 _ rfl
    have q8 := HN.out.cq 8 _ rfl
    have q9 := HN.out.cq 9 _ rfl
    have q10 := HN.out.cq 10 _ rfl
    have q11 := HN.out.cq 11 _ rfl
    have q12 := HN.out.cq 12 _ rfl
    have q13 := HN.out.cq 13 _ rfl
    have hf := HN.out.fq
    go_wp2_with fail
    have h7 := HN.out.allQ (.int .i64 0) (.string ⟨#[]⟩) (.slice none 0 0) (.slice none 0 0) (.slice none 0 0) (.slice none 0 0) (.slice none 0 0) (.slice none 0 0) (.slice none 0 0) (.slice none 0 0) (.int .i64 0) (.int .i64 0) (.int .i64 0) (.int .i64 0)
    exact ret_new24 (sec := ⟨#[]⟩) h7 rfl rfl rfl ⟨rfl, h7.below⟩
set_option maxHeartbeats 8000000 in
set_option maxRecDepth 100000 in
theorem refNew_roles (sec n s p : ByteArray) (a : Option Addr) (c : Nat) (rs : List ByteArray) (v : Value) (l : List Rl) (w : World) (h0 : ¬ sec.size = 0) (h64 : ¬ 64 < sec.size)
    (h : Rls w.heap.size w v l) (hl : l.length ≤ maxLen) (hk : chkP l ≠ 0) :
    Calls Tryz.prog 7 #[.string sec, v, .agg #[.string n, .string s, .string p, .slice a rs.length c]] w fun e w' => e = .returned (.tuple #[stV ⟨#[]⟩ (.slice none 0 0) (.slice none 0 0), .int .i64 8]) ∧ Below w.heap.size w w' := by
  have HN0 := Lib.hid (NwS.start n s p (.slice a rs.length c) w)
  have hz : sec.toList.isEmpty = false := by
    rw [Go.ByteArray.toList_eq]
    cases he : sec.data.toList with
    | nil => exact absurd (by show sec.data.size = 0; rw [← Array.length_toList, he]; rfl) h0
    | cons x y => rfl
  have d1 : decide (64 < (sec.size : Int)) = false := decide_eq_false (by omega)
  have HC := Lib.hid (fun W (hb : Below w.heap.size w W) => (ref_Check W.heap.size v l W ((Rls.below h hb).mono hb.size) hl).mono (R' := fun e w' => e = .returned (.int .i64 (chkP l)) ∧ w' = W) (by
    rintro e w' ⟨x, rfl, hx, rfl⟩
    exact ⟨by rw [chk_same hx], rfl⟩))
  obtain ⟨x, hx⟩ : ∃ x, chkP l = x := ⟨_, rfl⟩
  have d2 : (x != 0) = true := by rw [← hx]; simpa using hk
  rw [hx] at HC
  clear hx hk h h0 h64
  go_enter Tryz.func7, Tryz.ntmps7
  go_upto_region 3 with fail
  revert HN0
  generalize ((w.alloc (.cells #[.string n, .string s, .string p, .slice a rs.length c] 25)).alloc (stO ⟨#[]⟩ (.slice none 0 0) (.slice none 0 0))) = W0
  intro HN0
  go_wp2_with fail
  refine (HC.out _ HN0.out.below).mono ?_
  rintro e w1 ⟨rfl, rfl⟩
  have HN := HN0
  clear HC HN0
  have q0 := HN.out.cq 0 _ rfl
  have q1 := HN.out.cq 1 _ rfl
  have q2 := HN.out.cq 2 _ rfl
  have q3 := HN.out.cq 3 _ rfl
  have q4 := HN.out.cq 4 _ rfl
  have q5 := HN.out.cq 5 _ rfl
  have q6 := HN.out.cq 6 _ rfl
  have q7 := HN.out.cq 7 _ rfl
  have q8 := HN.out.cq 8 _ rfl
  have q9 := HN.out.cq 9 _ rfl
  have q10 := HN.out.cq 10 _ rfl
  have q11 := HN.out.cq 11 _ rfl
  have q12 := HN.out.cq 12 _ rfl
  have q13 := HN.out.cq 13 _ rfl
  have hf := HN.out.fq
  go_wp2_with fail
  have h7 := HN.out.allQ (.int .i64 0) (.string ⟨#[]⟩) (.slice none 0 0) (.slice none 0 0) (.slice none 0 0) (.slice none 0 0) (.slice none 0 0) (.slice none 0 0) (.slice none 0 0) (.slice none 0 0) (.int .i64 0) (.int .i64 0) (.int .i64 0) (.int .i64 0)
  exact ret_new24 (sec := ⟨#[]⟩) h7 rfl rfl rfl ⟨rfl, h7.below⟩

set_option maxHeartbeats 8000000 in
set_option maxRecDepth 100000 in
theorem refNew_user (sec n s p : ByteArray) (a : Option Addr) (c : Nat) (rs : List ByteArray) (v : Value) (l : List Rl) (w : World) (h0 : ¬ sec.size = 0) (h64 : ¬ 64 < sec.size)
    (hn : n.size ≤ maxLen) (hs : s.size ≤ maxLen) (hp : p.size ≤ 1000000) (hr : ∀ x ∈ rs, x.size ≤ maxLen) (hrl : rs.length ≤ 1000000) (hu : Strs w.heap.size w (.slice a rs.length c) rs) (h : Rls w.heap.size w v l) (hl : l.length ≤ maxLen) (hk : chkP l = 0) (hm : mayB n s p rs = false) :
    Calls Tryz.prog 7 #[.string sec, v, .agg #[.string n, .string s, .string p, .slice a rs.length c]] w fun e w' => e = .returned (.tuple #[stV ⟨#[]⟩ (.slice none 0 0) (.slice none 0 0), .int .i64 8]) ∧ Below w.heap.size w w' := by
  have HN0 := Lib.hid (NwS.start n s p (.slice a rs.length c) w)
  have hz : sec.toList.isEmpty = false := by
    rw [Go.ByteArray.toList_eq]
    cases he : sec.data.toList with
    | nil => exact absurd (by show sec.data.size = 0; rw [← Array.length_toList, he]; rfl) h0
    | cons x y => rfl
  have d1 : decide (64 < (sec.size : Int)) = false := decide_eq_false (by omega)
  have HC := Lib.hid (fun W (hb : Below w.heap.size w W) => (ref_Check W.heap.size v l W ((Rls.below h hb).mono hb.size) hl).mono (R' := fun e w' => e = .returned (.int .i64 (chkP l)) ∧ w' = W) (by
    rintro e w' ⟨x, rfl, hx, rfl⟩
    exact ⟨by rw [chk_same hx], rfl⟩))
  have HU := Lib.hid (fun W (hb : Below w.heap.size w W) => refMay_walk n s p a c rs W hn hs hp hr hrl ((hu.below hb).mono hb.size))
  rw [hk] at HC
  rw [hm] at HU
  clear hk hm h hu hn hs hp hr h0 h64
  go_enter Tryz.func7, Tryz.ntmps7
  go_upto_region 3 with fail
  revert HN0
  generalize ((w.alloc (.cells #[.string n, .string s, .string p, .slice a rs.length c] 25)).alloc (stO ⟨#[]⟩ (.slice none 0 0) (.slice none 0 0))) = W0
  intro HN0
  go_wp2_with fail
  refine (HC.out _ HN0.out.below).mono ?_
  rintro e w1 ⟨rfl, rfl⟩
  have HN1 := HN0
  clear HC HN0
  have u0 := HN1.out.cp 0 _ rfl
  have u1 := HN1.out.cp 1 _ rfl
  have u2 := HN1.out.cp 2 _ rfl
  have u3 := HN1.out.cp 3 _ rfl
  go_wp2_with fail
  refine (HU.out _ HN1.out.below).mono ?_
  rintro e w2 ⟨rfl, hb2⟩
  have HN := Lib.hid (HN1.out.call hb2)
  clear hb2 HU HN1 u0 u1 u2 u3
  have q0 := HN.out.cq 0 _ rfl
  have q1 := HN.out.cq 1 _ rfl
  have q2 := HN.out.cq 2 _ rfl
  have q3 := HN.out.cq 3 _ rfl
  have q4 := HN.out.cq 4 _ rfl
  have q5 := HN.out.cq 5 _ rfl
  have q6 := HN.out.cq 6 _ rfl
  have q7 := HN.out.cq 7 _ rfl
  have q8 := HN.out.cq 8 _ rfl
  have q9 := HN.out.cq 9 _ rfl
  have q10 := HN.out.cq 10 _ rfl
  have q11 := HN.out.cq 11 _ rfl
  have q12 := HN.out.cq 12 _ rfl
  have q13 := HN.out.cq 13 _ rfl
  have hf := HN.out.fq
  go_wp2_with fail
  have h7 := HN.out.allQ (.int .i64 0) (.string ⟨#[]⟩) (.slice none 0 0) (.slice none 0 0) (.slice none 0 0) (.slice none 0 0) (.slice none 0 0) (.slice none 0 0) (.slice none 0 0) (.slice none 0 0) (.int .i64 0) (.int .i64 0) (.int .i64 0) (.int .i64 0)
  exact ret_new24 (sec := ⟨#[]⟩) h7 rfl rfl rfl ⟨rfl, h7.below⟩

end Go.Proofs.YtinijohmdljieaaGreatDoor
