/- docketlaw24.StateAsks answers true. -/
import Derived.Test.YtinijohmdljieaaGreatDoorAskJ
import Derived.Test.YtinijohmdljieaaGreatDoorAskO
namespace Go.Proofs.YtinijohmdljieaaGreatDoor
open Go.RowKit

/-- each text is read in some way -/
theorem readIs_some (k tk : List UInt8) (c : Int) : ∃ s e, ReadIs k tk c s e := by
  by_cases h1 : ¬ (0 < k.length ∧ k.length ≤ 64)
  · exact ⟨zeroS, 3, by unfold ReadIs; rw [if_pos h1]; exact ⟨rfl, rfl⟩⟩
  · by_cases h2 : c < 0 ∨ 1099511627776 < c
    · exact ⟨zeroS, 2, by unfold ReadIs; rw [if_neg h1, if_pos h2]; exact ⟨rfl, rfl⟩⟩
    · by_cases h3 : ∃ t, sessB t ∧ madeT k t = tk
      · obtain ⟨t, h4, h5⟩ := h3
        by_cases h6 : t.untl < c
        · exact ⟨zeroS, 212, by unfold ReadIs; rw [if_neg h1, if_neg h2]; exact .inr ⟨t, h4, h5, .inl ⟨h6, rfl, rfl⟩⟩⟩
        · exact ⟨t, 0, by unfold ReadIs; rw [if_neg h1, if_neg h2]; exact .inr ⟨t, h4, h5, .inr ⟨by omega, rfl, rfl⟩⟩⟩
      · exact ⟨zeroS, 211, by unfold ReadIs; rw [if_neg h1, if_neg h2]; exact .inl ⟨rfl, rfl, fun t h4 h5 => h3 ⟨t, h4, h5⟩⟩⟩
theorem whoseOut_ok {sd : StateD} (hok : sd.Ok) (s : Sess) (x : Int) : (whoseOut sd s x).rs.length ≤ 1048576 := by
  unfold whoseOut
  split
  · exact Nat.zero_le _
  · cases h : sd.users[(userIx sd.users ⟨s.user.toArray⟩).toNat]? with
    | none => exact Nat.zero_le _
    | some u => exact hok.uo u (List.mem_of_getElem? h)
theorem zeroM_ok : zeroM.Ok := ⟨Nat.zero_le _, Nat.zero_le _, Nat.zero_le _, Nat.zero_le _, Nat.zero_le _, fun s h => absurd h (by simp [zeroM]), fun s h => absurd h (by simp [zeroM])⟩
theorem verOf_ok {sd : StateD} (hok : sd.Ok) (name : ByteArray) (ver : Int) : (verOf sd.models name ver).m.Ok := by
  unfold verOf
  split
  · exact zeroM_ok
  · cases h : sd.models[(pick sd.models name ver sd.models.length).toNat]? with
    | none => exact zeroM_ok
    | some u => exact hok.mo u (List.mem_of_getElem? h)
theorem zeroCase_ok : zeroCase.Ok := ⟨Nat.zero_le _, fun e h => absurd h (by simp [zeroCase]), Nat.zero_le _, Nat.zero_le _, Nat.zero_le _⟩
theorem caseOut_ok {sd : StateD} (hok : sd.Ok) (id : Int) : (caseOut sd.cases id).Ok := by
  unfold caseOut
  split
  · exact zeroCase_ok
  · cases h : sd.cases[(caseIx sd.cases id).toNat]? with
    | none => exact zeroCase_ok
    | some u => exact hok.co u (List.mem_of_getElem? h)
theorem stateAsks_walk (sd : StateD) (hok : sd.Ok) (hsec : sd.secret.size ≤ maxLen) (us : List Value) (token name : ByteArray) (ver id : Int) (w : World) (hm : MemL false (From 0) w sd.ds us) (htk : TokW w) :
    Calls Tryz.prog 4 #[.agg us.toArray, .string token, .string name, .int .i64 ver, .int .i64 id] w fun e w' => e = .returned (.bool true) ∧ Below w.heap.size w w' := by
  obtain ⟨s, x, hr⟩ := readIs_some sd.secret.data.toList token.data.toList sd.clock
  exact law_walk sd hok us token name ver id w hm (whoseOut sd s x) (verOf sd.models name ver) (caseOut sd.cases id) (whoseCode sd s x) (verCode sd.models name ver) (caseCode sd.cases id) (whoseOut_ok hok s x) (verOf_ok hok name ver) (caseOut_ok hok id)
    (fun W os hb ho => stWhose sd hok hsec os token W ho (htk.below hb) s x hr) (fun htl W os _ ho => refWhose sd hok os token (by omega) W ho s x hr)
    (fun W os ho => stModel sd hok os name ver W ho) (fun W os ho => refModel sd hok os name ver W ho) (fun W os ho => stCase sd hok os id W ho) (fun W os ho => refCase sd os id W hok.cl ho)
end Go.Proofs.YtinijohmdljieaaGreatDoor
