/- The chapter's example: a token, and what another secret would have made. -/
import Derived.Test.YtflckjabjhmnfaaDoorTok4
namespace Go.Proofs.YtflckjabjhmnfaaDoor
open Go.RowKit
def sevenS : Sess := ⟨7, [97, 110, 110], 100⟩
theorem seven_ok : sessB sevenS := by
  refine ⟨by decide, by decide, by decide +kernel, by decide, by decide⟩
theorem seven_text : textT sevenS = [55, 46, 54, 49, 54, 101, 54, 101, 46, 49, 48, 48] := by
  have h1 : Lib.decDigits 7 = [55] := Lib.decDigits_one (by omega)
  have h2 : Lib.decDigits 100 = [49, 48, 48] := by
    rw [Lib.decDigits, dif_neg (by omega), Lib.decDigits, dif_neg (by omega), Lib.decDigits_one (by omega)]
    rfl
  show Lib.decDigits 7 ++ 46 :: (hexB [97, 110, 110] ++ 46 :: Lib.decDigits 100) = _
  rw [h1, h2]
  decide +kernel
theorem two_secrets : ¬ (sealW [107] [55, 46, 54, 49, 54, 101, 54, 101, 46, 49, 48, 48] = sealW [106] [55, 46, 54, 49, 54, 101, 54, 101, 46, 49, 48, 48]) := by decide +kernel
theorem seven_other (t : Sess) (ht : sessB t) : madeT [106] t ≠ madeT [107] sevenS := fun h => by
  obtain rfl := madeT_inj ht seven_ok h
  have h2 : hexB (sealW [106] (textT sevenS)) = hexB (sealW [107] (textT sevenS)) := by
    have := List.append_cancel_left h
    injection this
  have h3 := hexB_inj h2
  rw [seven_text] at h3
  exact two_secrets h3.symm
theorem seven_len : (madeT [107] sevenS).length = 77 := by
  rw [madeT, List.length_append, List.length_cons, hexB_len, sealW_len, seven_text]; rfl
theorem seven_take : (madeT [107] sevenS).take 13 = [55, 46, 54, 49, 54, 101, 54, 101, 46, 49, 48, 48, 46] := by
  rw [madeT, seven_text]; rfl
end Go.Proofs.YtflckjabjhmnfaaDoor
