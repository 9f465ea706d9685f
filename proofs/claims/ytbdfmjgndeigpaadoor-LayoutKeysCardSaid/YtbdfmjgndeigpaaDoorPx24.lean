-- by xprint (this session's program over the kit's printer)
import Derived.Test.YtbdfmjgndeigpaaDoorPx0
import Derived.Test.YtbdfmjgndeigpaaDoorPx23
import Derived.Lib.Bytealg
import Derived.Lib.Strings
namespace Go.Proofs.YtbdfmjgndeigpaaDoor.P
open Go.RowKit Go.Proofs.YtbdfmjgndeigpaaDoorW.PrintWords Go.Proofs.YtbdfmjgndeigpaaDoorW.PrintLast Go.Proofs.YtbdfmjgndeigpaaDoorW.PrintMore
attribute [local go_sem] max2_int min2_int max_two min_two max_three min_three max_four min_four   -- for this text's walks alone
set_option linter.unusedVariables false
set_option linter.unusedSimpArgs false

/-! ### stringslite_Index: by hand: of one byte -/
def stringslite_Index.f (a0 a1 : ByteArray) : Option Int := if a1.size = 1 then some (Lib.indexByte a0.data.toList (bt a1 0).toNat.toUInt8) else none
set_option maxHeartbeats 1000000 in
set_option maxRecDepth 100000 in
theorem stringslite_Index.calls (a0 a1 : ByteArray) (r : Int) (w : World) (h : stringslite_Index.f a0 a1 = some r) :
  Calls Tryd.prog 71 #[.string a0, .string a1] w fun e w' => e = .returned (.int .i64 r) ∧ Drawn0 w w' := by
 unfold stringslite_Index.f at h
 by_cases h1 : a1.size = 1
 ·rw [if_pos h1] at h
  have hb : (a1.size == 0) = false := by simp [h1]
  have hs : (((a1.size : Nat) : Int) == 1) = true := by simp [h1]
  have hs0 : (((a1.size : Nat) : Int) == 0) = false := by simp [h1]
  have hbt : (bt a1 0) = ((a1[0]'(by omega)).toNat : Int) := by simp [bt, h1]
  obtain rfl : Lib.indexByte a0.data.toList (bt a1 0).toNat.toUInt8 = r := by simpa using h
  have hbt' := Aside0.mk hbt
  clear hbt
  go_enter Tryd.func71, Tryd.ntmps71
  go_wp2_with fail
  ·have he : (a1.toList == a0.toList) = true := by assumption
   have hz : Lib.indexByte a0.data.toList (bt a1 0).toNat.toUInt8 = 0 := by
    rw [hbt'.out]
    have e1 : a1.data.toList = a0.data.toList := by simpa [Lib.toList_data] using he
    rw [← e1]
    have e2 : a1.data.toList = [a1[0]'(by omega)] := by
     have hl : a1.data.toList.length = 1 := by rw [data_length, h1]
     match hm : a1.data.toList, hl with
     | [x], _ =>
      have : a1.data.toList[0]'(by omega) = x := by simp [hm]
      rw [← this]; rfl
    rw [e2]
    simp [Lib.indexByte]
   go_ret
   exact ⟨by rw [hz]; rfl, Drawn0.refl _⟩
  ·refine (stringslite_IndexByte.calls a0 _ _ _ rfl).mono ?_
   rintro e w' ⟨rfl, ⟨n, rfl⟩⟩
   go_wp2_with fail
   go_ret
   exact ⟨by rw [hbt'.out]; simp, ⟨n, rfl⟩⟩
 ·rw [if_neg h1] at h; cases h

end Go.Proofs.YtbdfmjgndeigpaaDoor.P
