-- by xprint (this session's program over the kit's printer)
import Derived.Test.YtbdfmjgndeigpaaDoorPx0
import Derived.Outline
import Derived.WalkSpells
import Derived.Shelf.Strings.Search1
namespace Go.Proofs.YtbdfmjgndeigpaaDoor.P
open Go.RowKit Go.Proofs.YtbdfmjgndeigpaaDoorW.PrintWords Go.Proofs.YtbdfmjgndeigpaaDoorW.PrintLast Go.Proofs.YtbdfmjgndeigpaaDoorW.PrintMore
attribute [local go_sem] max2_int min2_int max_two min_two max_three min_three max_four min_four   -- for this text's walks alone
set_option linter.unusedVariables false
set_option linter.unusedSimpArgs false

/-! ### listing_Object: by hand -/
def objOk (l : List Int) : Bool := l.all (fun c => decide (33 ≤ c) && decide (c ≤ 126))
def listing_Object.f (a0 : ByteArray) : Option Int := some (if 1 ≤ a0.size ∧ a0.size ≤ 32 ∧ objOk (bytesOf a0) = true then 0 else 15)
theorem objOk_take {l : List Int} {k : Nat} (h : objOk (l.take k) = true) (hk : k < l.length) (h1 : 33 ≤ l.getD k 0) (h2 : l.getD k 0 ≤ 126) : objOk (l.take (k + 1)) = true := by
 have e : l.take (k + 1) = l.take k ++ [l.getD k 0] := by
  rw [List.take_add_one, List.getElem?_eq_getElem hk, List.getD_eq_getElem?_getD, List.getElem?_eq_getElem hk]
  rfl
 rw [e]
 unfold objOk at h ⊢
 rw [List.all_append, h, Bool.true_and]
 show (decide (33 ≤ l.getD k 0) && decide (l.getD k 0 ≤ 126) && true) = true
 rw [decide_eq_true h1, decide_eq_true h2]
 rfl
theorem objOk_not {l : List Int} {k : Nat} (hk : k < l.length) (h : l.getD k 0 < 33 ∨ 126 < l.getD k 0) : objOk l = false := by
 unfold objOk
 rw [List.all_eq_false]
 refine ⟨l.getD k 0, ?_, ?_⟩
 ·rw [List.getD_eq_getElem?_getD, List.getElem?_eq_getElem hk]
  exact List.getElem_mem hk
 ·intro h2
  rw [Bool.and_eq_true, decide_eq_true_eq, decide_eq_true_eq] at h2
  omega
set_option maxHeartbeats 1000000 in
set_option maxRecDepth 100000 in
theorem listing_Object.calls (a0 : ByteArray) (r : Int) (w : World) (h : listing_Object.f a0 = some r) :
  Calls Tryd.prog 30 #[.string a0] w fun e w' => e = .returned (.int .i64 r) ∧ Below w.heap.size w w' := by
 have hr : (if 1 ≤ a0.size ∧ a0.size ≤ 32 ∧ objOk (bytesOf a0) = true then 0 else 15) = r := by simpa [listing_Object.f] using h
 clear h
 have kb := fun W => print_bytes (P := Tryd.prog) 9 73 5 Tryd.underlying9 Tryd.underlying73 Tryd.underlying5 a0 W
 by_cases c1 : a0.size = 0
 ·have hr0 : 15 = r := by rw [← hr, if_neg]; omega
  subst hr0
  obtain ⟨⟨l⟩⟩ := a0
  obtain rfl : l = [] := by
   have : l.length = 0 := c1
   exact List.eq_nil_of_length_eq_zero this
  go_enter Tryd.func30, Tryd.ntmps30
  go_wp2
  go_ret
  exact ⟨rfl, Below.refl _ _⟩
 ·have hne : (a0.toList == ([] : List UInt8)) = false := by
   cases hl : a0.toList with
   | nil =>
    rw [Lib.toList_data] at hl
    have he := congrArg List.length hl
    rw [data_length] at he
    exact absurd he c1
   | cons _ _ => rfl
  by_cases c2 : a0.size ≤ 32
  ·have hgt : decide ((32 : Int) < (a0.size : Int)) = false := decide_eq_false (by omega)
   have hgt' : decide (32 < a0.size) = false := decide_eq_false (by omega)
   have hC := bytes_reads w 5 a0 (by omega)
   have hB : Below w.heap.size w (Lib.bytesWorld w 5 a0) := bytes_below (Below.refl _ _) (Nat.le_refl _) _ _
   obtain ⟨W0, hW0⟩ : ∃ W0, Lib.bytesWorld w 5 a0 = W0 := ⟨_, rfl⟩
   obtain ⟨hlen, _, hC2⟩ := hC
   obtain ⟨ad, had, hcell⟩ := hC2 (by omega)
   cases had
   have hk := hcell
   have kb0 := kb w
   rw [hW0] at hB hcell kb0
   clear hW0 kb
   go_enter Tryd.func30, Tryd.ntmps30
   go_wp2
   have HB := Aside0.mk hB
   go_loopw [15] (fun i wr => ∃ k : Nat, i = .int .i64 k ∧ k ≤ a0.size ∧ objOk ((bytesOf a0).take k) = true ∧ wr = W0) (fun i _ => a0.size - (intOf i).toNat)
   case atStart => exact ⟨0, rfl, Nat.zero_le _, by simp [objOk], rfl⟩
   case round =>
    obtain ⟨k, rfl, hk, ho, rfl⟩ := hrel
    by_cases hlt : k < a0.size
    ·have hc := hcell k hlt
     obtain ⟨c, hcv⟩ : ∃ c, (bytesOf a0).getD k 0 = c := ⟨_, rfl⟩
     rw [hcv, add_plain] at hc
     by_cases g1 : c < 33
     ·have d1 : decide (c < 33) = true := decide_eq_true g1
      go_wp2
      have hno := objOk_not (l := bytesOf a0) (k := k) (by omega) (by omega)
      rw [if_neg (by rw [hno]; simp)] at hr
      subst hr
      go_ret
      exact ⟨rfl, HB.out⟩
     ·have d1 : decide (c < 33) = false := decide_eq_false g1
      by_cases g2 : 126 < c
      ·have d2 : decide (126 < c) = true := decide_eq_true g2
       go_wp2
       have hno := objOk_not (l := bytesOf a0) (k := k) (by omega) (by omega)
       rw [if_neg (by rw [hno]; simp)] at hr
       subst hr
       go_ret
       exact ⟨rfl, HB.out⟩
      ·have d2 : decide (126 < c) = false := decide_eq_false g2
       go_wp2
       go_roundw
       case rel => exact ⟨k + 1, rfl, by omega, objOk_take ho (by omega) (by omega) (by omega), by first | rfl | trivial⟩
       case measure => simp [intOf]; omega
    ·obtain rfl : k = a0.size := by omega
     go_wp2
     rw [List.take_of_length_le (by omega)] at ho
     rw [if_pos ⟨by omega, by omega, ho⟩] at hr
     subst hr
     go_ret
     exact ⟨rfl, HB.out⟩
  ·have hr0 : 15 = r := by rw [← hr, if_neg]; omega
   subst hr0
   have hgt : decide ((32 : Int) < (a0.size : Int)) = true := decide_eq_true (by omega)
   have hgt' : decide (32 < a0.size) = true := decide_eq_true (by omega)
   go_enter Tryd.func30, Tryd.ntmps30
   go_wp2
   go_ret
   exact ⟨rfl, Below.refl _ _⟩

end Go.Proofs.YtbdfmjgndeigpaaDoor.P
