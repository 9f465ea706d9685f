-- by xprint (this session's program over the kit's printer)
import Derived.Test.YtbdfmjgndeigpaaDoorPx0
namespace Go.Proofs.YtbdfmjgndeigpaaDoor.P
open Go.RowKit Go.Proofs.YtbdfmjgndeigpaaDoorW.PrintWords Go.Proofs.YtbdfmjgndeigpaaDoorW.PrintLast Go.Proofs.YtbdfmjgndeigpaaDoorW.PrintMore
attribute [local go_sem] max2_int min2_int max_two min_two max_three min_three max_four min_four   -- for this text's walks alone
set_option linter.unusedVariables false
set_option linter.unusedSimpArgs false

/-! ### tag_Check: by hand: a range over an array of two -/
def tagIn (a : Int) : Bool := decide (0 ≤ a) && decide (a < 1048573)
def tag_Check.f (a0 a1 : Int) : Option Int := some (if tagIn a0 = true ∧ tagIn a1 = true then 0 else 2)
theorem tagIn_iff (a : Int) : tagIn a = true ↔ 0 ≤ a ∧ a < 1048573 := by
 unfold tagIn
 rw [Bool.and_eq_true, decide_eq_true_eq, decide_eq_true_eq]
set_option maxHeartbeats 4000000 in
set_option maxRecDepth 100000 in
theorem tag_Check.calls (a0 a1 : Int) (r : Int) (w : World) (h : tag_Check.f a0 a1 = some r) :
  Calls Tryd.prog 34 #[.agg #[.int .i64 a0, .int .i64 a1]] w fun e w' => e = .returned (.int .i64 r) ∧ Below w.heap.size w w' := by
 have hr : (if tagIn a0 = true ∧ tagIn a1 = true then 0 else 2) = r := by simpa [tag_Check.f] using h
 clear h
 have hu := Tryd.underlying38
 have hi0 : ∀ W : World, (Instr.index 101 (.agg #[.int .i64 a0, .int .i64 a1]) (.int .i64 0)).run Tryd.prog W = .ok (.int .i64 a0) W := fun W => by first | rfl | kernel_rfl
 have hi1 : ∀ W : World, (Instr.index 101 (.agg #[.int .i64 a0, .int .i64 a1]) (.int .i64 1)).run Tryd.prog W = .ok (.int .i64 a1) W := fun W => by first | rfl | kernel_rfl
 go_enter Tryd.func34, Tryd.ntmps34
 go_wp2
 obtain ⟨W0, hW0⟩ : ∃ W0, w.alloc (.cells #[.int .i64 a0, .int .i64 a1] 38) = W0 := ⟨_, rfl⟩
 have hB := below_alloc (Below.refl w.heap.size w) (.cells #[.int .i64 a0, .int .i64 a1] 38)
 rw [hW0] at hB
 try rw [hW0]
 have HB := Aside0.mk hB
 clear hB
 go_loopw [10] (fun i wr => ∃ k : Nat, i = .int .i64 k ∧ k ≤ 2 ∧ Aside0 ((1 ≤ k → tagIn a0 = true) ∧ (2 ≤ k → tagIn a1 = true)) ∧ wr = W0) (fun i _ => 2 - (intOf i).toNat)
 case atStart => exact ⟨0, rfl, by omega, ⟨fun h => absurd h (by omega), fun h => absurd h (by omega)⟩, by first | rfl | exact hW0⟩
 case round =>
  obtain ⟨k, rfl, hk, ho, rfl⟩ := hrel
  rcases k with _ | _ | _ | k
  ·by_cases g1 : a0 < 0
   ·have d1 : decide (a0 < 0) = true := decide_eq_true g1
    rw [if_neg (fun h => by have := (tagIn_iff a0).1 h.1; omega)] at hr
    subst hr
    go_wp2
    go_ret
    exact ⟨rfl, HB.out⟩
   ·have d1 : decide (a0 < 0) = false := decide_eq_false g1
    by_cases g2 : 1048573 ≤ a0
    ·have d2 : decide (1048573 ≤ a0) = true := decide_eq_true g2
     rw [if_neg (fun h => by have := (tagIn_iff a0).1 h.1; omega)] at hr
     subst hr
     go_wp2
     go_ret
     exact ⟨rfl, HB.out⟩
    ·have d2 : decide (1048573 ≤ a0) = false := decide_eq_false g2
     go_wp2
     go_roundw
     case rel => exact ⟨1, rfl, by omega, ⟨fun _ => (tagIn_iff a0).2 (by omega), fun h => absurd h (by omega)⟩, by first | rfl | trivial⟩
     case measure => simp [intOf]
  ·have h0 := ho.out.1 (by omega)
   by_cases g1 : a1 < 0
   ·have d1 : decide (a1 < 0) = true := decide_eq_true g1
    rw [if_neg (fun h => by have := (tagIn_iff a1).1 h.2; omega)] at hr
    subst hr
    go_wp2
    go_ret
    exact ⟨rfl, HB.out⟩
   ·have d1 : decide (a1 < 0) = false := decide_eq_false g1
    by_cases g2 : 1048573 ≤ a1
    ·have d2 : decide (1048573 ≤ a1) = true := decide_eq_true g2
     rw [if_neg (fun h => by have := (tagIn_iff a1).1 h.2; omega)] at hr
     subst hr
     go_wp2
     go_ret
     exact ⟨rfl, HB.out⟩
    ·have d2 : decide (1048573 ≤ a1) = false := decide_eq_false g2
     go_wp2
     go_roundw
     case rel => exact ⟨2, rfl, by omega, ⟨fun _ => h0, fun _ => (tagIn_iff a1).2 (by omega)⟩, by first | rfl | trivial⟩
     case measure => simp [intOf]
  ·have h0 := ho.out.1 (by omega)
   have h1 := ho.out.2 (by omega)
   rw [if_pos ⟨h0, h1⟩] at hr
   subst hr
   go_wp2
   go_ret
   exact ⟨rfl, HB.out⟩
  ·omega

end Go.Proofs.YtbdfmjgndeigpaaDoor.P
