import Derived.Test.YtbdfmjgndeigpaaDoorPureKeyPrefix
import Derived.KernelRfl
import Derived.Laws.BitsAllLaws
import Derived.Test.YtbdfmjgndeigpaaDoorPx22
namespace Go.Proofs.YtbdfmjgndeigpaaDoor.Pure
open Go.RowKit Go.Proofs.YtbdfmjgndeigpaaDoor.P Go.Proofs.YtbdfmjgndeigpaaDoorW.PrintWords Go.Proofs.YtbdfmjgndeigpaaDoorW.PrintLast Go.Proofs.YtbdfmjgndeigpaaDoorW.PrintMore
set_option linter.unusedVariables false
/-! ### Parts are read of their bytes -/
theorem xb_up (b : Nat) (h : b < 256) : xb 0 (b : Int) = (b : Int) := by
  unfold xb
  rw [show (0 : Int) = ((0 : Nat) : Int) from rfl, u8_xor_nat b 0 h (by decide), Nat.xor_zero]
theorem xb_down (b : Nat) (h : b < 256) : xb 255 ((255 - b : Nat) : Int) = (b : Int) := by
  unfold xb
  rw [show (255 : Int) = ((255 : Nat) : Int) from rfl, u8_xor_nat (255 - b) 255 (by omega) (by decide), xor_255 _ (by omega)]
  omega
theorem xor_back (n : Nat) (h : n < 9223372036854775808) : (n + 9223372036854775808) ^^^ 9223372036854775808 = n := by
  rw [← xor_top n h, Nat.xor_assoc, Nat.xor_self, Nat.xor_zero]
/-! ### There are no more parts than bytes -/
theorem dec_few : ∀ (n : Nat) (m : Option (List Int)) (xs : List Int) (acc r : List S91), xs.length ≤ n → dec m xs acc = some r → r.length ≤ acc.length + xs.length
  | n, none, [], acc, r, _, h => by
    rw [dec_nil] at h
    obtain rfl := Option.some.inj h
    simp
  | 0, none, _ :: _, _, _, hl, _ => by simp at hl
  | n + 1, none, c :: q, acc, r, hl, h => by
    rw [List.length_cons] at hl ⊢
    rw [dec_cons] at h
    split at h
    · have := dec_few n _ _ _ _ (by omega) h
      omega
    · split at h
      · split at h
        · cases h
        · have := dec_few n _ _ _ _ (by rw [List.length_drop]; omega) h
          rw [List.length_append, List.length_drop] at this
          simp only [List.length_cons, List.length_nil] at this
          omega
      · cases h
  | n, some t, [], acc, r, _, h => by
    rw [dec_tnil] at h
    cases h
  | 0, some _, _ :: _, _, _, hl, _ => by simp at hl
  | n + 1, some t, c :: q, acc, r, hl, h => by
    rw [List.length_cons] at hl ⊢
    by_cases hc : c = 0
    · subst hc
      cases q with
      | nil => rw [dec_t0nil] at h; cases h
      | cons d q =>
        rw [List.length_cons] at hl ⊢
        rw [dec_t0cons] at h
        split at h
        · have := dec_few n _ _ _ _ (by omega) h
          omega
        · split at h
          · have := dec_few n _ _ _ _ (by omega) h
            rw [List.length_append] at this
            simp only [List.length_cons, List.length_nil] at this
            omega
          · cases h
    · rw [dec_tcons hc] at h
      have := dec_few n _ _ _ _ (by omega) h
      omega
end Go.Proofs.YtbdfmjgndeigpaaDoor.Pure
