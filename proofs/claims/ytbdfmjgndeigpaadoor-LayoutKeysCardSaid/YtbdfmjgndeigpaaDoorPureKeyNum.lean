import Derived.Test.YtbdfmjgndeigpaaDoorPureKeyCommon
import Derived.Laws.BitsAllLaws
namespace Go.Proofs.YtbdfmjgndeigpaaDoor.Pure
open Go.RowKit Go.Proofs.YtbdfmjgndeigpaaDoor.P Go.Proofs.YtbdfmjgndeigpaaDoorW.PrintWords Go.Proofs.YtbdfmjgndeigpaaDoorW.PrintLast Go.Proofs.YtbdfmjgndeigpaaDoorW.PrintMore
/-! ### The order of numbers' bytes -/
theorem xor_top (n : Nat) (h : n < 9223372036854775808) : n ^^^ 9223372036854775808 = n + 9223372036854775808 := by
  refine Nat.eq_of_testBit_eq (fun i => ?_)
  rw [Nat.testBit_xor, Nat.add_comm, show (9223372036854775808 : Nat) = 2 ^ 63 from rfl]
  by_cases h1 : i < 63
  · rw [Nat.testBit_two_pow_add_gt h1, Nat.testBit_two_pow_of_ne (by omega), Bool.xor_false]
  · by_cases h2 : i = 63
    · subst h2
      rw [Nat.testBit_two_pow_add_eq, Nat.testBit_two_pow_self]
      cases n.testBit 63 <;> rfl
    · rw [Nat.testBit_two_pow_of_ne (by omega), Bool.xor_false]
      have e1 : n.testBit i = false := Nat.testBit_lt_two_pow (Nat.lt_of_lt_of_le h (show 2 ^ 63 ≤ 2 ^ i from Nat.pow_le_pow_right (by omega) (by omega)))
      have e2 : (2 ^ 63 + n).testBit i = false := Nat.testBit_lt_two_pow (Nat.lt_of_lt_of_le (show 2 ^ 63 + n < 2 ^ 64 by omega) (Nat.pow_le_pow_right (by omega) (by omega)))
      rw [e1, e2]
theorem unum_eq (n : Nat) (h : n < 9223372036854775808) : unum (n : Int) = ((n + 9223372036854775808 : Nat) : Int) := by
  unfold unum
  have e : IntKind.u64.wrap (n : Int) = (n : Int) := by
    simp [IntKind.wrap, IntKind.bits, IntKind.signed]
    omega
  rw [e, ← xor_top n h]
  exact u64_xor_nat n 9223372036854775808 (by omega) (by decide)
theorem xor_255 : ∀ b, b < 256 → b ^^^ 255 = 255 - b := by decide +kernel
theorem nb_up (u s : Nat) (hs : s ≤ 64) : nb (u : Int) 0 (s : Int) = ((u / 2 ^ s % 256 : Nat) : Int) := by
  unfold nb shr
  have e : (u : Int) / 2 ^ min (s : Int).toNat IntKind.u64.bits % 256 = ((u / 2 ^ s % 256 : Nat) : Int) := by
    rw [Int.toNat_natCast, show IntKind.u64.bits = 64 from rfl, Nat.min_eq_left hs]
    simp
  rw [e]
  have := u8_xor_nat (u / 2 ^ s % 256) 0 (Nat.mod_lt _ (by decide)) (by decide)
  rw [Nat.xor_zero] at this
  exact this
theorem nb_down (u s : Nat) (hs : s ≤ 64) : nb (u : Int) 255 (s : Int) = ((255 - u / 2 ^ s % 256 : Nat) : Int) := by
  unfold nb shr
  have e : (u : Int) / 2 ^ min (s : Int).toNat IntKind.u64.bits % 256 = ((u / 2 ^ s % 256 : Nat) : Int) := by
    rw [Int.toNat_natCast, show IntKind.u64.bits = 64 from rfl, Nat.min_eq_left hs]
    simp
  rw [e]
  have := u8_xor_nat (u / 2 ^ s % 256) 255 (Nat.mod_lt _ (by decide)) (by decide)
  rw [xor_255 _ (Nat.mod_lt _ (by decide))] at this
  exact this
end Go.Proofs.YtbdfmjgndeigpaaDoor.Pure
