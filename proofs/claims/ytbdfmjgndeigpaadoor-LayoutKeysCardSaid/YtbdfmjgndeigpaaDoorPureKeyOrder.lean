import Derived.Test.YtbdfmjgndeigpaaDoorPureKeyRes
namespace Go.Proofs.YtbdfmjgndeigpaaDoor.Pure
open Go.RowKit Go.Proofs.YtbdfmjgndeigpaaDoor.P Go.Proofs.YtbdfmjgndeigpaaDoorW.PrintWords Go.Proofs.YtbdfmjgndeigpaaDoorW.PrintLast Go.Proofs.YtbdfmjgndeigpaaDoorW.PrintMore
/-! ### The order of bytes -/
def byteL (l : List Int) : Prop := ∀ c ∈ l, 0 ≤ c ∧ c < 256
/-! ### Numbers, big end first -/
def goodN (n : Int) : Prop := 0 ≤ n ∧ n < 9223372036854775808
theorem goodN_nat {n : Int} (h : goodN n) : ∃ m : Nat, n = m ∧ m < 9223372036854775808 := ⟨n.toNat, by unfold goodN at h; omega, by unfold goodN at h; omega⟩
end Go.Proofs.YtbdfmjgndeigpaaDoor.Pure
