-- by xprint (this session's program over the kit's printer)
import Derived.Test.YtbdfmjgndeigpaaDoorPx0
import Derived.Test.YtbdfmjgndeigpaaDoorShelfItoa
import Derived.Lib.AppendIntMem
namespace Go.Proofs.YtbdfmjgndeigpaaDoor.P
open Go.RowKit Go.Proofs.YtbdfmjgndeigpaaDoorW.PrintWords Go.Proofs.YtbdfmjgndeigpaaDoorW.PrintLast Go.Proofs.YtbdfmjgndeigpaaDoorW.PrintMore
attribute [local go_sem] max2_int min2_int max_two min_two max_three min_three max_four min_four   -- for this text's walks alone
set_option linter.unusedVariables false
set_option linter.unusedSimpArgs false

/-! ### layout_Version: by hand: for every number, by the library's contract of strconv.Itoa, which asks for its table -/
abbrev TabsAt (w : World) : Prop := Lib.TabIs Tryd.prog w "internal/strconv.uint64pow10" .u64 Lib.pow10Tab
theorem tabs_below {B : Nat} {w w' : World} (h : TabsAt w) (hb : Below B w w') (hB : w.heap.size ≤ B) : TabsAt w' := by
 unfold TabsAt Lib.TabIs World.var? at h ⊢
 cases hg : Tryd.prog.globalNamed "internal/strconv.uint64pow10" with
 | none => rw [hg] at h; cases h
 | some g =>
  rw [hg] at h
  simp only [Option.bind_some] at h ⊢
  have hlt : g < w.heap.size := by
   rcases Nat.lt_or_ge g w.heap.size with h' | h'
   ·exact h'
   ·rw [Array.getElem?_eq_none h'] at h; cases h
  rw [hb.block g (Nat.lt_of_lt_of_le hlt hB)]
  exact h
/-- The decimal text of a number. -/
def decT (n : Int) : ByteArray := ⟨(Lib.itoa n).toArray⟩
theorem itoa_tell (n : Int) (h0 : -9223372036854775808 ≤ n) (h1 : n ≤ 9223372036854775807) (w : World) (hL : TabsAt w) :
  Calls Tryd.prog 55 #[.int .i64 n] w fun e w' => e = .returned (.string (decT n)) ∧ Below w.heap.size w w' :=
 (Tryd.strconv_Itoa n h0 h1 w hL).mono fun e w' ⟨he, k, os, hw⟩ => ⟨he, hw ▸ Lib.below_grow _ w (Nat.le_refl _) k os⟩
def layout_Version.f (a0 : Int) (a1 : Bool) : Option ByteArray :=
 if a1 = true then some ⟨#[110, 117, 108, 108]⟩ else if a0 < 0 then some ⟨#[]⟩ else if a0 ≤ 9223372036854775807 then some (decT a0) else none
set_option maxHeartbeats 4000000 in
set_option maxRecDepth 100000 in
theorem layout_Version.calls (a0 : Int) (a1 : Bool) (r : ByteArray) (w : World) (h : layout_Version.f a0 a1 = some r) (hL : TabsAt w) :
  Calls Tryd.prog 27 #[.int .i64 a0, .bool a1] w fun e w' => e = .returned (.string r) ∧ Below w.heap.size w w' := by
 unfold layout_Version.f at h
 cases a1
 ·rw [if_neg (by decide)] at h
  by_cases hn : a0 < 0
  ·rw [if_pos hn] at h
   obtain rfl := Option.some.inj h
   go_enter Tryd.func27, Tryd.ntmps27
   go_wp2
   go_ret
   exact ⟨rfl, Below.refl _ _⟩
  ·rw [if_neg hn] at h
   by_cases hm : a0 ≤ 9223372036854775807
   ·rw [if_pos hm] at h
    obtain rfl := Option.some.inj h
    have cI := itoa_tell a0 (by omega) hm w hL
    go_enter Tryd.func27, Tryd.ntmps27
    go_wp2_with (go_at_call 55; (with_reducible refine cI.mono ?_); rintro e w' ⟨rfl, hb⟩)
    go_ret
    exact ⟨rfl, hb⟩
   ·rw [if_neg hm] at h
    cases h
 ·rw [if_pos rfl] at h
  obtain rfl := Option.some.inj h
  go_enter Tryd.func27, Tryd.ntmps27
  go_wp2
  go_ret
  exact ⟨rfl, Below.refl _ _⟩

end Go.Proofs.YtbdfmjgndeigpaaDoor.P
