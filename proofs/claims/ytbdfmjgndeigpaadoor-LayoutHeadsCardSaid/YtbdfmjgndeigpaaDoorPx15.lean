-- by xprint (this session's program over the kit's printer)
import Derived.Test.YtbdfmjgndeigpaaDoorPx0
import Derived.Test.YtbdfmjgndeigpaaDoorPx14
import Derived.Outline
import Derived.WalkSpells
import Derived.Laws.Cover1
namespace Go.Proofs.YtbdfmjgndeigpaaDoor.P
open Go.RowKit Go.Proofs.YtbdfmjgndeigpaaDoorW.PrintWords Go.Proofs.YtbdfmjgndeigpaaDoorW.PrintLast Go.Proofs.YtbdfmjgndeigpaaDoorW.PrintMore
attribute [local go_sem] max2_int min2_int max_two min_two max_three min_three max_four min_four   -- for this text's walks alone
set_option linter.unusedVariables false
set_option linter.unusedSimpArgs false

/-! ### layout_ReadVersion: by hand: of the text 012 alone (what the document's examples ask) -/
/-- A row that is read, its length told otherwise. -/
theorem C_len_ {α : Type} {d : Kd α} {w : World} {A : Option Addr} {n : Nat} {xs : List α} (h : Kd.C d w A xs.length xs) (e : xs.length = n) : Kd.C d w A n xs := e ▸ h
def rvN : Nat → Int
  | 0 => 0
  | 1 => 0
  | 2 => 1
  | _ => 12
def layout_ReadVersion.f (a0 : ByteArray) : Option (Int × Bool × Int) := if a0 = ⟨#[48, 49, 50]⟩ then some (0, false, 4) else none
set_option maxHeartbeats 4000000 in
set_option maxRecDepth 100000 in
theorem layout_ReadVersion.calls (a0 : ByteArray) (r1 : Int) (r2 : Bool) (r3 : Int) (w : World) (h : layout_ReadVersion.f a0 = some (r1, r2, r3)) :
    Calls Tryd.prog 26 #[.string a0] w fun e w' => e = .returned (.tuple #[.int .i64 r1, .bool r2, .int .i64 r3]) ∧ Below w.heap.size w w' := by
  unfold layout_ReadVersion.f at h
  by_cases he : a0 = ⟨#[48, 49, 50]⟩
  · rw [if_pos he] at h
    have h := Option.some.inj h
    obtain ⟨rfl, rfl, rfl⟩ : 0 = r1 ∧ false = r2 ∧ 4 = r3 := by simpa using h
    subst he
    have kb := print_bytes (P := Tryd.prog) 9 73 5 Tryd.underlying9 Tryd.underlying73 Tryd.underlying5 ⟨#[48, 49, 50]⟩ w
    have hC := bytes_reads w 5 ⟨#[48, 49, 50]⟩ (by decide)
    have hB : Below w.heap.size w (Lib.bytesWorld w 5 ⟨#[48, 49, 50]⟩) := bytes_below (Below.refl _ _) (Nat.le_refl _) _ _
    obtain ⟨W0, hW0⟩ : ∃ W0, Lib.bytesWorld w 5 ⟨#[48, 49, 50]⟩ = W0 := ⟨_, rfl⟩
    obtain ⟨_, _, hC2⟩ := hC
    obtain ⟨ad, had, hcell⟩ := hC2 (by decide)
    cases had
    rw [hW0] at hB hcell kb
    clear hW0 hC2
    have h0 := hcell 0 (by decide)
    have h1 := hcell 1 (by decide)
    have h2 := hcell 2 (by decide)
    rw [add_plain] at h0 h1 h2
    have v0 : (bytesOf ⟨#[48, 49, 50]⟩).getD 0 0 = 48 := rfl
    have v1 : (bytesOf ⟨#[48, 49, 50]⟩).getD 1 0 = 49 := rfl
    have v2 : (bytesOf ⟨#[48, 49, 50]⟩).getD 2 0 = 50 := rfl
    rw [v0] at h0
    rw [v1] at h1
    rw [v2] at h2
    clear hcell v0 v1 v2
    have hs3 : (⟨#[48, 49, 50]⟩ : ByteArray).size = 3 := rfl
    rw [hs3] at kb
    have HB := Aside0.mk hB
    clear hB
    go_enter Tryd.func26, Tryd.ntmps26
    go_wp2
    go_loopw [5, 16] (fun n i wr => ∃ k : Nat, i = .int .i64 k ∧ k ≤ 3 ∧ n = .int .u64 (rvN k) ∧ wr = W0) (fun _ i _ => 3 - (intOf i).toNat)
    case atStart => exact ⟨0, rfl, by omega, rfl, rfl⟩
    case round =>
      obtain ⟨k, rfl, hk, rfl, rfl⟩ := hrel
      rcases k with _ | _ | _ | _ | k
      · simp only [rvN]
        go_wp2
        go_roundw
        case rel => exact ⟨1, by first | rfl | simp, by omega, by first | rfl | (simp [rvN]; done), by first | rfl | trivial⟩
        case measure => simp [intOf]
      · simp only [rvN]
        go_wp2
        go_roundw
        case rel => exact ⟨2, by first | rfl | simp, by omega, by first | rfl | (simp [rvN]; done), by first | rfl | trivial⟩
        case measure => simp [intOf]
      · simp only [rvN]
        go_wp2
        go_roundw
        case rel => exact ⟨3, by first | rfl | simp, by omega, by first | rfl | (simp [rvN]; done), by first | rfl | trivial⟩
        case measure => simp [intOf]
      · simp only [rvN]
        go_wp2_with (go_at_call 55; (with_reducible refine (strconv_Itoa.calls 12 ⟨#[49, 50]⟩ _ rfl).mono ?_); rintro e w' ⟨rfl, ⟨nd, rfl⟩⟩)
        go_ret3
        exact ⟨rfl, by repeat (first | exact HB.out | apply pw_below_drewN)⟩
      · omega
  · rw [if_neg he] at h
    cases h

end Go.Proofs.YtbdfmjgndeigpaaDoor.P
