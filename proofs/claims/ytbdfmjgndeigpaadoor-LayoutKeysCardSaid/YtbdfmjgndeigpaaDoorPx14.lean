-- by xprint (this session's program over the kit's printer)
import Derived.Test.YtbdfmjgndeigpaaDoorPx0
import Derived.Test.YtbdfmjgndeigpaaDoorPx13
import Derived.Lib.SlicesS
import Derived.Outline
import Derived.WalkSpells
import Derived.Laws.Cover1
namespace Go.Proofs.YtbdfmjgndeigpaaDoor.P
open Go.RowKit Go.Proofs.YtbdfmjgndeigpaaDoorW.PrintWords Go.Proofs.YtbdfmjgndeigpaaDoorW.PrintLast Go.Proofs.YtbdfmjgndeigpaaDoorW.PrintMore
attribute [local go_sem] max2_int min2_int max_two min_two max_three min_three max_four min_four   -- for this text's walks alone
set_option linter.unusedVariables false
set_option linter.unusedSimpArgs false

/-! ### layout_ReadVersion: by hand: of null, of texts of digits, and of texts that are too long -/
/-- The number of the first k digits. -/
def digN (a0 : ByteArray) (k : Nat) : Int := ((bytesOf a0).take k).foldl (fun n c => 10 * n + (c - 48)) 0
/-- All bytes are digits. -/
def digits (a0 : ByteArray) : Bool := (bytesOf a0).all fun c => decide (48 ≤ c) && decide (c ≤ 57)
theorem digN_zero (a0 : ByteArray) : digN a0 0 = 0 := rfl
theorem digN_succ (a0 : ByteArray) (k : Nat) (hk : k < a0.size) : digN a0 (k + 1) = 10 * digN a0 k + ((bytesOf a0).getD k 0 - 48) := by
  have hl : k < (bytesOf a0).length := by rw [bytesOf_length]; exact hk
  unfold digN
  rw [List.take_succ_eq_append_getElem hl, List.foldl_append]
  simp [List.getD_eq_getElem?_getD, List.getElem?_eq_getElem hl]
theorem digits_at (a0 : ByteArray) (h : digits a0 = true) (k : Nat) (hk : k < a0.size) : 48 ≤ (bytesOf a0).getD k 0 ∧ (bytesOf a0).getD k 0 ≤ 57 := by
  have hl : k < (bytesOf a0).length := by rw [bytesOf_length]; exact hk
  have := List.all_eq_true.1 h ((bytesOf a0)[k]) (List.getElem_mem hl)
  rw [List.getD_eq_getElem?_getD, List.getElem?_eq_getElem hl]
  simpa using this
theorem digN_lt (a0 : ByteArray) (h : digits a0 = true) : ∀ (k : Nat), k ≤ a0.size → 0 ≤ digN a0 k ∧ digN a0 k < 10 ^ k
  | 0, _ => by rw [digN_zero]; decide
  | k + 1, hk => by
    have ih := digN_lt a0 h k (by omega)
    have hd := digits_at a0 h k (by omega)
    rw [digN_succ a0 k (by omega)]
    have : (10 : Int) ^ (k + 1) = 10 * 10 ^ k := by rw [Int.pow_succ, Int.mul_comm]
    omega
theorem digN_max (a0 : ByteArray) (h : digits a0 = true) (hs : a0.size ≤ 19) (k : Nat) (hk : k ≤ a0.size) : 0 ≤ digN a0 k ∧ digN a0 k < 10000000000000000000 := by
  have ⟨h0, h1⟩ := digN_lt a0 h k hk
  refine ⟨h0, Int.lt_of_lt_of_le h1 ?_⟩
  have : (10 : Nat) ^ k ≤ 10 ^ 19 := Nat.pow_le_pow_right (by decide) (by omega)
  have h2 : ((10 ^ k : Nat) : Int) ≤ ((10 ^ 19 : Nat) : Int) := by exact_mod_cast this
  simpa using h2
def layout_ReadVersion.f (a0 : ByteArray) : Option (Int × Bool × Int) :=
  if a0 = ⟨#[110, 117, 108, 108]⟩ then some (0, true, 0)
  else if 19 < a0.size then (if a0.size ≤ 9223372036854775807 then some (0, false, 4) else none)
  else if digits a0 = true then
    (if 1152921504606846976 < digN a0 a0.size then some (0, false, 4)
     else if a0 = decT (digN a0 a0.size) then some (digN a0 a0.size, false, 0) else some (0, false, 4))
  else none
set_option maxHeartbeats 4000000 in
set_option maxRecDepth 100000 in
theorem layout_ReadVersion.calls (a0 : ByteArray) (r1 : Int) (r2 : Bool) (r3 : Int) (w : World) (h : layout_ReadVersion.f a0 = some (r1, r2, r3)) (hL : TabsAt w) :
    Calls Tryd.prog 26 #[.string a0] w fun e w' => e = .returned (.tuple #[.int .i64 r1, .bool r2, .int .i64 r3]) ∧ Below w.heap.size w w' := by
  unfold layout_ReadVersion.f at h
  by_cases hnull : a0 = ⟨#[110, 117, 108, 108]⟩
  · rw [if_pos hnull] at h
    have h := Option.some.inj h
    obtain ⟨rfl, rfl, rfl⟩ : 0 = r1 ∧ true = r2 ∧ 0 = r3 := by simpa using h
    subst hnull
    go_enter Tryd.func26, Tryd.ntmps26
    go_wp2
    go_ret3
    exact ⟨rfl, Below.refl _ _⟩
  rw [if_neg hnull] at h
  have hnull2 : (a0.toList == [110, 117, 108, 108]) = false := by
    have := (Lib.bytes_beq_false_iff _ _).2 hnull
    rwa [show (⟨#[110, 117, 108, 108]⟩ : ByteArray).toList = [110, 117, 108, 108] from by first | rfl | (rw [ByteArray.toList_eq])] at this
  by_cases hlong : 19 < a0.size
  · rw [if_pos hlong] at h
    by_cases hbig : a0.size ≤ 9223372036854775807
    · rw [if_pos hbig] at h
      have h := Option.some.inj h
      obtain ⟨rfl, rfl, rfl⟩ : 0 = r1 ∧ false = r2 ∧ 4 = r3 := by simpa using h
      have hz : (19 : Int) < (a0.size : Int) := by omega
      go_enter Tryd.func26, Tryd.ntmps26
      go_wp2
      go_ret3
      exact ⟨rfl, Below.refl _ _⟩
    · rw [if_neg hbig] at h
      cases h
  rw [if_neg hlong] at h
  by_cases hdig : digits a0 = true
  · rw [if_pos hdig] at h
    have hmx := digN_max a0 hdig (by omega)
    have hat := digits_at a0 hdig
    have kb := print_bytes (P := Tryd.prog) 9 73 5 Tryd.underlying9 Tryd.underlying73 Tryd.underlying5 a0 w
    have hC := bytes_reads w 5 a0 (by omega)
    have hB : Below w.heap.size w (Lib.bytesWorld w 5 a0) := bytes_below (Below.refl _ _) (Nat.le_refl _) _ _
    obtain ⟨W0, hW0⟩ : ∃ W0, Lib.bytesWorld w 5 a0 = W0 := ⟨_, rfl⟩
    have hL0 : TabsAt W0 := hW0 ▸ tabs_below hL hB (Nat.le_refl _)
    obtain ⟨_, _, hC2⟩ := hC
    rw [hW0] at hB kb hC2
    clear hW0
    obtain ⟨n, hn⟩ : ∃ n : Nat, a0.size = n := ⟨_, rfl⟩
    have hcell : ∀ j, j < n → W0.cell? ⟨w.heap.size, j, none⟩ = some (.int .u8 ((bytesOf a0).getD j 0)) := by
      intro j hj
      obtain ⟨ad, had, hcell⟩ := hC2 (by omega)
      cases had
      have := hcell j (by omega)
      rw [add_plain] at this
      simpa using this
    clear hC2
    have hn19 : n ≤ 19 := by omega
    have HB := Aside0.mk hB
    have HH := Aside0.mk h
    have HD := Aside0.mk (digN_succ a0)
    clear hB h
    go_enter Tryd.func26, Tryd.ntmps26
    have hnn : ¬ ((19 : Int) < (n : Int)) := by omega
    rw [hn] at kb
    go_wp2
    go_loopw [5, 16] (fun s i wr => ∃ k : Nat, i = .int .i64 k ∧ k ≤ n ∧ s = .int .u64 (digN a0 k) ∧ wr = W0) (fun _ i _ => n - (intOf i).toNat)
    case atStart => exact ⟨0, rfl, by omega, rfl, rfl⟩
    case round =>
      obtain ⟨k, rfl, hk, rfl, rfl⟩ := hrel
      obtain ⟨d, hd⟩ : ∃ d, digN a0 k = d := ⟨_, rfl⟩
      have hdb := hmx k (by omega)
      by_cases hkn : k < n
      · have hc := hcell k hkn
        have ha := hat k (by omega)
        have hs := HD.out k (by omega)
        obtain ⟨c, hcc⟩ : ∃ c, (bytesOf a0).getD k 0 = c := ⟨_, rfl⟩
        rw [hcc] at hc ha hs
        have hdb2 := hmx (k + 1) (by omega)
        rw [hs] at hdb2
        rw [hd] at hs hdb hdb2 ⊢
        have hs2 : digN a0 (k + 1) = 10 * d + (c - 48) := hs
        clear hs hcell hat hmx
        have hkl : (k : Int) < (n : Int) := by omega
        have h48 : ¬ (c < 48) := by omega
        have h57 : ¬ (57 < c) := by omega
        have hwa : IntKind.wrap .u8 (c - 48) = c - 48 := by rw [IntKind.wrap_u8]; omega
        go_wp2
        go_roundw
        case rel => exact ⟨k + 1, by first | rfl | simp, by omega, by rw [hs2], by first | rfl | trivial⟩
        case measure => simp [intOf]; omega
      · obtain rfl : k = n := by omega
        have hH := HH.out
        rw [hn, hd] at hH
        rw [hd] at hdb ⊢
        clear hcell hat hmx
        have hkk : ¬ ((k : Int) < (k : Int)) := by omega
        by_cases hg : 1152921504606846976 < d
        · rw [if_pos hg] at hH
          have hH := Option.some.inj hH
          obtain ⟨rfl, rfl, rfl⟩ : 0 = r1 ∧ false = r2 ∧ 4 = r3 := by simpa using hH
          go_wp2
          go_ret3
          exact ⟨rfl, HB.out⟩
        · rw [if_neg hg] at hH
          have hbel := HB.out
          have cI := itoa_tell d (by omega) (by omega) wr hL0
          have hlt : ¬ (9223372036854775807 < d) := by omega
          have hwd : IntKind.wrap .i64 d = d := by rw [IntKind.wrap_i64]; omega
          by_cases heq : a0 = decT d
          · have heq2 : (a0.toList == (decT d).toList) = true := (Lib.bytes_beq_iff _ _).2 heq
            rw [if_pos heq] at hH
            have hH := Option.some.inj hH
            obtain ⟨rfl, rfl, rfl⟩ : d = r1 ∧ false = r2 ∧ 0 = r3 := by simpa using hH
            go_wp2_with (go_at_call 55; (with_reducible refine cI.mono ?_); rintro e w' ⟨rfl, hb⟩)
            go_ret3
            exact ⟨rfl, Below.trans HB.out (hb.mono HB.out.size)⟩
          · have heq2 : (a0.toList == (decT d).toList) = false := (Lib.bytes_beq_false_iff _ _).2 heq
            rw [if_neg heq] at hH
            have hH := Option.some.inj hH
            obtain ⟨rfl, rfl, rfl⟩ : 0 = r1 ∧ false = r2 ∧ 4 = r3 := by simpa using hH
            go_wp2_with (go_at_call 55; (with_reducible refine cI.mono ?_); rintro e w' ⟨rfl, hb⟩)
            go_ret3
            exact ⟨rfl, Below.trans HB.out (hb.mono HB.out.size)⟩
  · rw [if_neg hdig] at h
    cases h

end Go.Proofs.YtbdfmjgndeigpaaDoor.P
