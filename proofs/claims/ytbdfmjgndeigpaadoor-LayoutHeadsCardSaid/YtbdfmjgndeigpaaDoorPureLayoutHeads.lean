import Derived.Test.YtbdfmjgndeigpaaDoorPureKeyCommon
import Derived.KernelRfl
import Derived.Laws.BitsAllLaws
import Derived.Test.YtbdfmjgndeigpaaDoorPx16
import Derived.Test.YtbdfmjgndeigpaaDoorPx24
import Derived.Test.YtbdfmjgndeigpaaDoorPx21
import Derived.Test.YtbdfmjgndeigpaaDoorPx13
import Derived.Test.YtbdfmjgndeigpaaDoorPx20
import Derived.Test.YtbdfmjgndeigpaaDoorPx23
import Derived.Test.YtbdfmjgndeigpaaDoorPx22
import Derived.Test.YtbdfmjgndeigpaaDoorPx12
namespace Go.Proofs.YtbdfmjgndeigpaaDoor.Pure
open Go.RowKit Go.Proofs.YtbdfmjgndeigpaaDoor.P Go.Proofs.YtbdfmjgndeigpaaDoorW.PrintWords Go.Proofs.YtbdfmjgndeigpaaDoorW.PrintLast Go.Proofs.YtbdfmjgndeigpaaDoorW.PrintMore
set_option linter.unusedVariables false
theorem Ev.of' {α : Type} {F : Nat → Option α} {r : α} (h : ∀ k, F k = some r) : Ev F r := ⟨0, fun k _ => h k⟩
theorem lives_60' : w21_lives.f 60 = some true := by kernel_rfl
theorem lives_f' : Ev (fun k => w21_lives.f k) true := Ev.mono (K := 60) (fun k => w21_lives.mono k) lives_60'
/-! ### Fields -/
def pb (x s : Int) : Int := (shr .u64 (IntKind.u64.wrap x) s) % 256
def bytesN : Nat → Int → List Int
  | 0, _ => []
  | n + 1, x => pb x (8 * (n : Int)) :: bytesN n x
theorem bytesN_length (n : Nat) (x : Int) : (bytesN n x).length = n := by
  induction n with
  | zero => rfl
  | succ n ih => rw [bytesN, List.length_cons, ih]
theorem put8_l0 (x : Int) : ∀ (n : Nat) (l : List Int), n ≤ 8 → l.length + n ≤ 1000000 → Ev (fun k => field_put_uint8.l0 k l x ((n : Int) - 1)) (l ++ bytesN n x)
  | 0, l, _, _ => by
    refine Ev.succ (G := fun _ => some l) (fun k => ?_) (by rw [bytesN, List.append_nil]; exact Ev.const _)
    simp only [field_put_uint8.l0]
    rw [if_neg (by omega)]
  | n + 1, l, hn, hl => by
    have ih := put8_l0 x n (l ++ [pb x (8 * (n : Int))]) (by omega) (by simp; omega)
    rw [List.append_assoc] at ih
    have e1 : (((n + 1 : Nat) : Int) - 1) = (n : Int) := by omega
    refine Ev.succ (fun k => ?_) ih
    simp only [field_put_uint8.l0]
    rw [e1, if_pos (by omega), wr_in (8 * (n : Int)) (by omega), if_pos (by omega), if_pos (by omega), wr_in _ (by omega)]
    rfl
theorem put8_f (l : List Int) (x : Int) (hx : 0 ≤ x ∧ x < 256) (hl : l.length < 900000) : Ev (fun k => field_Put8.f k l x) (l ++ bytesN 1 x) := by
  have e : (x % 256) = x := by omega
  unfold field_Put8.f
  rw [e]
  refine Ev.bind ?_ (Ev.const _)
  unfold field_put_uint8.f
  rw [wr_in _ (by omega)]
  exact put8_l0 x 1 l (by omega) (by omega)
theorem put16_l0 (x : Int) : ∀ (n : Nat) (l : List Int), n ≤ 8 → l.length + n ≤ 1000000 → Ev (fun k => field_put_uint16.l0 k l x ((n : Int) - 1)) (l ++ bytesN n x)
  | 0, l, _, _ => by
    refine Ev.succ (G := fun _ => some l) (fun k => ?_) (by rw [bytesN, List.append_nil]; exact Ev.const _)
    simp only [field_put_uint16.l0]
    rw [if_neg (by omega)]
  | n + 1, l, hn, hl => by
    have ih := put16_l0 x n (l ++ [pb x (8 * (n : Int))]) (by omega) (by simp; omega)
    rw [List.append_assoc] at ih
    have e1 : (((n + 1 : Nat) : Int) - 1) = (n : Int) := by omega
    refine Ev.succ (fun k => ?_) ih
    simp only [field_put_uint16.l0]
    rw [e1, if_pos (by omega), wr_in (8 * (n : Int)) (by omega), if_pos (by omega), if_pos (by omega), wr_in _ (by omega)]
    rfl
theorem put16_f (l : List Int) (x : Int) (hx : 0 ≤ x ∧ x < 65536) (hl : l.length < 900000) : Ev (fun k => field_Put16.f k l x) (l ++ bytesN 2 x) := by
  have e : (IntKind.u16.wrap x) = x := by simp [IntKind.wrap, IntKind.bits, IntKind.signed]; omega
  unfold field_Put16.f
  rw [e]
  refine Ev.bind ?_ (Ev.const _)
  unfold field_put_uint16.f
  rw [wr_in _ (by omega)]
  exact put16_l0 x 2 l (by omega) (by omega)
theorem put32_l0 (x : Int) : ∀ (n : Nat) (l : List Int), n ≤ 8 → l.length + n ≤ 1000000 → Ev (fun k => field_put_uint32.l0 k l x ((n : Int) - 1)) (l ++ bytesN n x)
  | 0, l, _, _ => by
    refine Ev.succ (G := fun _ => some l) (fun k => ?_) (by rw [bytesN, List.append_nil]; exact Ev.const _)
    simp only [field_put_uint32.l0]
    rw [if_neg (by omega)]
  | n + 1, l, hn, hl => by
    have ih := put32_l0 x n (l ++ [pb x (8 * (n : Int))]) (by omega) (by simp; omega)
    rw [List.append_assoc] at ih
    have e1 : (((n + 1 : Nat) : Int) - 1) = (n : Int) := by omega
    refine Ev.succ (fun k => ?_) ih
    simp only [field_put_uint32.l0]
    rw [e1, if_pos (by omega), wr_in (8 * (n : Int)) (by omega), if_pos (by omega), if_pos (by omega), wr_in _ (by omega)]
    rfl
theorem put32_f (l : List Int) (x : Int) (hx : 0 ≤ x ∧ x < 4294967296) (hl : l.length < 900000) : Ev (fun k => field_Put32.f k l x) (l ++ bytesN 4 x) := by
  have e : (x % 4294967296) = x := by omega
  unfold field_Put32.f
  rw [e]
  refine Ev.bind ?_ (Ev.const _)
  unfold field_put_uint32.f
  rw [wr_in _ (by omega)]
  exact put32_l0 x 4 l (by omega) (by omega)
set_option linter.unusedSimpArgs false
theorem refField_l0 (x : Int) : ∀ (n : Nat) (l : List Int), n ≤ 8 → l.length + n ≤ 1000000 → Ev (fun k => r01_Field.l0 k (IntKind.u64.wrap x) l ((n : Int) - 1)) (strOfNums (l ++ bytesN n x))
  | 0, l, _, _ => by
    refine Ev.succ (G := fun _ => some (strOfNums l)) (fun k => ?_) (by rw [bytesN, List.append_nil]; exact Ev.const _)
    simp only [r01_Field.l0]
    rw [if_neg (by omega)]
  | n + 1, l, hn, hl => by
    have ih := refField_l0 x n (l ++ [pb x (8 * (n : Int))]) (by omega) (by simp; omega)
    rw [List.append_assoc] at ih
    have e1 : (((n + 1 : Nat) : Int) - 1) = (n : Int) := by omega
    have e2 : IntKind.u64.wrap (n : Int) = (n : Int) := by simp [IntKind.wrap, IntKind.bits, IntKind.signed]; omega
    have e3 : IntKind.u64.wrap (8 * (n : Int)) = 8 * (n : Int) := by simp [IntKind.wrap, IntKind.bits, IntKind.signed]; omega
    refine Ev.succ (fun k => ?_) ih
    simp only [r01_Field.l0]
    rw [e1, e2, e3, if_pos (by omega), if_pos (by omega), if_pos (by omega), wr_in _ (by omega)]
    rfl
theorem refField_f (x : Int) (n : Nat) (hn : n ≤ 8) (m : Int) (hm : m = n) : Ev (fun k => r01_Field.f k x m) (strOfNums (bytesN n x)) := by
  subst hm
  unfold r01_Field.f
  rw [wr_in _ (by omega)]
  exact refField_l0 x n [] hn (by simp; omega)
/-! ### Heads -/
def headOk (a b c : Int) (g : Bool) : Bool := decide (0 ≤ a) && (decide (a ≤ 2560) && ((tagIn b && tagIn c) && (!g || (decide (a = 0) && (decide (b = 0) && decide (c = 0))))))
def flagsOf (g n : Bool) : Int := (if g = true then 1 else 0) + (if n = true then 2 else 0)
def headB (a b c : Int) (g n : Bool) : List Int := bytesN 1 (flagsOf g n) ++ bytesN 2 a ++ bytesN 4 b ++ bytesN 4 c
def headR (a b c : Int) (g n : Bool) : ByteArray × Int := if headOk a b c g = true then (strOfNums (headB a b c g n), 0) else (⟨#[]⟩, 2)
theorem tagIn_bd {x : Int} (h : tagIn x = true) : 0 ≤ x ∧ x < 1048573 := by
  unfold tagIn at h
  simp only [Bool.and_eq_true, decide_eq_true_eq] at h
  exact h
theorem head_j2 (a b c : Int) (g n : Bool) (fl : Int) (hf : 0 ≤ fl ∧ fl ≤ 255) (ha : 0 ≤ a ∧ a ≤ 2560) (hb : tagIn b = true) (hc : tagIn c = true) : Ev (fun k => layout_Head.j2 k fl a b c g n) (strOfNums (bytesN 1 fl ++ bytesN 2 a ++ bytesN 4 b ++ bytesN 4 c), 0) := by
  have hb' := tagIn_bd hb
  have hc' := tagIn_bd hc
  refine Ev.succ (G := fun k => (field_Put8.f k ([] : List Int) fl).bind fun t202 => ((field_Put16.f k t202 a).bind fun t205 => ((field_Put32.f k t205 b).bind fun t208 => ((field_Put32.f k t208 c).bind fun t211 => (some (strOfNums t211, 0)))))) (fun k => rfl) ?_
  refine Ev.bind (put8_f [] fl (by omega) (by simp)) ?_
  refine Ev.bind (put16_f _ a (by omega) (by simp [bytesN_length])) ?_
  refine Ev.bind (put32_f _ b (by omega) (by simp [bytesN_length])) ?_
  refine Ev.bind (put32_f _ c (by omega) (by simp [bytesN_length])) ?_
  exact Ev.const _
theorem head_j0 (a b c : Int) (g n : Bool) (t : Bool) (ht : t = !headOk a b c g) : Ev (fun k => layout_Head.j0 k t a b c g n) (headR a b c g n) := by
  unfold headR
  cases h : headOk a b c g with
  | false =>
    rw [h] at ht
    subst ht
    exact Ev.succ (G := fun _ => some (⟨#[]⟩, 2)) (fun k => rfl) (Ev.const _)
  | true =>
    rw [h] at ht
    subst ht
    unfold headOk at h
    simp only [Bool.and_eq_true, decide_eq_true_eq] at h
    obtain ⟨h1, h2, ⟨h3, h4⟩, h5⟩ := h
    rw [if_pos rfl]
    unfold headB
    cases g <;> cases n
    · exact Ev.succ (fun k => rfl) (Ev.succ (fun k => rfl) (head_j2 a b c false false 0 (by omega) ⟨h1, h2⟩ h3 h4))
    · exact Ev.succ (fun k => rfl) (Ev.succ (fun k => rfl) (head_j2 a b c false true 2 (by omega) ⟨h1, h2⟩ h3 h4))
    · exact Ev.succ (fun k => rfl) (Ev.succ (fun k => rfl) (head_j2 a b c true false 1 (by omega) ⟨h1, h2⟩ h3 h4))
    · exact Ev.succ (fun k => rfl) (Ev.succ (fun k => rfl) (head_j2 a b c true true 3 (by omega) ⟨h1, h2⟩ h3 h4))
theorem head_f (a b c : Int) (g n : Bool) : Ev (fun k => layout_Head.f k a b c g n) (headR a b c g n) := by
  have j := head_j0 a b c g n
  unfold layout_Head.f
  by_cases h1 : a < 0
  · exact Ev.congr (fun k => if_pos h1) (j true (by unfold headOk; rw [decide_eq_false (by omega : ¬ 0 ≤ a)]; rfl))
  · by_cases h2 : a > 2560
    · exact Ev.congr (fun k => (if_neg h1).trans (if_pos h2)) (j true (by unfold headOk; rw [decide_eq_false (by omega : ¬ a ≤ 2560), Bool.false_and, Bool.and_false]; rfl))
    · have d1 : decide (0 ≤ a) = true := decide_eq_true (by omega)
      have d2 : decide (a ≤ 2560) = true := decide_eq_true (by omega)
      unfold headOk at j
      rw [d1, d2, Bool.true_and, Bool.true_and] at j
      refine Ev.congr (G := fun k => (tag_Check.f b c).bind fun t201 => (if t201 = 0 then (if g = true then (if a > 0 then (layout_Head.j0 k true a b c g n) else (layout_Head.j0 k (!(b == 0) || (!(c == 0))) a b c g n)) else (layout_Head.j0 k false a b c g n)) else (layout_Head.j0 k true a b c g n))) (fun k => (if_neg h1).trans (if_neg h2)) ?_
      unfold tag_Check.f
      simp only [Option.bind_some]
      by_cases h3 : tagIn b = true ∧ tagIn c = true
      · rw [if_pos h3]
        rw [h3.1, h3.2, Bool.and_self, Bool.true_and] at j
        cases g with
        | false => exact Ev.congr (fun k => (if_pos rfl).trans (if_neg (by decide))) (j false rfl)
        | true =>
          by_cases h4 : a > 0
          · exact Ev.congr (fun k => ((if_pos rfl).trans (if_pos rfl)).trans (if_pos h4)) (j true (by rw [decide_eq_false (by omega : ¬ a = 0)]; rfl))
          · refine Ev.congr (fun k => ((if_pos rfl).trans (if_pos rfl)).trans (if_neg h4)) (j _ ?_)
            rw [decide_eq_true (by omega : a = 0)]
            have eb : (b == 0) = decide (b = 0) := rfl
            have ec : (c == 0) = decide (c = 0) := rfl
            rw [eb, ec]
            cases decide (b = 0) <;> cases decide (c = 0) <;> rfl
      · rw [if_neg h3]
        have e : (tagIn b && tagIn c) = false := by
          cases hb : tagIn b <;> cases hc : tagIn c <;> first | rfl | exact absurd ⟨hb, hc⟩ h3
        rw [e] at j
        exact Ev.congr (fun k => if_neg (by decide)) (j true rfl)
theorem right_f (a b c : Int) (g n : Bool) : r21_RightHead.f a b c g n = some (headOk a b c g) := by
  have hr : r03_Right.f b c = some (tagIn b && tagIn c) := by
    unfold r03_Right.f tagIn
    by_cases h1 : 0 ≤ b
    · rw [if_pos h1, decide_eq_true h1]
      by_cases h2 : b < 1048573
      · rw [if_pos h2, decide_eq_true h2]
        by_cases h3 : 0 ≤ c
        · rw [if_pos h3, decide_eq_true h3]; rfl
        · rw [if_neg h3, decide_eq_false h3]; rfl
      · rw [if_neg h2, decide_eq_false h2]; rfl
    · rw [if_neg h1, decide_eq_false h1]; rfl
  unfold r21_RightHead.f headOk
  rw [hr]
  simp only [Option.bind_some]
  by_cases h1 : 0 ≤ a
  · rw [if_pos h1, decide_eq_true h1]
    by_cases h2 : a ≤ 2560
    · rw [if_pos h2, decide_eq_true h2]
      cases (tagIn b && tagIn c) with
      | false => rfl
      | true =>
        cases g with
        | false => rfl
        | true =>
          rw [if_pos rfl, if_pos rfl]
          by_cases h3 : a = 0
          · rw [if_pos h3, decide_eq_true h3]; rfl
          · rw [if_neg h3, decide_eq_false h3]; rfl
    · rw [if_neg h2, decide_eq_false h2]; rfl
  · rw [if_neg h1, decide_eq_false h1]; rfl
theorem nums_append (x y : List Int) : strOfNums x ++ strOfNums y = strOfNums (x ++ y) := by
  unfold strOfNums
  rw [List.map_append]
  apply ByteArray.ext
  simp
theorem refhead_j1 (a b c : Int) (g n : Bool) (fl : Int) : Ev (fun k => r21_head.j1 k fl a b c g n) (strOfNums (bytesN 1 fl ++ bytesN 2 a ++ bytesN 4 b ++ bytesN 4 c)) := by
  refine Ev.succ (G := fun k => (r01_Field.f k fl 1).bind fun t286 => ((r01_Field.f k a 2).bind fun t287 => (if t286.size + t287.size ≤ 9223372036854775807 then ((r01_Field.f k b 4).bind fun t288 => (if (t286 ++ t287).size + t288.size ≤ 9223372036854775807 then ((r01_Field.f k c 4).bind fun t289 => (if ((t286 ++ t287) ++ t288).size + t289.size ≤ 9223372036854775807 then (some (((t286 ++ t287) ++ t288) ++ t289)) else (none))) else (none))) else (none)))) (fun k => rfl) ?_
  refine Ev.bind (refField_f fl 1 (by omega) 1 rfl) ?_
  refine Ev.bind (refField_f a 2 (by omega) 2 rfl) ?_
  refine Ev.congr (fun k => if_pos (by rw [strOfNums_size, strOfNums_size, bytesN_length, bytesN_length]; decide)) ?_
  rw [nums_append]
  refine Ev.bind (refField_f b 4 (by omega) 4 rfl) ?_
  refine Ev.congr (fun k => if_pos (by rw [strOfNums_size, strOfNums_size, List.length_append, bytesN_length, bytesN_length, bytesN_length]; decide)) ?_
  rw [nums_append]
  refine Ev.bind (refField_f c 4 (by omega) 4 rfl) ?_
  refine Ev.congr (fun k => if_pos (by rw [strOfNums_size, strOfNums_size, List.length_append, List.length_append, bytesN_length, bytesN_length, bytesN_length, bytesN_length]; decide)) ?_
  rw [nums_append]
  exact Ev.const _
theorem refhead_f (a b c : Int) (g n : Bool) : Ev (fun k => r21_head.f k a b c g n) (strOfNums (headB a b c g n)) := by
  unfold headB
  cases g <;> cases n
  · exact Ev.succ (fun k => rfl) (refhead_j1 a b c false false 0)
  · have h := refhead_j1 a b c false true (wrap64 (0 + 2))
    have e : wrap64 (0 + 2) = flagsOf false true := by simp [wrap64, flagsOf]
    refine Ev.succ (F := fun k => r21_head.j0 k 0 a b c false true) (G := fun k => r21_head.j1 k (wrap64 (0 + 2)) a b c false true) (fun k => rfl) ?_
    rw [e] at h ⊢
    exact h
  · exact Ev.succ (fun k => rfl) (refhead_j1 a b c true false 1)
  · have h := refhead_j1 a b c true true (wrap64 (0 + 1 + 2))
    have e : wrap64 (0 + 1 + 2) = flagsOf true true := by simp [wrap64, flagsOf]
    refine Ev.succ (F := fun k => r21_head.j0 k (0 + 1) a b c true true) (G := fun k => r21_head.j1 k (wrap64 (0 + 1 + 2)) a b c true true) (fun k => rfl) ?_
    rw [e] at h ⊢
    exact h
theorem refHead_f (a b c : Int) (g n : Bool) : Ev (fun k => r21_Head.f k a b c g n) (headR a b c g n) := by
  unfold r21_Head.f headR
  rw [right_f]
  simp only [Option.bind_some]
  cases headOk a b c g with
  | false => exact Ev.of' (fun k => rfl)
  | true => exact Ev.congr (fun k => if_pos rfl) (Ev.bind (refhead_f a b c g n) (Ev.const _))
/-! ### Reading -/
theorem or_in {n c : Int} (h0 : 0 ≤ n) (h1 : n < 16777216) (g0 : 0 ≤ c) (g1 : c ≤ 255) : Go.bits .or .u64 (IntKind.u64.wrap (n * 256)) (IntKind.u64.wrap c) = n * 256 + c := by
  have e1 : IntKind.u64.wrap (n * 256) = n * 256 := by simp [IntKind.wrap, IntKind.bits, IntKind.signed]; omega
  have e2 : IntKind.u64.wrap c = c := by simp [IntKind.wrap, IntKind.bits, IntKind.signed]; omega
  rw [e1, e2]
  exact rdr_or h0 h1 g0 g1
theorem get_bt (s : ByteArray) (j : Nat) (h : j < (bytesOf s).length) : (bytesOf s)[j] = bt s (j : Int) := by
  rw [← rd_bytesOf]
  simp [rd, List.getD_eq_getElem?_getD, h]
theorem wr_sum (a i : Nat) (h : a + i ≤ 1000) : wrap64 ((a : Int) + (i : Int)) = ((a + i : Nat) : Int) := by rw [wr_in _ (by omega)]; omega
theorem num_l0' (s : ByteArray) (a n : Nat) (hn : n ≤ 4) (hs : a + n ≤ s.size) (hz : s.size ≤ 1000) (N : Int) (hN : N = numOf (((bytesOf s).drop a).take n)) : ∀ (r i : Nat) (M : Int), n - i = r → i ≤ n → M = numOf (((bytesOf s).drop a).take i) → Ev (fun k => r01_Number.l0 k s (a : Int) (n : Int) M (i : Int)) N
  | r, i, M, hr, hi, hM => by
    have hx : ∀ x ∈ ((bytesOf s).drop a).take i, 0 ≤ x ∧ x ≤ 255 := fun x hx => bytesOf_range (List.mem_of_mem_drop (List.mem_of_mem_take hx))
    have hl : (((bytesOf s).drop a).take i).length = i := by rw [List.length_take, List.length_drop, bytesOf_length]; omega
    have hb := numOf_bd i _ hl hx
    rw [← hM] at hb
    have h4 : (256 : Int) ^ i ≤ 4294967296 := by
      have : i = 0 ∨ i = 1 ∨ i = 2 ∨ i = 3 ∨ i = 4 := by omega
      rcases this with rfl | rfl | rfl | rfl | rfl <;> decide
    by_cases hlt : i < n
    · have h3 : (256 : Int) ^ i ≤ 16777216 := by
        have : i = 0 ∨ i = 1 ∨ i = 2 ∨ i = 3 := by omega
        rcases this with rfl | rfl | rfl | rfl <;> decide
      have hlen : a + i < (bytesOf s).length := by rw [bytesOf_length]; omega
      have hsn : ((bytesOf s).drop a).take (i + 1) = ((bytesOf s).drop a).take i ++ [bt s ((a + i : Nat) : Int)] := by
        rw [List.take_add_one, List.getElem?_drop, List.getElem?_eq_getElem hlen, get_bt s (a + i) hlen]
        rfl
      have ih := num_l0' s a n hn hs hz N hN (r - 1) (i + 1) (M * 256 + bt s ((a + i : Nat) : Int)) (by omega) (by omega) (by rw [hsn, numOf_snoc, ← hM])
      have hbt := bt_range s ((a + i : Nat) : Int)
      have hM0 := hb.1
      have hM1 : M < 16777216 := Int.lt_of_lt_of_le hb.2 h3
      have c1 : (i : Int) < (n : Int) := Int.ofNat_lt.2 hlt
      have c2 : (0 : Int) ≤ ((a + i : Nat) : Int) := Int.natCast_nonneg _
      have c4 : a + i < s.size := by clear hb h3 h4 hM0 hM1 hbt; omega
      have c3 : ((a + i : Nat) : Int) < (s.size : Int) := Int.ofNat_lt.2 c4
      have c5 : a + i ≤ 1000 := by clear hb h3 h4 hM0 hM1 hbt; omega
      have c6 : i ≤ 1000000 := by clear hb h3 h4 hM0 hM1 hbt; omega
      have ew := wr_sum a i c5
      have w1 := wr_one i c6
      have hor := or_in hM0 hM1 hbt.1 hbt.2
      refine Ev.succ (fun k => ?_) ih
      simp only [r01_Number.l0]
      rw [if_pos c1, ew, if_pos c2, if_pos c3, hor, w1]
    · have e : i = n := by omega
      rw [e, ← hN] at hM
      subst hM
      have hM1 : M ≤ 4294967296 := Int.le_of_lt (Int.lt_of_lt_of_le hb.2 h4)
      have hM0 := hb.1
      have w2 := wr_in M ⟨by clear hb h4; omega, by clear hb h4; omega⟩
      have c1 : ¬ (i : Int) < (n : Int) := by clear hb h4 w2; omega
      clear hN hx hl
      refine Ev.succ (G := fun _ => some M) (fun k => ?_) (Ev.const _)
      simp only [r01_Number.l0]
      rw [if_neg c1, w2]
  termination_by r => r
  decreasing_by omega
theorem num_f (s : ByteArray) (a n : Nat) (hn : n ≤ 4) (hs : a + n ≤ s.size) (hz : s.size ≤ 1000) (ai ni : Int) (ha : ai = a) (hni : ni = n) : Ev (fun k => r01_Number.f k s ai ni) (num_at s a n) := by
  subst ha hni
  exact num_l0' s a n hn hs hz _ rfl _ 0 0 rfl (by omega) rfl
theorem flag_bits : ∀ b, b < 256 → (Go.bits .and .i64 ((b : Nat) : Int) 1 != 0) = (Int.tmod ((b : Nat) : Int) 2 == 1) ∧ (Go.bits .and .i64 ((b : Nat) : Int) 2 != 0) = (((Int.tdiv ((b : Nat) : Int) 2) % 2) == 1) := by decide +kernel
theorem flag_of {x : Int} (h0 : 0 ≤ x) (h1 : x ≤ 255) : (Go.bits .and .i64 x 1 != 0) = (Int.tmod x 2 == 1) ∧ (Go.bits .and .i64 x 2 != 0) = (((Int.tdiv x 2) % 2) == 1) := by
  obtain ⟨n, rfl⟩ : ∃ n : Nat, x = n := ⟨x.toNat, by omega⟩
  exact flag_bits n (by omega)
def readR (s : ByteArray) : Int × Int × Int × Bool × Bool × Int :=
  if s.size = 11 then
    (if headOk (num_at s 1 2) (num_at s 3 4) (num_at s 7 4) (Int.tmod (bt s 0) 2 == 1) = true ∧ (strOfNums (headB (num_at s 1 2) (num_at s 3 4) (num_at s 7 4) (Int.tmod (bt s 0) 2 == 1) (((Int.tdiv (bt s 0) 2) % 2) == 1))).toList = s.toList then (num_at s 1 2, num_at s 3 4, num_at s 7 4, (Int.tmod (bt s 0) 2 == 1), (((Int.tdiv (bt s 0) 2) % 2) == 1), 0) else (0, 0, 0, false, false, 4))
  else (0, 0, 0, false, false, 4)
theorem num_one {s : ByteArray} (h : s.size = 11) : num_at s 0 1 = bt s 0 := by
  unfold num_at
  rw [List.drop_zero]
  have : (bytesOf s).take 1 = [] ++ [bt s 0] := by
    rw [List.take_add_one, List.getElem?_eq_getElem (show 0 < (bytesOf s).length by rw [bytesOf_length]; omega)]
    rw [← rd_bytesOf]
    simp [rd, List.getD_eq_getElem?_getD, List.getElem?_eq_getElem (show 0 < (bytesOf s).length by rw [bytesOf_length]; omega)]
  rw [this, numOf_snoc]
  have : numOf [] = 0 := rfl
  rw [this]
  omega
theorem read_f (s : ByteArray) (hs : s.size ≤ 140737488351232) : Ev (fun k => layout_ReadHead.f k s) (readR s) := by
  unfold layout_ReadHead.f readR
  by_cases h : s.size = 11
  · rw [if_pos h]
    have hb := bt_range s 0
    have hfl := flag_of hb.1 hb.2
    rw [← num_one h] at hfl
    refine Ev.congr (fun k => if_pos h) ?_
    rw [hfl.1, hfl.2, num_one h]
    refine Ev.bind (head_f _ _ _ _ _) ?_
    unfold headR
    cases ho : headOk (num_at s 1 2) (num_at s 3 4) (num_at s 7 4) (Int.tmod (bt s 0) 2 == 1) with
    | false =>
      rw [if_neg (by simp), if_neg (by simp)]
      exact Ev.of' (fun k => rfl)
    | true =>
      rw [if_pos rfl]
      by_cases e : (strOfNums (headB (num_at s 1 2) (num_at s 3 4) (num_at s 7 4) (Int.tmod (bt s 0) 2 == 1) (((Int.tdiv (bt s 0) 2) % 2) == 1))).toList = s.toList
      · refine Ev.of' (fun k => ?_)
        rw [if_pos ⟨rfl, e⟩, if_pos ⟨rfl, e⟩]
      · refine Ev.of' (fun k => ?_)
        rw [if_neg (fun h => e h.2), if_neg (fun h => e h.2)]
  · rw [if_neg h]
    exact Ev.of' (fun k => (if_neg h).trans (if_pos hs))
theorem refread_f (s : ByteArray) : Ev (fun k => r21_ReadHead.f k s) (readR s) := by
  unfold r21_ReadHead.f readR
  by_cases h : s.size = 11
  · rw [if_pos h]
    refine Ev.congr (fun k => (if_pos (show (s.size : Int) = 11 by omega)).trans (if_pos (show (0 : Int) < (s.size : Int) by omega))) ?_
    refine Ev.bind (num_f s 1 2 (by omega) (by omega) (by omega) 1 2 rfl rfl) ?_
    refine Ev.bind (num_f s 3 4 (by omega) (by omega) (by omega) 3 4 rfl rfl) ?_
    refine Ev.bind (num_f s 7 4 (by omega) (by omega) (by omega) 7 4 rfl rfl) ?_
    refine Ev.bind (Ev.of' (fun _ => right_f _ _ _ _ _)) ?_
    cases ho : headOk (num_at s 1 2) (num_at s 3 4) (num_at s 7 4) (Int.tmod (bt s 0) 2 == 1) with
    | false =>
      rw [if_neg (by simp)]
      exact Ev.of' (fun k => rfl)
    | true =>
      refine Ev.congr (fun k => if_pos rfl) ?_
      refine Ev.bind (refhead_f _ _ _ _ _) ?_
      by_cases e : (strOfNums (headB (num_at s 1 2) (num_at s 3 4) (num_at s 7 4) (Int.tmod (bt s 0) 2 == 1) (((Int.tdiv (bt s 0) 2) % 2) == 1))).toList = s.toList
      · refine Ev.of' (fun k => ?_)
        rw [if_pos e, if_pos ⟨rfl, e⟩]
      · refine Ev.of' (fun k => ?_)
        rw [if_neg e, if_neg (fun h => e h.2)]
  · rw [if_neg h]
    exact Ev.of' (fun k => if_neg (show ¬ (s.size : Int) = 11 by omega))
theorem state_f (a : Int) : ∃ x y, layout_State.f a = some (x, y) ∧ r21_State.f a = some (x, y) := by
  unfold layout_State.f r21_State.f
  by_cases h1 : a < 0
  · rw [if_pos h1, if_pos h1]; exact ⟨_, _, rfl, rfl⟩
  · by_cases h2 : a > 2
    · rw [if_neg h1, if_neg h1, if_pos h2, if_pos h2]; exact ⟨_, _, rfl, rfl⟩
    · have : a = 0 ∨ a = 1 ∨ a = 2 := by omega
      rcases this with rfl | rfl | rfl
      · exact ⟨_, _, rfl, by kernel_rfl⟩
      · exact ⟨_, _, rfl, by kernel_rfl⟩
      · exact ⟨_, _, rfl, by kernel_rfl⟩
theorem readState_f (s : ByteArray) : ∃ x y, layout_ReadState.f s = some (x, y) ∧ r21_ReadState.f s = some (x, y) := by
  have e : layout_ReadState.f s = r21_ReadState.f s := rfl
  rw [← e]
  unfold layout_ReadState.f
  by_cases h1 : (s.size : Int) = 1
  · rw [if_pos h1, if_pos (by omega)]
    split
    · exact ⟨_, _, rfl, rfl⟩
    · split
      · exact ⟨_, _, rfl, rfl⟩
      · exact ⟨_, _, rfl, rfl⟩
  · rw [if_neg h1]; exact ⟨_, _, rfl, rfl⟩
theorem LayoutHeads (a0 a1 a2 : Int) (a3 a4 : Bool) (v : Int) (s : ByteArray) (wv : (Lit.int .i64 v).wf = true) (hs : s.size ≤ 140737488351232) : ∃ k, w21_LayoutHeads.f k a0 a1 a2 a3 a4 v s = some true := by
  suffices h : Ev (fun k => w21_LayoutHeads.f k a0 a1 a2 a3 a4 v s) true by
    obtain ⟨K, h⟩ := h
    exact ⟨K, h K (Nat.le_refl _)⟩
  obtain ⟨x1, x2, e1, e2⟩ := state_f v
  obtain ⟨y1, y2, e3, e4⟩ := readState_f s
  unfold w21_LayoutHeads.f
  refine Ev.bind (head_f a0 a1 a2 a3 a4) ?_
  refine Ev.bind (refHead_f a0 a1 a2 a3 a4) ?_
  refine Ev.bind (Ev.of' (fun _ => e1)) ?_
  refine Ev.bind (Ev.of' (fun _ => e2)) ?_
  refine Ev.bind (read_f s hs) ?_
  refine Ev.bind (refread_f s) ?_
  refine Ev.bind (Ev.of' (fun _ => e3)) ?_
  refine Ev.bind (Ev.of' (fun _ => e4)) ?_
  refine Ev.congr (fun k => ?_) (Ev.bind lives_f' (Ev.const _))
  rw [if_pos rfl, if_pos rfl, if_pos rfl, if_pos rfl, if_pos (by simp), if_pos rfl, if_pos rfl, if_pos rfl]
end Go.Proofs.YtbdfmjgndeigpaaDoor.Pure
