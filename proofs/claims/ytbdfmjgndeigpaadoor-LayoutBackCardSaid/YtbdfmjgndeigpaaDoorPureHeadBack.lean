import Derived.Test.YtbdfmjgndeigpaaDoorPureKeyPrefix
import Derived.KernelRfl
import Derived.Laws.BitsAllLaws
import Derived.Test.YtbdfmjgndeigpaaDoorPx17
import Derived.Test.YtbdfmjgndeigpaaDoorPx13
import Derived.Test.YtbdfmjgndeigpaaDoorPx12
namespace Go.Proofs.YtbdfmjgndeigpaaDoor.Pure
open Go.RowKit Go.Proofs.YtbdfmjgndeigpaaDoor.P Go.Proofs.YtbdfmjgndeigpaaDoorW.PrintWords Go.Proofs.YtbdfmjgndeigpaaDoorW.PrintLast Go.Proofs.YtbdfmjgndeigpaaDoorW.PrintMore
set_option linter.unusedVariables false
theorem Ev.of' {α : Type} {F : Nat → Option α} {r : α} (h : ∀ k, F k = some r) : Ev F r := ⟨0, fun k _ => h k⟩
/-! ### Fields -/
def pb (x s : Int) : Int := (shr .u64 (IntKind.u64.wrap x) s) % 256
def bytesN : Nat → Int → List Int
  | 0, _ => []
  | n + 1, x => pb x (8 * (n : Int)) :: bytesN n x
theorem bytesN_length (n : Nat) (x : Int) : (bytesN n x).length = n := by
  induction n with
  | zero => rfl
  | succ n ih => rw [bytesN, List.length_cons, ih]
theorem put8_l0 (x : Int) : ∀ (n : Nat) (l : List Int), n ≤ 8 → l.length + n ≤ 1000000 → Ev (fun k => field_put_uint8.l0 k l x ((n : Int) - 1)) (l ++ bytesN n x)
  | 0, l, _, _ => by
    refine Ev.succ (G := fun _ => some l) (fun k => ?_) (by rw [bytesN, List.append_nil]; exact Ev.const _)
    simp only [field_put_uint8.l0]
    rw [if_neg (by omega)]
  | n + 1, l, hn, hl => by
    have ih := put8_l0 x n (l ++ [pb x (8 * (n : Int))]) (by omega) (by simp; omega)
    rw [List.append_assoc] at ih
    have e1 : (((n + 1 : Nat) : Int) - 1) = (n : Int) := by omega
    refine Ev.succ (fun k => ?_) ih
    simp only [field_put_uint8.l0]
    rw [e1, if_pos (by omega), wr_in (8 * (n : Int)) (by omega), if_pos (by omega), if_pos (by omega), wr_in _ (by omega)]
    rfl
theorem put8_f (l : List Int) (x : Int) (hx : 0 ≤ x ∧ x < 256) (hl : l.length < 900000) : Ev (fun k => field_Put8.f k l x) (l ++ bytesN 1 x) := by
  have e : (x % 256) = x := by omega
  unfold field_Put8.f
  rw [e]
  refine Ev.bind ?_ (Ev.const _)
  unfold field_put_uint8.f
  rw [wr_in _ (by omega)]
  exact put8_l0 x 1 l (by omega) (by omega)
theorem put16_l0 (x : Int) : ∀ (n : Nat) (l : List Int), n ≤ 8 → l.length + n ≤ 1000000 → Ev (fun k => field_put_uint16.l0 k l x ((n : Int) - 1)) (l ++ bytesN n x)
  | 0, l, _, _ => by
    refine Ev.succ (G := fun _ => some l) (fun k => ?_) (by rw [bytesN, List.append_nil]; exact Ev.const _)
    simp only [field_put_uint16.l0]
    rw [if_neg (by omega)]
  | n + 1, l, hn, hl => by
    have ih := put16_l0 x n (l ++ [pb x (8 * (n : Int))]) (by omega) (by simp; omega)
    rw [List.append_assoc] at ih
    have e1 : (((n + 1 : Nat) : Int) - 1) = (n : Int) := by omega
    refine Ev.succ (fun k => ?_) ih
    simp only [field_put_uint16.l0]
    rw [e1, if_pos (by omega), wr_in (8 * (n : Int)) (by omega), if_pos (by omega), if_pos (by omega), wr_in _ (by omega)]
    rfl
theorem put16_f (l : List Int) (x : Int) (hx : 0 ≤ x ∧ x < 65536) (hl : l.length < 900000) : Ev (fun k => field_Put16.f k l x) (l ++ bytesN 2 x) := by
  have e : (IntKind.u16.wrap x) = x := by simp [IntKind.wrap, IntKind.bits, IntKind.signed]; omega
  unfold field_Put16.f
  rw [e]
  refine Ev.bind ?_ (Ev.const _)
  unfold field_put_uint16.f
  rw [wr_in _ (by omega)]
  exact put16_l0 x 2 l (by omega) (by omega)
theorem put32_l0 (x : Int) : ∀ (n : Nat) (l : List Int), n ≤ 8 → l.length + n ≤ 1000000 → Ev (fun k => field_put_uint32.l0 k l x ((n : Int) - 1)) (l ++ bytesN n x)
  | 0, l, _, _ => by
    refine Ev.succ (G := fun _ => some l) (fun k => ?_) (by rw [bytesN, List.append_nil]; exact Ev.const _)
    simp only [field_put_uint32.l0]
    rw [if_neg (by omega)]
  | n + 1, l, hn, hl => by
    have ih := put32_l0 x n (l ++ [pb x (8 * (n : Int))]) (by omega) (by simp; omega)
    rw [List.append_assoc] at ih
    have e1 : (((n + 1 : Nat) : Int) - 1) = (n : Int) := by omega
    refine Ev.succ (fun k => ?_) ih
    simp only [field_put_uint32.l0]
    rw [e1, if_pos (by omega), wr_in (8 * (n : Int)) (by omega), if_pos (by omega), if_pos (by omega), wr_in _ (by omega)]
    rfl
theorem put32_f (l : List Int) (x : Int) (hx : 0 ≤ x ∧ x < 4294967296) (hl : l.length < 900000) : Ev (fun k => field_Put32.f k l x) (l ++ bytesN 4 x) := by
  have e : (x % 4294967296) = x := by omega
  unfold field_Put32.f
  rw [e]
  refine Ev.bind ?_ (Ev.const _)
  unfold field_put_uint32.f
  rw [wr_in _ (by omega)]
  exact put32_l0 x 4 l (by omega) (by omega)
set_option linter.unusedSimpArgs false
def headOk (a b c : Int) (g : Bool) : Bool := decide (0 ≤ a) && (decide (a ≤ 2560) && ((tagIn b && tagIn c) && (!g || (decide (a = 0) && (decide (b = 0) && decide (c = 0))))))
def flagsOf (g n : Bool) : Int := (if g = true then 1 else 0) + (if n = true then 2 else 0)
def headB (a b c : Int) (g n : Bool) : List Int := bytesN 1 (flagsOf g n) ++ bytesN 2 a ++ bytesN 4 b ++ bytesN 4 c
def headR (a b c : Int) (g n : Bool) : ByteArray × Int := if headOk a b c g = true then (strOfNums (headB a b c g n), 0) else (⟨#[]⟩, 2)
theorem tagIn_bd {x : Int} (h : tagIn x = true) : 0 ≤ x ∧ x < 1048573 := by
  unfold tagIn at h
  simp only [Bool.and_eq_true, decide_eq_true_eq] at h
  exact h
theorem head_j2 (a b c : Int) (g n : Bool) (fl : Int) (hf : 0 ≤ fl ∧ fl ≤ 255) (ha : 0 ≤ a ∧ a ≤ 2560) (hb : tagIn b = true) (hc : tagIn c = true) : Ev (fun k => layout_Head.j2 k fl a b c g n) (strOfNums (bytesN 1 fl ++ bytesN 2 a ++ bytesN 4 b ++ bytesN 4 c), 0) := by
  have hb' := tagIn_bd hb
  have hc' := tagIn_bd hc
  refine Ev.succ (G := fun k => (field_Put8.f k ([] : List Int) fl).bind fun t202 => ((field_Put16.f k t202 a).bind fun t205 => ((field_Put32.f k t205 b).bind fun t208 => ((field_Put32.f k t208 c).bind fun t211 => (some (strOfNums t211, 0)))))) (fun k => rfl) ?_
  refine Ev.bind (put8_f [] fl (by omega) (by simp)) ?_
  refine Ev.bind (put16_f _ a (by omega) (by simp [bytesN_length])) ?_
  refine Ev.bind (put32_f _ b (by omega) (by simp [bytesN_length])) ?_
  refine Ev.bind (put32_f _ c (by omega) (by simp [bytesN_length])) ?_
  exact Ev.const _
theorem head_j0 (a b c : Int) (g n : Bool) (t : Bool) (ht : t = !headOk a b c g) : Ev (fun k => layout_Head.j0 k t a b c g n) (headR a b c g n) := by
  unfold headR
  cases h : headOk a b c g with
  | false =>
    rw [h] at ht
    subst ht
    exact Ev.succ (G := fun _ => some (⟨#[]⟩, 2)) (fun k => rfl) (Ev.const _)
  | true =>
    rw [h] at ht
    subst ht
    unfold headOk at h
    simp only [Bool.and_eq_true, decide_eq_true_eq] at h
    obtain ⟨h1, h2, ⟨h3, h4⟩, h5⟩ := h
    rw [if_pos rfl]
    unfold headB
    cases g <;> cases n
    · exact Ev.succ (fun k => rfl) (Ev.succ (fun k => rfl) (head_j2 a b c false false 0 (by omega) ⟨h1, h2⟩ h3 h4))
    · exact Ev.succ (fun k => rfl) (Ev.succ (fun k => rfl) (head_j2 a b c false true 2 (by omega) ⟨h1, h2⟩ h3 h4))
    · exact Ev.succ (fun k => rfl) (Ev.succ (fun k => rfl) (head_j2 a b c true false 1 (by omega) ⟨h1, h2⟩ h3 h4))
    · exact Ev.succ (fun k => rfl) (Ev.succ (fun k => rfl) (head_j2 a b c true true 3 (by omega) ⟨h1, h2⟩ h3 h4))
theorem head_f (a b c : Int) (g n : Bool) : Ev (fun k => layout_Head.f k a b c g n) (headR a b c g n) := by
  have j := head_j0 a b c g n
  unfold layout_Head.f
  by_cases h1 : a < 0
  · exact Ev.congr (fun k => if_pos h1) (j true (by unfold headOk; rw [decide_eq_false (by omega : ¬ 0 ≤ a)]; rfl))
  · by_cases h2 : a > 2560
    · exact Ev.congr (fun k => (if_neg h1).trans (if_pos h2)) (j true (by unfold headOk; rw [decide_eq_false (by omega : ¬ a ≤ 2560), Bool.false_and, Bool.and_false]; rfl))
    · have d1 : decide (0 ≤ a) = true := decide_eq_true (by omega)
      have d2 : decide (a ≤ 2560) = true := decide_eq_true (by omega)
      unfold headOk at j
      rw [d1, d2, Bool.true_and, Bool.true_and] at j
      refine Ev.congr (G := fun k => (tag_Check.f b c).bind fun t201 => (if t201 = 0 then (if g = true then (if a > 0 then (layout_Head.j0 k true a b c g n) else (layout_Head.j0 k (!(b == 0) || (!(c == 0))) a b c g n)) else (layout_Head.j0 k false a b c g n)) else (layout_Head.j0 k true a b c g n))) (fun k => (if_neg h1).trans (if_neg h2)) ?_
      unfold tag_Check.f
      simp only [Option.bind_some]
      by_cases h3 : tagIn b = true ∧ tagIn c = true
      · rw [if_pos h3]
        rw [h3.1, h3.2, Bool.and_self, Bool.true_and] at j
        cases g with
        | false => exact Ev.congr (fun k => (if_pos rfl).trans (if_neg (by decide))) (j false rfl)
        | true =>
          by_cases h4 : a > 0
          · exact Ev.congr (fun k => ((if_pos rfl).trans (if_pos rfl)).trans (if_pos h4)) (j true (by rw [decide_eq_false (by omega : ¬ a = 0)]; rfl))
          · refine Ev.congr (fun k => ((if_pos rfl).trans (if_pos rfl)).trans (if_neg h4)) (j _ ?_)
            rw [decide_eq_true (by omega : a = 0)]
            have eb : (b == 0) = decide (b = 0) := rfl
            have ec : (c == 0) = decide (c = 0) := rfl
            rw [eb, ec]
            cases decide (b = 0) <;> cases decide (c = 0) <;> rfl
      · rw [if_neg h3]
        have e : (tagIn b && tagIn c) = false := by
          cases hb : tagIn b <;> cases hc : tagIn c <;> first | rfl | exact absurd ⟨hb, hc⟩ h3
        rw [e] at j
        exact Ev.congr (fun k => if_neg (by decide)) (j true rfl)
theorem flag_bits : ∀ b, b < 256 → (Go.bits .and .i64 ((b : Nat) : Int) 1 != 0) = (Int.tmod ((b : Nat) : Int) 2 == 1) ∧ (Go.bits .and .i64 ((b : Nat) : Int) 2 != 0) = (((Int.tdiv ((b : Nat) : Int) 2) % 2) == 1) := by decide +kernel
theorem flag_of {x : Int} (h0 : 0 ≤ x) (h1 : x ≤ 255) : (Go.bits .and .i64 x 1 != 0) = (Int.tmod x 2 == 1) ∧ (Go.bits .and .i64 x 2 != 0) = (((Int.tdiv x 2) % 2) == 1) := by
  obtain ⟨n, rfl⟩ : ∃ n : Nat, x = n := ⟨x.toNat, by omega⟩
  exact flag_bits n (by omega)
def readR (s : ByteArray) : Int × Int × Int × Bool × Bool × Int :=
  if s.size = 11 then
    (if headOk (num_at s 1 2) (num_at s 3 4) (num_at s 7 4) (Int.tmod (bt s 0) 2 == 1) = true ∧ (strOfNums (headB (num_at s 1 2) (num_at s 3 4) (num_at s 7 4) (Int.tmod (bt s 0) 2 == 1) (((Int.tdiv (bt s 0) 2) % 2) == 1))).toList = s.toList then (num_at s 1 2, num_at s 3 4, num_at s 7 4, (Int.tmod (bt s 0) 2 == 1), (((Int.tdiv (bt s 0) 2) % 2) == 1), 0) else (0, 0, 0, false, false, 4))
  else (0, 0, 0, false, false, 4)
theorem num_one {s : ByteArray} (h : s.size = 11) : num_at s 0 1 = bt s 0 := by
  unfold num_at
  rw [List.drop_zero]
  have : (bytesOf s).take 1 = [] ++ [bt s 0] := by
    rw [List.take_add_one, List.getElem?_eq_getElem (show 0 < (bytesOf s).length by rw [bytesOf_length]; omega)]
    rw [← rd_bytesOf]
    simp [rd, List.getD_eq_getElem?_getD, List.getElem?_eq_getElem (show 0 < (bytesOf s).length by rw [bytesOf_length]; omega)]
  rw [this, numOf_snoc]
  have : numOf [] = 0 := rfl
  rw [this]
  omega
theorem read_f (s : ByteArray) (hs : s.size ≤ 140737488351232) : Ev (fun k => layout_ReadHead.f k s) (readR s) := by
  unfold layout_ReadHead.f readR
  by_cases h : s.size = 11
  · rw [if_pos h]
    have hb := bt_range s 0
    have hfl := flag_of hb.1 hb.2
    rw [← num_one h] at hfl
    refine Ev.congr (fun k => if_pos h) ?_
    rw [hfl.1, hfl.2, num_one h]
    refine Ev.bind (head_f _ _ _ _ _) ?_
    unfold headR
    cases ho : headOk (num_at s 1 2) (num_at s 3 4) (num_at s 7 4) (Int.tmod (bt s 0) 2 == 1) with
    | false =>
      rw [if_neg (by simp), if_neg (by simp)]
      exact Ev.of' (fun k => rfl)
    | true =>
      rw [if_pos rfl]
      by_cases e : (strOfNums (headB (num_at s 1 2) (num_at s 3 4) (num_at s 7 4) (Int.tmod (bt s 0) 2 == 1) (((Int.tdiv (bt s 0) 2) % 2) == 1))).toList = s.toList
      · refine Ev.of' (fun k => ?_)
        rw [if_pos ⟨rfl, e⟩, if_pos ⟨rfl, e⟩]
      · refine Ev.of' (fun k => ?_)
        rw [if_neg (fun h => e h.2), if_neg (fun h => e h.2)]
  · rw [if_neg h]
    exact Ev.of' (fun k => (if_neg h).trans (if_pos hs))
/-! ### A head's bytes are read as the head -/
theorem bytesOf_str {l : List Int} (h : byteL l) : bytesOf (strOfNums l) = l := by
  unfold bytesOf
  rw [strOfNums_data, List.map_map]
  conv => rhs; rw [← List.map_id l]
  refine List.map_congr_left fun c hc => ?_
  have := h c hc
  simp only [Function.comp, id]
  simp
  omega
theorem pb_nat (x s : Nat) (hx : x < 4294967296) (hs : s ≤ 64) : pb (x : Int) (s : Int) = ((x / 2 ^ s % 256 : Nat) : Int) := by
  unfold pb
  have e : IntKind.u64.wrap (x : Int) = (x : Int) := by
    simp [IntKind.wrap, IntKind.bits, IntKind.signed]
    omega
  rw [e]
  unfold shr
  rw [Int.toNat_natCast, show IntKind.u64.bits = 64 from rfl, Nat.min_eq_left hs]
  simp
theorem bytesN_byte : ∀ (n : Nat) (x : Int), byteL (bytesN n x)
  | 0, _ => fun c hc => by simp [bytesN] at hc
  | n + 1, x => fun c hc => by
    rw [bytesN] at hc
    rcases List.mem_cons.1 hc with rfl | hc
    · unfold pb
      omega
    · exact bytesN_byte n x c hc
theorem num_1 {x : Int} (h0 : 0 ≤ x) (h1 : x < 256) : bytesN 1 x = [x] := by
  obtain ⟨n, rfl⟩ : ∃ n : Nat, x = n := ⟨x.toNat, by omega⟩
  show [pb (n : Int) ((0 : Nat) : Int)] = _
  rw [pb_nat n 0 (by omega) (by omega)]
  simp
  omega
theorem num_2 {x : Int} (h0 : 0 ≤ x) (h1 : x < 65536) : numOf (bytesN 2 x) = x := by
  obtain ⟨n, rfl⟩ : ∃ n : Nat, x = n := ⟨x.toNat, by omega⟩
  show numOf [pb (n : Int) ((8 : Nat) : Int), pb (n : Int) ((0 : Nat) : Int)] = _
  rw [pb_nat n 0 (by omega) (by omega), pb_nat n 8 (by omega) (by omega)]
  simp only [numOf, List.foldl]
  omega
theorem num_4 {x : Int} (h0 : 0 ≤ x) (h1 : x < 4294967296) : numOf (bytesN 4 x) = x := by
  obtain ⟨n, rfl⟩ : ∃ n : Nat, x = n := ⟨x.toNat, by omega⟩
  show numOf [pb (n : Int) ((24 : Nat) : Int), pb (n : Int) ((16 : Nat) : Int), pb (n : Int) ((8 : Nat) : Int), pb (n : Int) ((0 : Nat) : Int)] = _
  rw [pb_nat n 0 (by omega) (by omega), pb_nat n 8 (by omega) (by omega), pb_nat n 16 (by omega) (by omega), pb_nat n 24 (by omega) (by omega)]
  simp only [numOf, List.foldl]
  omega
theorem flags_bd (g n : Bool) : 0 ≤ flagsOf g n ∧ flagsOf g n < 256 := by cases g <;> cases n <;> decide
theorem flags_told (g n : Bool) : (Int.tmod (flagsOf g n) 2 == 1) = g ∧ (((Int.tdiv (flagsOf g n) 2) % 2) == 1) = n := by cases g <;> cases n <;> decide
theorem headB_byte (a b c : Int) (g n : Bool) : byteL (headB a b c g n) := by
  intro x hx
  unfold headB at hx
  simp only [List.mem_append] at hx
  rcases hx with ((hx | hx) | hx) | hx <;> exact bytesN_byte _ _ x hx
theorem headOk_bd {a b c : Int} {g : Bool} (h : headOk a b c g = true) : 0 ≤ a ∧ a ≤ 2560 ∧ tagIn b = true ∧ tagIn c = true := by
  unfold headOk at h
  simp only [Bool.and_eq_true, decide_eq_true_eq] at h
  exact ⟨h.1, h.2.1, h.2.2.1.1, h.2.2.1.2⟩
theorem head_back {a b c : Int} {g n : Bool} {s : ByteArray} (h : headR a b c g n = (s, 0)) : readR s = (a, b, c, g, n, 0) ∧ s.size = 11 := by
  unfold headR at h
  cases ho : headOk a b c g with
  | false =>
    rw [if_neg (by rw [ho]; decide)] at h
    have := (Prod.mk.inj h).2
    omega
  | true =>
    rw [if_pos ho] at h
    obtain rfl := (Prod.mk.inj h).1
    obtain ⟨a0, a1, tb, tc⟩ := headOk_bd ho
    have hb := tagIn_bd tb
    have hc := tagIn_bd tc
    have hf := flags_bd g n
    have hbytes := bytesOf_str (headB_byte a b c g n)
    have hl : (headB a b c g n).length = 11 := by
      unfold headB
      simp only [List.length_append, bytesN_length]
    have hsz : (strOfNums (headB a b c g n)).size = 11 := by rw [strOfNums_size, hl]
    refine ⟨?_, hsz⟩
    have e0 : bt (strOfNums (headB a b c g n)) 0 = flagsOf g n := by
      rw [← rd_bytesOf, hbytes]
      unfold headB
      rw [num_1 hf.1 hf.2]
      rfl
    have e1 : num_at (strOfNums (headB a b c g n)) 1 2 = a := by
      unfold num_at
      rw [hbytes]
      exact num_2 a0 (by omega)
    have e2 : num_at (strOfNums (headB a b c g n)) 3 4 = b := by
      unfold num_at
      rw [hbytes]
      exact num_4 hb.1 (by omega)
    have e3 : num_at (strOfNums (headB a b c g n)) 7 4 = c := by
      unfold num_at
      rw [hbytes]
      exact num_4 hc.1 (by omega)
    unfold readR
    rw [if_pos hsz, e0, e1, e2, e3, (flags_told g n).1, (flags_told g n).2, if_pos ⟨ho, rfl⟩]
theorem read_back {s : ByteArray} {a b c : Int} {g n : Bool} (h : readR s = (a, b, c, g, n, 0)) : (headR a b c g n).1.toList = s.toList ∧ (headR a b c g n).2 = 0 := by
  unfold readR at h
  split at h
  · split at h
    · rename_i _ hh
      simp only [Prod.mk.injEq] at h
      obtain ⟨rfl, rfl, rfl, rfl, rfl, _⟩ := h
      unfold headR
      rw [if_pos hh.1]
      exact ⟨hh.2, rfl⟩
    · simp at h
  · simp at h
end Go.Proofs.YtbdfmjgndeigpaaDoor.Pure
