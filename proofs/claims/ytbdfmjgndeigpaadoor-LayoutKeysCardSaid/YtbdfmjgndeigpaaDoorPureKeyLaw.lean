import Derived.Test.YtbdfmjgndeigpaaDoorPureKeyEnc
import Derived.Test.YtbdfmjgndeigpaaDoorPx9
import Derived.Test.YtbdfmjgndeigpaaDoorPx8
namespace Go.Proofs.YtbdfmjgndeigpaaDoor.Pure
open Go.RowKit Go.Proofs.YtbdfmjgndeigpaaDoor.P Go.Proofs.YtbdfmjgndeigpaaDoorW.PrintWords Go.Proofs.YtbdfmjgndeigpaaDoorW.PrintLast Go.Proofs.YtbdfmjgndeigpaaDoorW.PrintMore
/-! ### Keys: what Key and Span tell -/
theorem Ev.of {α : Type} {F : Nat → Option α} {r : α} (h : ∀ k, F k = some r) : Ev F r := ⟨0, fun k _ => h k⟩
/-- How many numbers a kind has. -/
def nm (a : Int) : Int := if a = 6 then 3 else if a = 5 then 2 else if a = 3 then 2 else if a = 4 then 1 else if a = 2 then 1 else if a = 1 then 0 else -1
theorem nums_f (a : Int) : Ev (fun k => layout_nums.f k a) (nm a) := by
  refine ⟨2, fun k hk => ?_⟩
  obtain ⟨k, rfl⟩ : ∃ j, k = j + 2 := ⟨k - 2, by omega⟩
  show layout_nums.f (k + 2) a = some (nm a)
  unfold layout_nums.f nm
  by_cases h6 : a = 6
  · subst h6; rfl
  · by_cases h5 : a = 5
    · subst h5; simp [layout_nums.j0, wrap64]
    · by_cases h3 : a = 3
      · subst h3; simp [layout_nums.j0, wrap64]
      · by_cases h4 : a = 4
        · subst h4; simp [layout_nums.j0, layout_nums.j1, wrap64]
        · by_cases h2 : a = 2
          · subst h2; simp [layout_nums.j0, layout_nums.j1, wrap64]
          · by_cases h1 : a = 1
            · subst h1; simp [layout_nums.j0, layout_nums.j1]
            · simp [layout_nums.j0, layout_nums.j1, h1, h2, h3, h4, h5, h6]
/-- May a key's numbers be? -/
def numsOk (a : Int) (c : ByteArray) (l : List Int) : Bool := l.all (fun x => decide (0 ≤ x)) && (decide ((l.length : Int) ≤ nm a) && (!(decide (a = 1)) || c.toList == ([] : List UInt8)))
theorem numbers_l0 (a : Int) (b c : ByteArray) (l : List Int) (hl : l.length ≤ 1000) : ∀ (r j : Nat), l.length - j = r → j ≤ l.length → Ev (fun k => layout_numbers.l0 k l (l.length : Int) (j : Int) a b c l) ((l.drop j).all (fun x => decide (0 ≤ x)) && (decide ((l.length : Int) ≤ nm a) && (!(decide (a = 1)) || c.toList == ([] : List UInt8))))
  | r, j, hr, hj => by
    by_cases hjl : j < l.length
    · rw [rd_drop l j hjl]
      by_cases hx : rd l (j : Int) < 0
      · refine Ev.succ (G := fun _ => some false) (fun k => ?_) ?_
        · simp only [layout_numbers.l0]
          rw [if_pos (by omega), if_pos (by omega), if_pos (by omega), if_pos hx]
        · have e : ((rd l (j : Int) :: l.drop (j + 1)).all fun x => decide (0 ≤ x)) = false := by
            rw [List.all_cons, decide_eq_false (by omega), Bool.false_and]
          rw [e, Bool.false_and]
          exact Ev.const _
      · refine Ev.succ (fun k => ?_) (by
          have ih := numbers_l0 a b c l hl (r - 1) (j + 1) (by omega) (by omega)
          have e : ((rd l (j : Int) :: l.drop (j + 1)).all fun x => decide (0 ≤ x)) = (l.drop (j + 1)).all (fun x => decide (0 ≤ x)) := by
            rw [List.all_cons, decide_eq_true (by omega), Bool.true_and]
          rw [e]
          exact ih)
        simp only [layout_numbers.l0]
        rw [if_pos (by omega), if_pos (by omega), if_pos (by omega), if_neg hx, wr_one j (by omega)]
    · rw [List.drop_eq_nil_of_le (by omega), List.all_nil, Bool.true_and]
      refine Ev.succ (G := fun k => (layout_nums.f k a).bind fun t => if t ≥ (l.length : Int) then (if a = 1 then (some (c.toList == ([] : List UInt8))) else (some true)) else (some false)) (fun k => ?_) ?_
      · simp only [layout_numbers.l0]
        rw [if_neg (by omega)]
      · refine Ev.bind (nums_f a) ?_
        refine Ev.of (fun k => ?_)
        by_cases h1 : (l.length : Int) ≤ nm a
        · rw [if_pos h1, decide_eq_true h1, Bool.true_and]
          by_cases h2 : a = 1
          · rw [if_pos h2, decide_eq_true h2]; rfl
          · rw [if_neg h2, decide_eq_false h2]; rfl
        · rw [if_neg h1, decide_eq_false h1, Bool.false_and]
  termination_by r => r
  decreasing_by omega
theorem numbers_f (a : Int) (b c : ByteArray) (l : List Int) (hl : l.length ≤ 1000) : Ev (fun k => layout_numbers.f k a b c l) (numsOk a c l) := numbers_l0 a b c l hl _ 0 rfl (by omega)
/-! ### Names -/
def allB (p : Nat → Bool) : Nat → Nat → Bool
  | 0, _ => true
  | d + 1, i => p i && allB p d (i + 1)
theorem allB_iff (p : Nat → Bool) : ∀ d i, allB p d i = true ↔ ∀ j, i ≤ j → j < i + d → p j = true
  | 0, i => ⟨fun _ j h1 h2 => absurd h2 (by omega), fun _ => rfl⟩
  | d + 1, i => by
    unfold allB
    rw [Bool.and_eq_true, allB_iff p d (i + 1)]
    constructor
    · rintro ⟨h1, h2⟩ j hj hd
      by_cases he : j = i
      · exact he ▸ h1
      · exact h2 j (by omega) (by omega)
    · intro h
      exact ⟨h i (by omega) (by omega), fun j h1 h2 => h j (by omega) (by omega)⟩
theorem allB_succ (p : Nat → Bool) (d i : Nat) : allB p (d + 1) i = (p i && allB p d (i + 1)) := rfl
def plainB (c : Int) : Bool := (decide (97 ≤ c) && decide (c ≤ 122)) || (decide (48 ≤ c) && decide (c ≤ 57))
def g1 (x : ByteArray) (j : Nat) : Bool := plainB (bt x j) || (decide (bt x j = 45) && (decide (0 < j) && decide (j + 1 < x.size)))
def told (b : Bool) : Int := if b = true then 0 else 15
theorem up1 (i : Nat) (h : i ≤ 100) : wrap64 ((i : Int) + 1) = ((i + 1 : Nat) : Int) := by rw [wr_in _ (by omega)]; omega
theorem lB (x : ByteArray) (hn : x.size ≤ 12) : ∀ d i k, i + d = x.size → 2 * d + 1 ≤ k → listing_Bucket.l0 k x (x.size : Int) (i : Int) = some (told (allB (g1 x) d i))
  | 0, i, k, h, hk => by
    obtain ⟨k, rfl⟩ : ∃ m, k = m + 1 := ⟨k - 1, by omega⟩
    unfold listing_Bucket.l0
    rw [if_neg (by omega)]
    rfl
  | d + 1, i, k, h, hk => by
    obtain ⟨k, rfl⟩ : ∃ m, k = m + 2 := ⟨k - 2, by omega⟩
    have ih1 := lB x hn d (i + 1) (k + 1) (by omega) (by omega)
    have ih0 := lB x hn d (i + 1) k (by omega) (by omega)
    unfold listing_Bucket.l0
    rw [if_pos (by omega), if_pos (by omega), if_pos (by omega), up1 i (by omega), wr_in _ (by omega)]
    rw [allB_succ]
    have hj2 : ∀ b, listing_Bucket.j2 (k + 1) x (x.size : Int) (i : Int) b = if b = true then some 15 else some (told (allB (g1 x) d (i + 1))) := by
      intro b
      unfold listing_Bucket.j2
      rw [up1 i (by omega), ih0]
    simp only [hj2, ih1]
    have hc := bt_range x (i : Int)
    generalize hcv : bt x (i : Int) = c at hc
    have hg : g1 x i = (plainB c || (decide (c = 45) && (decide (0 < i) && decide (i + 1 < x.size)))) := by unfold g1; rw [hcv]
    rw [hg]
    by_cases e45 : c = 45
    · rw [if_pos e45]
      have hp : plainB c = false := by subst e45; rfl
      rw [hp, decide_eq_true e45]
      by_cases hi : 0 < i
      · rw [if_pos (by omega), decide_eq_true hi]
        by_cases hi2 : i + 1 < x.size
        · rw [if_pos (by omega), decide_eq_true hi2]; rfl
        · rw [if_neg (by omega), decide_eq_false hi2]; rfl
      · rw [if_neg (by omega), decide_eq_false hi]; rfl
    · rw [if_neg e45, decide_eq_false e45, Bool.false_and, Bool.or_false]
      by_cases q1 : c < 48
      · have hp : plainB c = false := by unfold plainB; rw [decide_eq_false (by omega : ¬ 97 ≤ c), decide_eq_false (by omega : ¬ 48 ≤ c)]; rfl
        rw [if_pos q1, hp]; rfl
      · rw [if_neg q1]
        by_cases q2 : c > 57
        · rw [if_pos q2]
          by_cases q3 : c < 97
          · have hp : plainB c = false := by unfold plainB; rw [decide_eq_false (by omega : ¬ 97 ≤ c), decide_eq_false (by omega : ¬ c ≤ 57), Bool.and_false]; rfl
            rw [if_pos q3, hp]; rfl
          · rw [if_neg q3]
            by_cases q4 : c > 122
            · have hp : plainB c = false := by unfold plainB; rw [decide_eq_false (by omega : ¬ c ≤ 122), decide_eq_false (by omega : ¬ c ≤ 57), Bool.and_false, Bool.and_false]; rfl
              rw [decide_eq_true q4, hp]; rfl
            · have hp : plainB c = true := by unfold plainB; rw [decide_eq_true (by omega : 97 ≤ c), decide_eq_true (by omega : c ≤ 122)]; rfl
              rw [decide_eq_false q4, hp]; rfl
        · have hp : plainB c = true := by unfold plainB; rw [decide_eq_true (by omega : 48 ≤ c), decide_eq_true (by omega : c ≤ 57), Bool.and_self, Bool.or_true]
          rw [if_neg q2, decide_eq_false (by omega : ¬ c > 122), hp]; rfl
def bOk (x : ByteArray) : Bool := decide (3 ≤ x.size) && (decide (x.size ≤ 12) && allB (g1 x) x.size 0)
def oOk (x : ByteArray) : Bool := decide (1 ≤ x.size) && (decide (x.size ≤ 32) && objOk (bytesOf x))
theorem bucket_f (x : ByteArray) : Ev (fun k => listing_Bucket.f k x) (told (bOk x)) := by
  refine ⟨100, fun k hk => ?_⟩
  obtain ⟨k, rfl⟩ : ∃ j, k = j + 1 := ⟨k - 1, by omega⟩
  show listing_Bucket.f (k + 1) x = some (told (bOk x))
  unfold listing_Bucket.f bOk
  by_cases h3 : (x.size : Int) < 3
  · rw [if_pos h3, decide_eq_false (by omega : ¬ 3 ≤ x.size)]; rfl
  · rw [if_neg h3, decide_eq_true (by omega : 3 ≤ x.size)]
    by_cases h12 : (x.size : Int) > 12
    · rw [decide_eq_true h12, decide_eq_false (by omega : ¬ x.size ≤ 12)]; rfl
    · rw [decide_eq_false h12, decide_eq_true (by omega : x.size ≤ 12), Bool.true_and, Bool.true_and]
      unfold listing_Bucket.j0
      exact lB x (by omega) x.size 0 k (by omega) (by omega)
theorem object_f (x : ByteArray) : listing_Object.f x = some (told (oOk x)) := by
  unfold listing_Object.f oOk told
  congr 1
  by_cases h1 : 1 ≤ x.size
  · by_cases h2 : x.size ≤ 32
    · cases h3 : objOk (bytesOf x)
      · rw [if_neg (by simp), if_neg (by simp)]
      · rw [if_pos ⟨h1, h2, rfl⟩, if_pos (by simp [h1, h2])]
    · rw [if_neg (fun h => h2 h.2.1), if_neg (by simp [h2])]
  · rw [if_neg (fun h => h1 h.1), if_neg (by simp [h1])]
/-- A name's bytes are none of them nought. -/
theorem mem_bytesOf {x : ByteArray} {c : Int} (h : c ∈ bytesOf x) : ∃ j, j < x.size ∧ bt x (j : Int) = c := by
  obtain ⟨j, hj, rfl⟩ := List.mem_iff_getElem.1 h
  rw [bytesOf_length] at hj
  refine ⟨j, hj, ?_⟩
  rw [← rd_bytesOf]
  unfold rd
  simp [List.getD_eq_getElem?_getD, List.getElem?_eq_getElem (show j < (bytesOf x).length by rw [bytesOf_length]; omega)]
theorem bOk_pos {x : ByteArray} (h : bOk x = true) : x.size ≤ 12 ∧ 3 ≤ x.size ∧ ∀ c ∈ bytesOf x, 0 < c ∧ c < 255 := by
  unfold bOk at h
  simp only [Bool.and_eq_true, decide_eq_true_eq] at h
  refine ⟨h.2.1, h.1, fun c hc => ?_⟩
  obtain ⟨j, hj, rfl⟩ := mem_bytesOf hc
  have := (allB_iff _ _ _).1 h.2.2 j (by omega) (by omega)
  unfold g1 plainB at this
  simp only [Bool.or_eq_true, Bool.and_eq_true, decide_eq_true_eq] at this
  omega
theorem oOk_pos {x : ByteArray} (h : oOk x = true) : x.size ≤ 32 ∧ 1 ≤ x.size ∧ ∀ c ∈ bytesOf x, 0 < c ∧ c < 255 := by
  unfold oOk at h
  simp only [Bool.and_eq_true, decide_eq_true_eq] at h
  refine ⟨h.2.1, h.1, fun c hc => ?_⟩
  have h3 := h.2.2
  unfold objOk at h3
  rw [List.all_eq_true] at h3
  have := h3 c hc
  simp only [Bool.and_eq_true, decide_eq_true_eq] at this
  omega
end Go.Proofs.YtbdfmjgndeigpaaDoor.Pure
