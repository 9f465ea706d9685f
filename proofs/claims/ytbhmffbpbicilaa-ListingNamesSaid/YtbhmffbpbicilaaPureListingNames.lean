import Derived.Test.YtbhmffbpbicilaaPx14
namespace Go.Proofs.Ytbhmffbpbicilaa.Pure
open Go.RowKit Go.Proofs.Ytbhmffbpbicilaa.P Go.Proofs.YtbhmffbpbicilaaW.PrintWords Go.Proofs.YtbhmffbpbicilaaW.PrintLast

/-- All of d places from i on. -/
def allB (p : Nat → Bool) : Nat → Nat → Bool
  | 0, _ => true
  | d + 1, i => p i && allB p d (i + 1)
theorem allB_iff (p : Nat → Bool) : ∀ d i, allB p d i = true ↔ ∀ j, i ≤ j → j < i + d → p j = true
  | 0, i => ⟨fun _ j h1 h2 => absurd h2 (by omega), fun _ => rfl⟩
  | d + 1, i => by
    unfold allB
    rw [Bool.and_eq_true, allB_iff p d (i + 1)]
    constructor
    · rintro ⟨h1, h2⟩ j hj hd
      by_cases he : j = i
      · exact he ▸ h1
      · exact h2 j (by omega) (by omega)
    · intro h
      exact ⟨h i (by omega) (by omega), fun j h1 h2 => h j (by omega) (by omega)⟩
theorem allB_succ (p : Nat → Bool) (d i : Nat) : allB p (d + 1) i = (p i && allB p d (i + 1)) := rfl
theorem wr_in (n : Int) (h : -9223372036854775808 ≤ n ∧ n ≤ 9223372036854775807) : wrap64 n = n := by unfold wrap64; omega
def plainB (c : Int) : Bool := (decide (97 ≤ c) && decide (c ≤ 122)) || (decide (48 ≤ c) && decide (c ≤ 57))
def g1 (x : ByteArray) (j : Nat) : Bool := plainB (bt x j) || (decide (bt x j = 45) && (decide (0 < j) && decide (j + 1 < x.size)))
def g2 (x : ByteArray) (j : Nat) : Bool := plainB (bt x j) || decide (bt x j = 45)
def told (b : Bool) : Int := if b = true then 0 else 15
theorem plain_f (c : Int) : r20_plain.f c = some (plainB c) := by
  unfold r20_plain.f plainB
  by_cases h1 : 97 ≤ c
  · rw [if_pos (by omega : c ≥ 97), decide_eq_true h1, if_pos (by omega : c ≥ 48), decide_eq_true (by omega : 48 ≤ c), decide_eq_false (by omega : ¬ c ≤ 57)]
    by_cases h2 : c ≤ 122
    · rw [if_pos h2, decide_eq_true h2]; rfl
    · rw [if_neg h2, decide_eq_false h2]; rfl
  · rw [if_neg (by omega : ¬ c ≥ 97), decide_eq_false h1, Bool.false_and, Bool.false_or]
    by_cases h2 : 48 ≤ c
    · rw [if_pos (by omega : c ≥ 48), decide_eq_true h2, Bool.true_and]
    · rw [if_neg (by omega : ¬ c ≥ 48), decide_eq_false h2]; rfl
theorem up1 (i : Nat) (h : i ≤ 100) : wrap64 ((i : Int) + 1) = ((i + 1 : Nat) : Int) := by rw [wr_in _ (by omega)]; omega
theorem lB (x : ByteArray) (hn : x.size ≤ 12) : ∀ d i k, i + d = x.size → 2 * d + 1 ≤ k → listing_Bucket.l0 k x (x.size : Int) (i : Int) = some (told (allB (g1 x) d i))
  | 0, i, k, h, hk => by
    obtain ⟨k, rfl⟩ : ∃ m, k = m + 1 := ⟨k - 1, by omega⟩
    unfold listing_Bucket.l0
    rw [if_neg (by omega)]
    rfl
  | d + 1, i, k, h, hk => by
    obtain ⟨k, rfl⟩ : ∃ m, k = m + 2 := ⟨k - 2, by omega⟩
    have ih1 := lB x hn d (i + 1) (k + 1) (by omega) (by omega)
    have ih0 := lB x hn d (i + 1) k (by omega) (by omega)
    unfold listing_Bucket.l0
    rw [if_pos (by omega), if_pos (by omega), if_pos (by omega), up1 i (by omega), wr_in _ (by omega)]
    rw [allB_succ]
    have hj2 : ∀ b, listing_Bucket.j2 (k + 1) x (x.size : Int) (i : Int) b = if b = true then some 15 else some (told (allB (g1 x) d (i + 1))) := by
      intro b
      unfold listing_Bucket.j2
      rw [up1 i (by omega), ih0]
    simp only [hj2, ih1]
    have hc := bt_range x (i : Int)
    generalize hcv : bt x (i : Int) = c at hc
    have hg : g1 x i = (plainB c || (decide (c = 45) && (decide (0 < i) && decide (i + 1 < x.size)))) := by unfold g1; rw [hcv]
    rw [hg]
    by_cases e45 : c = 45
    · rw [if_pos e45]
      have hp : plainB c = false := by subst e45; rfl
      rw [hp, decide_eq_true e45]
      by_cases hi : 0 < i
      · rw [if_pos (by omega), decide_eq_true hi]
        by_cases hi2 : i + 1 < x.size
        · rw [if_pos (by omega), decide_eq_true hi2]; rfl
        · rw [if_neg (by omega), decide_eq_false hi2]; rfl
      · rw [if_neg (by omega), decide_eq_false hi]; rfl
    · rw [if_neg e45, decide_eq_false e45, Bool.false_and, Bool.or_false]
      by_cases q1 : c < 48
      · have hp : plainB c = false := by unfold plainB; rw [decide_eq_false (by omega : ¬ 97 ≤ c), decide_eq_false (by omega : ¬ 48 ≤ c)]; rfl
        rw [if_pos q1, hp]; rfl
      · rw [if_neg q1]
        by_cases q2 : c > 57
        · rw [if_pos q2]
          by_cases q3 : c < 97
          · have hp : plainB c = false := by unfold plainB; rw [decide_eq_false (by omega : ¬ 97 ≤ c), decide_eq_false (by omega : ¬ c ≤ 57), Bool.and_false]; rfl
            rw [if_pos q3, hp]; rfl
          · rw [if_neg q3]
            by_cases q4 : c > 122
            · have hp : plainB c = false := by unfold plainB; rw [decide_eq_false (by omega : ¬ c ≤ 122), decide_eq_false (by omega : ¬ c ≤ 57), Bool.and_false, Bool.and_false]; rfl
              rw [decide_eq_true q4, hp]; rfl
            · have hp : plainB c = true := by unfold plainB; rw [decide_eq_true (by omega : 97 ≤ c), decide_eq_true (by omega : c ≤ 122)]; rfl
              rw [decide_eq_false q4, hp]; rfl
        · have hp : plainB c = true := by unfold plainB; rw [decide_eq_true (by omega : 48 ≤ c), decide_eq_true (by omega : c ≤ 57), Bool.and_self, Bool.or_true]
          rw [if_neg q2, decide_eq_false (by omega : ¬ c > 122), hp]; rfl
theorem rB (x : ByteArray) (hn : x.size ≤ 12) : ∀ d i k, i + d = x.size → d + 1 ≤ k → r20_Bucket.l0 k x (i : Int) = some (told (allB (g2 x) d i))
  | 0, i, k, h, hk => by
    obtain ⟨k, rfl⟩ : ∃ m, k = m + 1 := ⟨k - 1, by omega⟩
    unfold r20_Bucket.l0
    rw [if_neg (by omega)]
    rfl
  | d + 1, i, k, h, hk => by
    obtain ⟨k, rfl⟩ : ∃ m, k = m + 1 := ⟨k - 1, by omega⟩
    have ih := rB x hn d (i + 1) k (by omega) (by omega)
    unfold r20_Bucket.l0
    rw [if_pos (by omega), if_pos (by omega), up1 i (by omega), plain_f, ih]
    rw [allB_succ]
    simp only [Option.bind_some]
    have hg : g2 x i = (plainB (bt x (i : Int)) || decide (bt x (i : Int) = 45)) := rfl
    rw [hg]
    cases hp : plainB (bt x (i : Int)) with
    | true => rfl
    | false =>
      by_cases e : bt x (i : Int) = 45
      · rw [decide_eq_true e, if_pos e]; rfl
      · rw [decide_eq_false e, if_neg e]; rfl
theorem rO (x : ByteArray) (hn : x.size ≤ 32) : ∀ d i k, i + d = x.size → d + 1 ≤ k → r20_Object.l0 k x (i : Int) = some (told (allB (fun j => decide (33 ≤ bt x j) && decide (bt x j ≤ 126)) d i))
  | 0, i, k, h, hk => by
    obtain ⟨k, rfl⟩ : ∃ m, k = m + 1 := ⟨k - 1, by omega⟩
    unfold r20_Object.l0
    rw [if_neg (by omega)]
    rfl
  | d + 1, i, k, h, hk => by
    obtain ⟨k, rfl⟩ : ∃ m, k = m + 1 := ⟨k - 1, by omega⟩
    have ih := rO x hn d (i + 1) k (by omega) (by omega)
    unfold r20_Object.l0
    rw [if_pos (by omega), if_pos (by omega), up1 i (by omega), ih]
    rw [allB_succ]
    by_cases e : bt x (i : Int) < 33
    · rw [if_pos e, decide_eq_false (by omega : ¬ 33 ≤ bt x (i : Int))]; rfl
    · rw [if_neg e, decide_eq_true (by omega : 33 ≤ bt x (i : Int))]
      by_cases e2 : bt x (i : Int) > 126
      · rw [if_pos e2, decide_eq_false (by omega : ¬ bt x (i : Int) ≤ 126)]; rfl
      · rw [if_neg e2, decide_eq_true (by omega : bt x (i : Int) ≤ 126)]; rfl
theorem bucket_same (x : ByteArray) : listing_Bucket.f 100 x = r20_Bucket.f 100 x := by
  unfold listing_Bucket.f r20_Bucket.f
  by_cases h3 : (x.size : Int) < 3
  · rw [if_pos h3, if_pos h3]; rfl
  · rw [if_neg h3, if_neg h3]
    by_cases h12 : (x.size : Int) > 12
    · rw [if_pos h12, decide_eq_true h12]; rfl
    · rw [if_neg h12, decide_eq_false h12, if_pos (by omega)]
      have hl : listing_Bucket.j0 100 x false = some (told (allB (g1 x) x.size 0)) := by
        unfold listing_Bucket.j0
        exact lB x (by omega) x.size 0 99 (by omega) (by omega)
      have hr : ∀ b, r20_Bucket.j0 100 x b = if b = true then some 15 else some (told (allB (g2 x) x.size 0)) := by
        intro b
        show (if b = true then some 15 else r20_Bucket.l0 99 x 0) = _
        rw [show r20_Bucket.l0 99 x 0 = some (told (allB (g2 x) x.size 0)) from rB x (by omega) x.size 0 99 (by omega) (by omega)]
      rw [hl, plain_f, wr_in _ (by omega), if_pos (by omega : (0 : Int) ≤ (x.size : Int) - 1), if_pos (by omega : (x.size : Int) - 1 < (x.size : Int)), plain_f]
      simp only [Option.bind_some, hr]
      have e : allB (g1 x) x.size 0 = (plainB (bt x 0) && plainB (bt x ((x.size : Int) - 1)) && allB (g2 x) x.size 0) := by
        rw [Bool.eq_iff_iff]
        simp only [Bool.and_eq_true, allB_iff]
        have hlast : bt x ((x.size : Int) - 1) = bt x ((x.size - 1 : Nat) : Int) := by congr 1; omega
        have hfirst : bt x 0 = bt x ((0 : Nat) : Int) := rfl
        rw [hlast, hfirst]
        constructor
        · intro h
          refine ⟨⟨?_, ?_⟩, fun j h1 h2 => ?_⟩
          · have := h 0 (by omega) (by omega)
            simpa [g1] using this
          · have := h (x.size - 1) (by omega) (by omega)
            unfold g1 at this
            rw [decide_eq_false (by omega : ¬ x.size - 1 + 1 < x.size), Bool.and_false, Bool.and_false, Bool.or_false] at this
            exact this
          · have := h j h1 h2
            unfold g1 at this
            unfold g2
            rw [Bool.or_eq_true] at this ⊢
            rcases this with this | this
            · exact .inl this
            · rw [Bool.and_eq_true] at this
              exact .inr this.1
        · rintro ⟨⟨h0, h1⟩, h2⟩ j hj1 hj2
          have := h2 j hj1 hj2
          unfold g1
          by_cases e0 : j = 0
          · subst e0; rw [h0]; rfl
          · by_cases e1 : j = x.size - 1
            · subst e1; rw [h1]; rfl
            · unfold g2 at this
              rw [decide_eq_true (by omega : 0 < j), decide_eq_true (by omega : j + 1 < x.size)]
              simpa using this
      rw [e]
      cases plainB (bt x 0) <;> cases plainB (bt x ((x.size : Int) - 1)) <;> rfl
theorem bucket_told (x : ByteArray) : ∃ b, listing_Bucket.f 100 x = some b := by
  unfold listing_Bucket.f
  by_cases h3 : (x.size : Int) < 3
  · rw [if_pos h3]; exact ⟨15, rfl⟩
  · rw [if_neg h3]
    by_cases h12 : (x.size : Int) > 12
    · rw [decide_eq_true h12]; exact ⟨15, rfl⟩
    · rw [decide_eq_false h12]
      have hl : listing_Bucket.j0 100 x false = some (told (allB (g1 x) x.size 0)) := by
        unfold listing_Bucket.j0
        exact lB x (by omega) x.size 0 99 (by omega) (by omega)
      exact ⟨_, hl⟩
theorem objOk_all (x : ByteArray) : objOk (bytesOf x) = allB (fun j => decide (33 ≤ bt x j) && decide (bt x j ≤ 126)) x.size 0 := by
  rw [Bool.eq_iff_iff, allB_iff]
  unfold objOk
  rw [List.all_eq_true]
  constructor
  · intro h j _ hj
    refine h (bt x j) ?_
    rw [← rd_bytesOf]
    unfold rd
    rw [List.mem_iff_getElem]
    exact ⟨j, by rw [bytesOf_length]; omega, by simp [List.getD_eq_getElem?_getD, List.getElem?_eq_getElem (show j < (bytesOf x).length by rw [bytesOf_length]; omega)]⟩
  · intro h c hc
    obtain ⟨j, hj, rfl⟩ := List.mem_iff_getElem.1 hc
    rw [bytesOf_length] at hj
    have := h j (by omega) (by omega)
    have e : (bytesOf x)[j] = bt x j := by
      rw [← rd_bytesOf]
      unfold rd
      simp [List.getD_eq_getElem?_getD, List.getElem?_eq_getElem (show j < (bytesOf x).length by rw [bytesOf_length]; omega)]
    rw [e]
    exact this
theorem object_same (x : ByteArray) : listing_Object.f x = r20_Object.f 100 x := by
  unfold listing_Object.f r20_Object.f
  by_cases h1 : (x.size : Int) < 1
  · rw [if_pos h1, if_neg (by omega)]; rfl
  · rw [if_neg h1]
    by_cases h2 : (x.size : Int) > 32
    · rw [decide_eq_true h2, if_neg (by omega)]; rfl
    · rw [decide_eq_false h2]
      show _ = (if false = true then some 15 else r20_Object.l0 99 x 0)
      rw [show r20_Object.l0 99 x 0 = _ from rO x (by omega) x.size 0 99 (by omega) (by omega), objOk_all]
      simp only [Bool.false_eq_true, if_false, told]
      cases hb : allB (fun j => decide (33 ≤ bt x j) && decide (bt x j ≤ 126)) x.size 0 with
      | true => rw [if_pos ⟨by omega, by omega, rfl⟩]; rfl
      | false => rw [if_neg (by simp)]; rfl
theorem ListingNames : w20_ListingNames.Pure := by
  intro a0 a1 a2 a3 a4 _ _ _ _ _
  refine ⟨100, ?_⟩
  unfold w20_ListingNames.f
  obtain ⟨b, hb⟩ : ∃ b, r20_Bucket.f 100 a0 = some b := by
    rw [← bucket_same]; exact bucket_told a0
  obtain ⟨o, ho⟩ : ∃ o, r20_Object.f 100 a0 = some o := by
    rw [← object_same]; exact ⟨_, rfl⟩
  have hc : listing_Check.f a1 a2 a3 a4 = r20_Check.f a1 a2 a3 a4 := rfl
  obtain ⟨c, hcc⟩ : ∃ c, r20_Check.f a1 a2 a3 a4 = some c := by
    unfold r20_Check.f
    repeat' split
    all_goals exact ⟨_, rfl⟩
  rw [bucket_same, object_same, hc, hb, ho, hcc]
  simp only [Option.bind_some, if_true]
  rfl

end Go.Proofs.Ytbhmffbpbicilaa.Pure
