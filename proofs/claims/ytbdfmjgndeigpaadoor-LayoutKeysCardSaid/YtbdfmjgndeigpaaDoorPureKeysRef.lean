import Derived.Test.YtbdfmjgndeigpaaDoorPureKeyPrefix
import Derived.Test.YtbdfmjgndeigpaaDoorPx20
import Derived.Test.YtbdfmjgndeigpaaDoorPx21
import Derived.Test.YtbdfmjgndeigpaaDoorPx15
import Derived.Test.YtbdfmjgndeigpaaDoorPx16
import Derived.Test.YtbdfmjgndeigpaaDoorPx19
import Derived.Test.YtbdfmjgndeigpaaDoorPx18
import Derived.Test.YtbdfmjgndeigpaaDoorPx17
namespace Go.Proofs.YtbdfmjgndeigpaaDoor.Pure
open Go.RowKit Go.Proofs.YtbdfmjgndeigpaaDoor.P Go.Proofs.YtbdfmjgndeigpaaDoorW.PrintWords Go.Proofs.YtbdfmjgndeigpaaDoorW.PrintLast Go.Proofs.YtbdfmjgndeigpaaDoorW.PrintMore
set_option linter.unusedVariables false
set_option linter.unusedSimpArgs false
/-! ### The reference's names -/
theorem plain_f (c : Int) : r20_plain.f c = some (plainB c) := by
  unfold r20_plain.f plainB
  by_cases h1 : 97 ≤ c
  · rw [if_pos (by omega : c ≥ 97), decide_eq_true h1, if_pos (by omega : c ≥ 48), decide_eq_true (by omega : 48 ≤ c), decide_eq_false (by omega : ¬ c ≤ 57)]
    by_cases h2 : c ≤ 122
    · rw [if_pos h2, decide_eq_true h2]; rfl
    · rw [if_neg h2, decide_eq_false h2]; rfl
  · rw [if_neg (by omega : ¬ c ≥ 97), decide_eq_false h1, Bool.false_and, Bool.false_or]
    by_cases h2 : 48 ≤ c
    · rw [if_pos (by omega : c ≥ 48), decide_eq_true h2, Bool.true_and]
    · rw [if_neg (by omega : ¬ c ≥ 48), decide_eq_false h2]; rfl
def g2 (x : ByteArray) (j : Nat) : Bool := plainB (bt x j) || decide (bt x j = 45)
theorem rB (x : ByteArray) (hn : x.size ≤ 12) : ∀ d i k, i + d = x.size → d + 1 ≤ k → r20_Bucket.l0 k x (i : Int) = some (told (allB (g2 x) d i))
  | 0, i, k, h, hk => by
    obtain ⟨k, rfl⟩ : ∃ m, k = m + 1 := ⟨k - 1, by omega⟩
    unfold r20_Bucket.l0
    rw [if_neg (by omega)]
    rfl
  | d + 1, i, k, h, hk => by
    obtain ⟨k, rfl⟩ : ∃ m, k = m + 1 := ⟨k - 1, by omega⟩
    have ih := rB x hn d (i + 1) k (by omega) (by omega)
    unfold r20_Bucket.l0
    rw [if_pos (by omega), if_pos (by omega), up1 i (by omega), plain_f, ih]
    rw [allB_succ]
    simp only [Option.bind_some]
    have hg : g2 x i = (plainB (bt x (i : Int)) || decide (bt x (i : Int) = 45)) := rfl
    rw [hg]
    cases hp : plainB (bt x (i : Int)) with
    | true => rfl
    | false =>
      by_cases e : bt x (i : Int) = 45
      · rw [decide_eq_true e, if_pos e]; rfl
      · rw [decide_eq_false e, if_neg e]; rfl
theorem rO (x : ByteArray) (hn : x.size ≤ 32) : ∀ d i k, i + d = x.size → d + 1 ≤ k → r20_Object.l0 k x (i : Int) = some (told (allB (fun j => decide (33 ≤ bt x j) && decide (bt x j ≤ 126)) d i))
  | 0, i, k, h, hk => by
    obtain ⟨k, rfl⟩ : ∃ m, k = m + 1 := ⟨k - 1, by omega⟩
    unfold r20_Object.l0
    rw [if_neg (by omega)]
    rfl
  | d + 1, i, k, h, hk => by
    obtain ⟨k, rfl⟩ : ∃ m, k = m + 1 := ⟨k - 1, by omega⟩
    have ih := rO x hn d (i + 1) k (by omega) (by omega)
    unfold r20_Object.l0
    rw [if_pos (by omega), if_pos (by omega), up1 i (by omega), ih]
    rw [allB_succ]
    by_cases e : bt x (i : Int) < 33
    · rw [if_pos e, decide_eq_false (by omega : ¬ 33 ≤ bt x (i : Int))]; rfl
    · rw [if_neg e, decide_eq_true (by omega : 33 ≤ bt x (i : Int))]
      by_cases e2 : bt x (i : Int) > 126
      · rw [if_pos e2, decide_eq_false (by omega : ¬ bt x (i : Int) ≤ 126)]; rfl
      · rw [if_neg e2, decide_eq_true (by omega : bt x (i : Int) ≤ 126)]; rfl
theorem rbucket_f (x : ByteArray) : Ev (fun k => r20_Bucket.f k x) (told (bOk x)) := by
  refine ⟨100, fun k hk => ?_⟩
  obtain ⟨k, rfl⟩ : ∃ j, k = j + 1 := ⟨k - 1, by omega⟩
  show r20_Bucket.f (k + 1) x = some (told (bOk x))
  unfold r20_Bucket.f bOk
  by_cases h3 : (x.size : Int) < 3
  · rw [if_pos h3, decide_eq_false (by omega : ¬ 3 ≤ x.size)]; rfl
  · rw [if_neg h3, decide_eq_true (by omega : 3 ≤ x.size)]
    by_cases h12 : (x.size : Int) > 12
    · rw [if_pos h12, decide_eq_false (by omega : ¬ x.size ≤ 12)]; rfl
    · rw [if_neg h12, decide_eq_true (by omega : x.size ≤ 12), if_pos (by omega), Bool.true_and, Bool.true_and]
      have hr : ∀ b, r20_Bucket.j0 (k + 1) x b = if b = true then some 15 else some (told (allB (g2 x) x.size 0)) := by
        intro b
        show (if b = true then some 15 else r20_Bucket.l0 k x 0) = _
        rw [show r20_Bucket.l0 k x 0 = some (told (allB (g2 x) x.size 0)) from rB x (by omega) x.size 0 k (by omega) (by omega)]
      rw [plain_f, wr_in _ (by omega), if_pos (by omega : (0 : Int) ≤ (x.size : Int) - 1), if_pos (by omega : (x.size : Int) - 1 < (x.size : Int)), plain_f]
      simp only [Option.bind_some, hr]
      have e : allB (g1 x) x.size 0 = (plainB (bt x 0) && plainB (bt x ((x.size : Int) - 1)) && allB (g2 x) x.size 0) := by
        rw [Bool.eq_iff_iff]
        simp only [Bool.and_eq_true, allB_iff]
        have hlast : bt x ((x.size : Int) - 1) = bt x ((x.size - 1 : Nat) : Int) := by congr 1; omega
        have hfirst : bt x 0 = bt x ((0 : Nat) : Int) := rfl
        rw [hlast, hfirst]
        constructor
        · intro h
          refine ⟨⟨?_, ?_⟩, fun j h1 h2 => ?_⟩
          · have := h 0 (by omega) (by omega)
            simpa [g1] using this
          · have := h (x.size - 1) (by omega) (by omega)
            unfold g1 at this
            rw [decide_eq_false (by omega : ¬ x.size - 1 + 1 < x.size), Bool.and_false, Bool.and_false, Bool.or_false] at this
            exact this
          · have := h j h1 h2
            unfold g1 at this
            unfold g2
            rw [Bool.or_eq_true] at this ⊢
            rcases this with this | this
            · exact .inl this
            · rw [Bool.and_eq_true] at this
              exact .inr this.1
        · rintro ⟨⟨h0, h1⟩, h2⟩ j hj1 hj2
          have := h2 j hj1 hj2
          unfold g1
          by_cases e0 : j = 0
          · subst e0; rw [h0]; rfl
          · by_cases e1 : j = x.size - 1
            · subst e1; rw [h1]; rfl
            · unfold g2 at this
              rw [decide_eq_true (by omega : 0 < j), decide_eq_true (by omega : j + 1 < x.size)]
              simpa using this
      rw [e]
      cases plainB (bt x 0) <;> cases plainB (bt x ((x.size : Int) - 1)) <;> rfl
theorem objOk_all (x : ByteArray) : objOk (bytesOf x) = allB (fun j => decide (33 ≤ bt x j) && decide (bt x j ≤ 126)) x.size 0 := by
  rw [Bool.eq_iff_iff, allB_iff]
  unfold objOk
  rw [List.all_eq_true]
  constructor
  · intro h j _ hj
    refine h (bt x j) ?_
    rw [← rd_bytesOf]
    unfold rd
    rw [List.mem_iff_getElem]
    exact ⟨j, by rw [bytesOf_length]; omega, by simp [List.getD_eq_getElem?_getD, List.getElem?_eq_getElem (show j < (bytesOf x).length by rw [bytesOf_length]; omega)]⟩
  · intro h c hc
    obtain ⟨j, hj, rfl⟩ := mem_bytesOf hc
    exact h j (by omega) (by omega)
theorem robject_f (x : ByteArray) : Ev (fun k => r20_Object.f k x) (told (oOk x)) := by
  refine ⟨100, fun k hk => ?_⟩
  obtain ⟨k, rfl⟩ : ∃ j, k = j + 1 := ⟨k - 1, by omega⟩
  show r20_Object.f (k + 1) x = some (told (oOk x))
  unfold r20_Object.f oOk
  by_cases h1 : (x.size : Int) < 1
  · rw [if_pos h1, decide_eq_false (by omega : ¬ 1 ≤ x.size)]; rfl
  · rw [if_neg h1, decide_eq_true (by omega : 1 ≤ x.size)]
    by_cases h2 : (x.size : Int) > 32
    · rw [decide_eq_true h2, decide_eq_false (by omega : ¬ x.size ≤ 32)]; rfl
    · rw [decide_eq_false h2, decide_eq_true (by omega : x.size ≤ 32)]
      show (if false = true then some 15 else r20_Object.l0 k x 0) = _
      rw [show r20_Object.l0 k x 0 = _ from rO x (by omega) x.size 0 k (by omega) (by omega), objOk_all]
      rfl
/-! ### The reference's numbers and parts -/
theorem rnums_f (a : Int) : r21_nums.f a = some (nm a) := by
  unfold r21_nums.f nm
  by_cases h1 : a < 1
  · rw [if_pos h1, if_neg (by omega), if_neg (by omega), if_neg (by omega), if_neg (by omega), if_neg (by omega), if_neg (by omega)]
  · by_cases h2 : a > 6
    · rw [if_neg h1, if_pos h2, if_neg (by omega), if_neg (by omega), if_neg (by omega), if_neg (by omega), if_neg (by omega), if_neg (by omega)]
    · have : a = 1 ∨ a = 2 ∨ a = 3 ∨ a = 4 ∨ a = 5 ∨ a = 6 := by omega
      rcases this with rfl | rfl | rfl | rfl | rfl | rfl <;> simp [wrap64, rd]
theorem rnumbers_f (a : Int) (b c : ByteArray) (l : List Int) (n : Int) (hl : l.length ≤ 1000) : ∀ (r j : Nat), l.length - j = r → j ≤ l.length → Ev (fun k => r21_numbers.l0 k n (j : Int) a b c l) ((l.drop j).all (fun x => decide (0 ≤ x)) && decide ((l.length : Int) ≤ n))
  | r, j, hr, hj => by
    by_cases hjl : j < l.length
    · rw [rd_drop l j hjl]
      by_cases hx : rd l (j : Int) < 0
      · have e : ((rd l (j : Int) :: l.drop (j + 1)).all fun x => decide (0 ≤ x)) = false := by
          rw [List.all_cons, decide_eq_false (by omega), Bool.false_and]
        rw [e, Bool.false_and]
        refine Ev.succ (G := fun _ => some false) (fun k => ?_) (Ev.const _)
        simp only [r21_numbers.l0]
        rw [if_pos (by omega), if_pos (by omega), if_pos hx]
      · have ih := rnumbers_f a b c l n hl (r - 1) (j + 1) (by omega) (by omega)
        have e : ((rd l (j : Int) :: l.drop (j + 1)).all fun x => decide (0 ≤ x)) = (l.drop (j + 1)).all (fun x => decide (0 ≤ x)) := by
          rw [List.all_cons, decide_eq_true (by omega), Bool.true_and]
        rw [e]
        refine Ev.succ (fun k => ?_) ih
        simp only [r21_numbers.l0]
        rw [if_pos (by omega), if_pos (by omega), if_neg hx, wr_one j (by omega)]
    · rw [List.drop_eq_nil_of_le (by omega), List.all_nil, Bool.true_and]
      refine Ev.succ (G := fun _ => some (decide ((l.length : Int) ≤ n))) (fun k => ?_) (Ev.const _)
      simp only [r21_numbers.l0]
      rw [if_neg (by omega)]
  termination_by r => r
  decreasing_by omega
theorem rparts_l0 (a : Int) (b c : ByteArray) (l : List Int) (hl : l.length ≤ 1000) : ∀ (r j : Nat) (ps : List S91), l.length - j = r → j ≤ l.length → ps.length ≤ 10 + j → Ev (fun k => r21_parts.l0 k ps (j : Int) a b c l) (ps ++ (l.drop j).map (numP a))
  | r, j, ps, hr, hj, hp => by
    by_cases hjl : j < l.length
    · rw [rd_drop l j hjl, List.map_cons]
      have ih := rparts_l0 a b c l hl (r - 1) (j + 1) (ps ++ [numP a (rd l (j : Int))]) (by omega) (by omega) (by simp; omega)
      rw [List.append_assoc] at ih
      refine Ev.succ (fun k => ?_) ih
      simp only [r21_parts.l0]
      rw [if_pos (by omega), if_pos (by omega), wr_one j (by omega)]
      unfold numP
      by_cases e : a = 2
      · rw [if_pos e, if_pos (by omega), if_pos e]
      · rw [if_neg e, if_pos (by omega), if_neg e]
    · rw [List.drop_eq_nil_of_le (by omega), List.map_nil, List.append_nil]
      refine Ev.succ (G := fun _ => some ps) (fun k => ?_) (Ev.const _)
      simp only [r21_parts.l0]
      rw [if_neg (by omega)]
  termination_by r => r
  decreasing_by omega
theorem rparts_f (a : Int) (b c : ByteArray) (l : List Int) (h0 : 1 ≤ a) (h1 : a ≤ 6) (hl : l.length ≤ 1000) : Ev (fun k => r21_parts.f k a b c l) (keyParts a b c l) := by
  unfold r21_parts.f keyParts
  rw [wr_in _ (by omega)]
  refine Ev.congr (fun k => (if_pos (by omega)).trans ((if_pos (by omega)).trans ((if_pos (by omega)).trans (Option.bind_some _ _)))) ?_
  have key : ∀ ps : List S91, ps.length ≤ 3 → Ev (fun k => r21_parts.j0 k ps a b c l) (ps ++ textsP [c] ++ l.map (numP a)) := by
    intro ps hp
    by_cases hc : c.toList = []
    · rw [texts_nil hc]
      refine Ev.succ (fun k => ?_) (Ev.succ (F := fun k => r21_parts.j1 k ps a b c l) (G := fun k => r21_parts.l0 k ps 0 a b c l) (fun k => by simp only [r21_parts.j1]) (show Ev (fun k => r21_parts.l0 k ps 0 a b c l) _ from by
        have := rparts_l0 a b c l hl _ 0 ps rfl (by omega) (by omega)
        rw [List.drop_zero] at this
        show Ev _ (ps ++ [] ++ l.map (numP a))
        rw [List.append_nil]
        exact this))
      simp only [r21_parts.j0]
      rw [if_pos hc]
    · rw [texts_cons hc]
      refine Ev.succ (fun k => ?_) (Ev.succ (F := fun k => r21_parts.j1 k (ps ++ [(⟨1, 0, c⟩ : S91)]) a b c l) (G := fun k => r21_parts.l0 k (ps ++ [(⟨1, 0, c⟩ : S91)]) 0 a b c l) (fun k => by simp only [r21_parts.j1]) (show Ev (fun k => r21_parts.l0 k (ps ++ [(⟨1, 0, c⟩ : S91)]) 0 a b c l) _ from by
        have := rparts_l0 a b c l hl _ 0 (ps ++ [(⟨1, 0, c⟩ : S91)]) rfl (by omega) (by simp; omega)
        rw [List.drop_zero] at this
        exact this))
      simp only [r21_parts.j0]
      rw [if_neg hc, if_pos (by omega)]
  by_cases hb : b.toList = []
  · rw [texts_nil hb]
    exact Ev.congr (fun k => if_pos hb) (key [(⟨1, 0, letterOf a⟩ : S91)] (by simp))
  · rw [texts_cons hb]
    refine Ev.congr (fun k => (if_neg hb).trans (if_pos (by simp))) ?_
    have := key [(⟨1, 0, letterOf a⟩ : S91), (⟨1, 0, b⟩ : S91)] (by simp)
    exact this
end Go.Proofs.YtbdfmjgndeigpaaDoor.Pure
