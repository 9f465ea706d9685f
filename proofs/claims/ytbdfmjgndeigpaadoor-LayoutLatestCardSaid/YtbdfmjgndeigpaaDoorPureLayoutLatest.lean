import Derived.Test.YtbdfmjgndeigpaaDoorPureLayoutSpans
import Derived.Test.YtbdfmjgndeigpaaDoorPx18
namespace Go.Proofs.YtbdfmjgndeigpaaDoor.Pure
open Go.RowKit Go.Proofs.YtbdfmjgndeigpaaDoor.P Go.Proofs.YtbdfmjgndeigpaaDoorW.PrintWords Go.Proofs.YtbdfmjgndeigpaaDoorW.PrintLast
set_option linter.unusedVariables false
theorem flat_snoc (a : Int) (b c : ByteArray) (l : List Int) (n : Int) : keyBytes a b c (l ++ [n]) = keyBytes a b c l ++ partB (numP a n) := by
  unfold keyBytes keyParts
  rw [List.map_append, ← List.append_assoc, flat_app, List.map_cons, List.map_nil, flat_cons]
  show _ ++ (partB (numP a n) ++ []) = _
  rw [List.append_nil]
theorem numsOk_last {a : Int} {c : ByteArray} {l : List Int} {n m : Int} (hn : 0 ≤ n) (hm : 0 ≤ m) : numsOk a c (l ++ [n]) = numsOk a c (l ++ [m]) := by
  unfold numsOk
  rw [List.all_append, List.all_append, List.length_append, List.length_append]
  simp [hn, hm]
/-- Two keys that differ by their last number at most. -/
theorem latest_keys {a : Int} {b c : ByteArray} {l : List Int} {n m : Int} (hn : goodN n) (hm : goodN m) :
    (keyR a b c (l ++ [n])).2 = (keyR a b c (l ++ [m])).2 ∧ ((keyR a b c (l ++ [n])).2 = 0 → (∀ x ∈ l, x < 9223372036854775808) →
      (Op.bytesLess (keyR a b c (l ++ [n])).1.toList (keyR a b c (l ++ [m])).1.toList = (if a = 2 then decide (n > m) else decide (n < m))) ∧ ((keyR a b c (l ++ [n])).1.toList == (keyR a b c (l ++ [m])).1.toList) = (n == m)) := by
  unfold keyR
  rw [numsOk_last hn.1 hm.1, show (l ++ [n]).length = (l ++ [m]).length by simp]
  by_cases k1 : numsOk a c (l ++ [m]) = true ∧ ((l ++ [m]).length : Int) = nm a
  · rw [if_pos k1, if_pos k1]
    by_cases k2 : bOk b = true
    · rw [if_pos k2, if_pos k2]
      by_cases k3 : a = 1 ∨ oOk c = true
      · rw [if_pos k3, if_pos k3]
        refine ⟨rfl, fun _ hl => ?_⟩
        obtain ⟨q0, q1, q2, q3, q4, q5⟩ := numsOk_kind k1.1
        have hc1n : nameOr oOk c := by
          rcases k3 with h | h
          · exact .inl (q5 h)
          · exact .inr h
        have hb : ∀ x, goodN x → byteL (keyBytes a b c (l ++ [x])) := fun x hx => flat_byte _ (keyParts_good q0 q1 (.inr k2) hc1n (fun y hy => by
          rcases List.mem_append.1 hy with hy | hy
          · exact ⟨q4 y (by simp [hy]), hl y hy⟩
          · obtain rfl : y = x := by simpa using hy
            exact hx))
        have h1 := hb n hn
        have h2 := hb m hm
        show (Op.bytesLess (strOfNums (keyBytes a b c (l ++ [n]))).toList (strOfNums (keyBytes a b c (l ++ [m]))).toList = _) ∧ ((strOfNums (keyBytes a b c (l ++ [n]))).toList == (strOfNums (keyBytes a b c (l ++ [m]))).toList) = _
        constructor
        · rw [less_nums _ _ h1 h2, flat_snoc, flat_snoc, ltI_app]
          by_cases e : a = 2
          · rw [if_pos e]
            have e1 : ∀ x, partB (numP a x) = 4 :: num8 (unum x) 255 := fun x => by unfold numP; rw [if_pos e]; rfl
            rw [e1, e1]
            exact (ltI_app [4] _ _).trans (num8_lt hn hm).2
          · rw [if_neg e]
            have e1 : ∀ x, partB (numP a x) = 3 :: num8 (unum x) 0 := fun x => by unfold numP; rw [if_neg e]; rfl
            rw [e1, e1]
            exact (ltI_app [3] _ _).trans (num8_lt hn hm).1
        · rw [Bool.eq_iff_iff, beq_iff_eq, beq_iff_eq]
          constructor
          · intro h
            have e := nums_inj h1 h2 h
            rw [flat_snoc, flat_snoc] at e
            have e2 := List.append_cancel_left e
            exact numP_inj (part_cancel (numP_good hn) (numP_good hm) (A := []) (B := []) (by rw [e2]; exact List.prefix_refl _)).1
          · intro h
            rw [h]
      · rw [if_neg k3, if_neg k3]
        exact ⟨rfl, fun h => absurd h (by decide)⟩
    · rw [if_neg k2, if_neg k2]
      exact ⟨rfl, fun h => absurd h (by decide)⟩
  · rw [if_neg k1, if_neg k1]
    exact ⟨rfl, fun h => absurd h (by decide)⟩
theorem LayoutLatest (a0 : Int) (b0 c0 : ByteArray) (l0 : List Int) (n m : Int) (w0 : (Lit.int .i64 a0).wf = true) (y0 : b0.size ≤ 9223372036854775807) (z0 : c0.size ≤ 9223372036854775807) (x0 : ∀ x ∈ l0, (Lit.int .i64 x).wf = true)
    (w1 : (Lit.int .i64 n).wf = true) (w2 : (Lit.int .i64 m).wf = true) : ∃ k, w21_LayoutLatest.f k a0 b0 c0 l0 n m = some true := by
  suffices h : Ev (fun k => w21_LayoutLatest.f k a0 b0 c0 l0 n m) true by
    obtain ⟨K, h⟩ := h
    exact ⟨K, h K (Nat.le_refl _)⟩
  have jt : Ev (fun k => w21_LayoutLatest.j0 k n m true a0 b0 c0 l0) true := Ev.succ (fun k => rfl) (ends_lives (fun k => rfl))
  unfold w21_LayoutLatest.f
  simp only [few_f, Option.bind_some]
  by_cases f0 : l0.length ≤ 20 ∧ b0.size ≤ 1000 ∧ c0.size ≤ 1000
  · simp only [decide_eq_true f0, if_true]
    by_cases hn : n < 0
    · exact Ev.congr (fun k => if_pos hn) jt
    · refine Ev.congr (fun k => if_neg hn) ?_
      by_cases hm : m < 0
      · exact Ev.congr (fun k => if_pos hm) jt
      · refine Ev.congr (fun k => if_neg hm) ?_
        by_cases hl : l0.length = 0
        · have e : ((l0.length : Int) == 0) = true := by rw [hl]; rfl
          rw [e]
          exact jt
        · have e : ((l0.length : Int) == 0) = false := by rw [beq_eq_false_iff_ne]; omega
          rw [e]
          have gn : goodN n := ⟨by omega, wf_lt w1⟩
          have gm : goodN m := ⟨by omega, wf_lt w2⟩
          have hw : wrap64 ((l0.length : Int) - 1) = ((l0.length - 1 : Nat) : Int) := by rw [wr_in _ (by omega)]; omega
          have htk : (l0.take (l0.length - 1)).length ≤ 20 := by rw [List.length_take]; omega
          generalize hl' : l0.take (l0.length - 1) = l' at htk
          have hlt : ∀ x ∈ l', x < 9223372036854775808 := fun x hx => wf_lt (x0 x (by rw [← hl'] at hx; exact List.mem_of_mem_take hx))
          obtain ⟨hk1, hk2⟩ := latest_keys (a := a0) (b := b0) (c := c0) (l := l') gn gm
          refine Ev.succ (G := fun k => (layout_Key.f k a0 b0 c0 (l' ++ [n])).bind fun bt272 => ((layout_Key.f k a0 b0 c0 (l' ++ [m])).bind fun bt274 => (if bt272.2 = 0 then (w21_LayoutLatest.j1 k n m bt272.1 bt272.2 bt274.1 bt274.2 (bt274.2 != 0) a0 b0 c0 l0) else (w21_LayoutLatest.j1 k n m bt272.1 bt272.2 bt274.1 bt274.2 true a0 b0 c0 l0)))) (fun k => ?_) ?_
          · simp only [w21_LayoutLatest.j0]
            rw [if_neg (by decide), hw, Int.toNat_natCast, hl']
            simp only [Option.bind_some, List.nil_append, List.length_nil]
            rw [if_pos (by omega), if_pos (by omega), if_pos (by omega), if_pos (by omega), if_pos (by omega), if_pos (by omega)]
          · refine Ev.bind (key_f a0 b0 c0 (l' ++ [n]) (by simp; omega)) ?_
            refine Ev.bind (key_f a0 b0 c0 (l' ++ [m]) (by simp; omega)) ?_
            have je : ∀ x y, Ev (fun k => w21_LayoutLatest.j1 k n m x (keyR a0 b0 c0 (l' ++ [n])).2 y (keyR a0 b0 c0 (l' ++ [m])).2 true a0 b0 c0 l0) true := fun x y => Ev.succ (G := fun k => (if (keyR a0 b0 c0 (l' ++ [n])).2 = (keyR a0 b0 c0 (l' ++ [m])).2 then ((w21_lives.f k).bind fun t276 => (some t276)) else (some false))) (fun k => rfl) (Ev.congr (fun k => if_pos hk1) (ends_lives (fun k => rfl)))
            by_cases h0 : (keyR a0 b0 c0 (l' ++ [n])).2 = 0
            · refine Ev.congr (fun k => if_pos h0) ?_
              have e0 : ((keyR a0 b0 c0 (l' ++ [m])).2 != 0) = false := by rw [← hk1, h0]; rfl
              rw [e0]
              obtain ⟨hA, hB⟩ := hk2 h0 hlt
              refine Ev.succ (G := fun k => (if a0 = 2 then (if ((Op.bytesLess (keyR a0 b0 c0 (l' ++ [n])).1.toList (keyR a0 b0 c0 (l' ++ [m])).1.toList) == (decide (n > m))) = true then (if (((keyR a0 b0 c0 (l' ++ [n])).1.toList == (keyR a0 b0 c0 (l' ++ [m])).1.toList) == (n == m)) = true then ((w21_lives.f k).bind fun t277 => (some t277)) else (some false)) else (some false)) else (if ((Op.bytesLess (keyR a0 b0 c0 (l' ++ [n])).1.toList (keyR a0 b0 c0 (l' ++ [m])).1.toList) == (decide (n < m))) = true then (if (((keyR a0 b0 c0 (l' ++ [n])).1.toList == (keyR a0 b0 c0 (l' ++ [m])).1.toList) == (n == m)) = true then ((w21_lives.f k).bind fun t278 => (some t278)) else (some false)) else (some false)))) (fun k => rfl) ?_
              by_cases e2 : a0 = 2
              · rw [if_pos e2] at hA
                refine Ev.congr (fun k => (if_pos e2).trans ((if_pos ?_).trans (if_pos ?_))) (ends_lives (fun k => rfl))
                · rw [hA]; exact beq_self_eq_true _
                · rw [hB]; exact beq_self_eq_true _
              · rw [if_neg e2] at hA
                refine Ev.congr (fun k => (if_neg e2).trans ((if_pos ?_).trans (if_pos ?_))) (ends_lives (fun k => rfl))
                · rw [hA]; exact beq_self_eq_true _
                · rw [hB]; exact beq_self_eq_true _
            · exact Ev.congr (fun k => if_neg h0) (je _ _)
  · simp only [decide_eq_false f0]
    exact Ev.congr (fun k => if_neg (by decide)) jt
end Go.Proofs.YtbdfmjgndeigpaaDoor.Pure
