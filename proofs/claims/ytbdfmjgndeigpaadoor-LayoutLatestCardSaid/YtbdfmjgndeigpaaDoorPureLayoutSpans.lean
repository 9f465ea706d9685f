import Derived.Test.YtbdfmjgndeigpaaDoorPureKeyLives
import Derived.Test.YtbdfmjgndeigpaaDoorPx17
namespace Go.Proofs.YtbdfmjgndeigpaaDoor.Pure
open Go.RowKit Go.Proofs.YtbdfmjgndeigpaaDoor.P Go.Proofs.YtbdfmjgndeigpaaDoorW.PrintWords Go.Proofs.YtbdfmjgndeigpaaDoorW.PrintLast
set_option linter.unusedVariables false
theorem begins_l0 (a0 : Int) (b0 c0 : ByteArray) (l0 : List Int) (a1 : Int) (b1 c1 : ByteArray) (l1 : List Int) (hl : l0.length ≤ l1.length) (hn : l0.length ≤ 1000) : ∀ (r j : Nat), l0.length - j = r → j ≤ l0.length → Ev (fun k => w21_begins.l0 k (j : Int) a0 b0 c0 l0 a1 b1 c1 l1) (decide (l0.drop j <+: l1.drop j))
  | r, j, hr, hj => by
    by_cases hjl : j < l0.length
    · have hjl1 : j < l1.length := by omega
      rw [rd_drop l0 j hjl, rd_drop l1 j hjl1]
      by_cases e : rd l0 (j : Int) = rd l1 (j : Int)
      · have ih := begins_l0 a0 b0 c0 l0 a1 b1 c1 l1 hl hn (r - 1) (j + 1) (by omega) (by omega)
        have e2 : decide (rd l0 (j : Int) :: l0.drop (j + 1) <+: rd l1 (j : Int) :: l1.drop (j + 1)) = decide (l0.drop (j + 1) <+: l1.drop (j + 1)) := by
          rw [decide_eq_decide, List.cons_prefix_cons]
          exact ⟨fun h => h.2, fun h => ⟨e, h⟩⟩
        rw [e2]
        refine Ev.succ (fun k => ?_) ih
        simp only [w21_begins.l0]
        rw [if_pos (by omega), if_pos (by omega), if_pos (by omega), if_pos e, wr_one j (by omega)]
      · rw [decide_eq_false (by rw [List.cons_prefix_cons]; exact fun h => e h.1)]
        refine Ev.succ (G := fun _ => some false) (fun k => ?_) (Ev.const _)
        simp only [w21_begins.l0]
        rw [if_pos (by omega), if_pos (by omega), if_pos (by omega), if_neg e]
    · rw [List.drop_eq_nil_of_le (by omega), decide_eq_true List.nil_prefix]
      refine Ev.succ (G := fun _ => some true) (fun k => ?_) (Ev.const _)
      simp only [w21_begins.l0]
      rw [if_neg (by omega)]
  termination_by r => r
  decreasing_by omega
theorem begins_f (a0 : Int) (b0 c0 : ByteArray) (l0 : List Int) (a1 : Int) (b1 c1 : ByteArray) (l1 : List Int) (hn : l0.length ≤ 1000) : Ev (fun k => w21_begins.f k a0 b0 c0 l0 a1 b1 c1 l1) (decide (beginsP a0 b0 c0 l0 a1 b1 c1 l1)) := by
  have j0 : Ev (fun k => w21_begins.j0 k (decide ((l0.length : Int) > (l1.length : Int))) a0 b0 c0 l0 a1 b1 c1 l1) (decide (l0 <+: l1)) := by
    by_cases h : (l0.length : Int) > (l1.length : Int)
    · rw [decide_eq_true h, decide_eq_false (fun hp => by have := hp.length_le; omega)]
      exact Ev.succ (G := fun _ => some false) (fun k => rfl) (Ev.const _)
    · rw [decide_eq_false h]
      exact Ev.succ (fun k => rfl) (begins_l0 a0 b0 c0 l0 a1 b1 c1 l1 (by omega) hn _ 0 rfl (by omega))
  have j1 : Ev (fun k => w21_begins.j0 k true a0 b0 c0 l0 a1 b1 c1 l1) false := Ev.succ (G := fun _ => some false) (fun k => rfl) (Ev.const _)
  have he : ∀ p : Prop, [Decidable p] → (beginsP a0 b0 c0 l0 a1 b1 c1 l1 ↔ p) → decide (beginsP a0 b0 c0 l0 a1 b1 c1 l1) = decide p := fun p _ h => by rw [decide_eq_decide]; exact h
  have hf : ¬ beginsP a0 b0 c0 l0 a1 b1 c1 l1 → decide (beginsP a0 b0 c0 l0 a1 b1 c1 l1) = false := fun h => decide_eq_false h
  unfold beginsP at he hf ⊢
  by_cases ea : a0 = a1
  · by_cases eb : b0.toList = []
    · by_cases ec : c0.toList = []
      · rw [he (l0 <+: l1) ⟨fun h => h.2.2.2, fun h => ⟨ea, .inl eb, .inl ec, h⟩⟩]
        exact Ev.congr (fun k => ((if_pos ea).trans (if_pos eb)).trans (if_pos ec)) j0
      · by_cases ec2 : c0.toList = c1.toList
        · rw [he (l0 <+: l1) ⟨fun h => h.2.2.2, fun h => ⟨ea, .inl eb, .inr ec2, h⟩⟩]
          exact Ev.congr (fun k => (((if_pos ea).trans (if_pos eb)).trans (if_neg ec)).trans (if_pos ec2)) j0
        · rw [hf (fun h => h.2.2.1.elim ec ec2)]
          exact Ev.congr (fun k => (((if_pos ea).trans (if_pos eb)).trans (if_neg ec)).trans (if_neg ec2)) j1
    · by_cases eb2 : b0.toList = b1.toList
      · by_cases ec : c0.toList = []
        · rw [he (l0 <+: l1) ⟨fun h => h.2.2.2, fun h => ⟨ea, .inr eb2, .inl ec, h⟩⟩]
          exact Ev.congr (fun k => (((if_pos ea).trans (if_neg eb)).trans (if_pos eb2)).trans (if_pos ec)) j0
        · by_cases ec2 : c0.toList = c1.toList
          · rw [he (l0 <+: l1) ⟨fun h => h.2.2.2, fun h => ⟨ea, .inr eb2, .inr ec2, h⟩⟩]
            exact Ev.congr (fun k => ((((if_pos ea).trans (if_neg eb)).trans (if_pos eb2)).trans (if_neg ec)).trans (if_pos ec2)) j0
          · rw [hf (fun h => h.2.2.1.elim ec ec2)]
            exact Ev.congr (fun k => ((((if_pos ea).trans (if_neg eb)).trans (if_pos eb2)).trans (if_neg ec)).trans (if_neg ec2)) j1
      · rw [hf (fun h => h.2.1.elim eb eb2)]
        exact Ev.congr (fun k => ((if_pos ea).trans (if_neg eb)).trans (if_neg eb2)) j1
  · rw [hf (fun h => ea h.1)]
    exact Ev.congr (fun k => if_neg ea) j1
theorem ends_lives {F : Nat → Option Bool} (h : ∀ k, F k = (w21_lives.f k).bind fun t => some t) : Ev F true := Ev.congr h (Ev.bind lives_f (Ev.const _))
/-- A span that is told, and a key: the one begins with the other, or not. -/
theorem span_key {a0 a1 : Int} {b0 c0 b1 c1 : ByteArray} {l0 l1 : List Int} (h0 : (spanR a0 b0 c0 l0).2.2 = 0) (h1 : (keyR a1 b1 c1 l1).2 = 0) (g0 : ∀ x ∈ l0, x < 9223372036854775808) (g1 : ∀ x ∈ l1, x < 9223372036854775808) :
    (Op.bytesLess (keyR a1 b1 c1 l1).1.toList (spanR a0 b0 c0 l0).1.toList = false ∧ Op.bytesLess (keyR a1 b1 c1 l1).1.toList (spanR a0 b0 c0 l0).2.1.toList = true) ↔ beginsP a0 b0 c0 l0 a1 b1 c1 l1 := by
  unfold spanR at h0 ⊢
  unfold keyR at h1 ⊢
  by_cases s1 : numsOk a0 c0 l0 = true ∧ ¬ (b0.toList = [] ∧ c0.toList ≠ []) ∧ ¬ (c0.toList = [] ∧ l0 ≠ [])
  · rw [if_pos s1] at h0 ⊢
    by_cases s2 : (b0.toList = [] ∨ bOk b0 = true) ∧ (c0.toList = [] ∨ oOk c0 = true)
    · rw [if_pos s2]
      by_cases k1 : numsOk a1 c1 l1 = true ∧ (l1.length : Int) = nm a1
      · rw [if_pos k1] at h1 ⊢
        by_cases k2 : bOk b1 = true
        · rw [if_pos k2] at h1 ⊢
          by_cases k3 : a1 = 1 ∨ oOk c1 = true
          · rw [if_pos k3]
            obtain ⟨p0, p1, p2, p3, p4, p5⟩ := numsOk_kind s1.1
            obtain ⟨q0, q1, q2, q3, q4, q5⟩ := numsOk_kind k1.1
            have hb1 := bOk_pos k2
            have hb1' : b1.toList ≠ [] := fun h => by have := nil_size h; omega
            have hc1 : a1 = 1 ↔ c1.toList = [] := by
              constructor
              · exact q5
              · intro h
                refine k3.elim id (fun h2 => ?_)
                have := oOk_pos h2
                have := nil_size h
                omega
            have hc1n : nameOr oOk c1 := by
              rcases k3 with h | h
              · exact .inl (q5 h)
              · exact .inr h
            have hl1 : a1 = 1 → l1 = [] := by
              intro h
              have := k1.2
              rw [h] at this
              have e : nm 1 = 0 := by decide
              rw [e] at this
              exact List.eq_nil_of_length_eq_zero (by omega)
            have hg0 := keyParts_good p0 p1 s2.1 s2.2 (fun n hn => ⟨p4 n hn, g0 n hn⟩)
            have hg1 := keyParts_good q0 q1 (.inr k2) hc1n (fun n hn => ⟨q4 n hn, g1 n hn⟩)
            have hy0 : byteL (keyBytes a0 b0 c0 l0) := flat_byte _ hg0
            have hy1 : byteL (keyBytes a1 b1 c1 l1) := flat_byte _ hg1
            have hff : strOfNums (keyBytes a0 b0 c0 l0) ++ ⟨#[255]⟩ = strOfNums (keyBytes a0 b0 c0 l0 ++ [255]) := by
              apply tl_inj
              rw [Lib.toList_data, Lib.toList_data, strOfNums_data]
              simp [strOfNums]
            show (Op.bytesLess (strOfNums (keyBytes a1 b1 c1 l1)).toList (strOfNums (keyBytes a0 b0 c0 l0)).toList = false ∧ Op.bytesLess (strOfNums (keyBytes a1 b1 c1 l1)).toList (strOfNums (keyBytes a0 b0 c0 l0) ++ ⟨#[255]⟩ : ByteArray).toList = true) ↔ _
            rw [hff, less_nums _ _ hy1 hy0, less_nums _ _ hy1 (byteL_app.2 ⟨hy0, fun c hc => by have : c = 255 := (by simpa using hc); omega⟩)]
            refine (flat_between hg0 hg1).trans ?_
            refine parts_prefix ⟨p0, p1⟩ ⟨q0, q1⟩ (fun h => ?_) (fun h => ?_) hb1' hc1 hl1 p5
            · exact Classical.byContradiction fun h2 => s1.2.1 ⟨h, h2⟩
            · exact Classical.byContradiction fun h2 => s1.2.2 ⟨h, h2⟩
          · rw [if_neg k3] at h1
            exact absurd h1 (by decide)
        · rw [if_neg k2] at h1
          exact absurd h1 (by decide)
      · rw [if_neg k1] at h1
        exact absurd h1 (by decide)
    · rw [if_neg s2] at h0
      exact absurd h0 (by decide)
  · rw [if_neg s1] at h0
    exact absurd h0 (by decide)
theorem wf_lt {x : Int} (h : (Lit.int .i64 x).wf = true) : x < 9223372036854775808 := by
  simp [Lit.wf, IntKind.max, IntKind.min, IntKind.bits, IntKind.signed] at h
  omega
theorem few_f (a : Int) (b c : ByteArray) (l : List Int) : w21_few.f a b c l = some (decide (l.length ≤ 20 ∧ b.size ≤ 1000 ∧ c.size ≤ 1000)) := by
  unfold w21_few.f
  by_cases h1 : l.length ≤ 20
  · by_cases h2 : b.size ≤ 1000
    · by_cases h3 : c.size ≤ 1000
      · rw [if_pos (by omega), if_pos (by omega), decide_eq_true (by omega), decide_eq_true ⟨h1, h2, h3⟩]
      · rw [if_pos (by omega), if_pos (by omega), decide_eq_false (by omega), decide_eq_false (fun h => h3 h.2.2)]
    · rw [if_pos (by omega), if_neg (by omega), decide_eq_false (fun h => h2 h.2.1)]
  · rw [if_neg (by omega), decide_eq_false (fun h => h1 h.1)]
theorem LayoutSpans (a0 : Int) (b0 c0 : ByteArray) (l0 : List Int) (a1 : Int) (b1 c1 : ByteArray) (l1 : List Int) (w0 : (Lit.int .i64 a0).wf = true) (y0 : b0.size ≤ 9223372036854775807) (z0 : c0.size ≤ 9223372036854775807) (x0 : ∀ x ∈ l0, (Lit.int .i64 x).wf = true)
    (w1 : (Lit.int .i64 a1).wf = true) (y1 : b1.size ≤ 9223372036854775807) (z1 : c1.size ≤ 9223372036854775807) (x1 : ∀ x ∈ l1, (Lit.int .i64 x).wf = true) : ∃ k, w21_LayoutSpans.f k a0 b0 c0 l0 a1 b1 c1 l1 = some true := by
  suffices h : Ev (fun k => w21_LayoutSpans.f k a0 b0 c0 l0 a1 b1 c1 l1) true by
    obtain ⟨K, h⟩ := h
    exact ⟨K, h K (Nat.le_refl _)⟩
  have jt : Ev (fun k => w21_LayoutSpans.j0 k true a0 b0 c0 l0 a1 b1 c1 l1) true := Ev.succ (fun k => rfl) (ends_lives (fun k => rfl))
  unfold w21_LayoutSpans.f
  simp only [few_f, Option.bind_some]
  by_cases f0 : l0.length ≤ 20 ∧ b0.size ≤ 1000 ∧ c0.size ≤ 1000
  · simp only [decide_eq_true f0, if_true]
    by_cases f1 : l1.length ≤ 20 ∧ b1.size ≤ 1000 ∧ c1.size ≤ 1000
    · simp only [decide_eq_true f1]
      refine Ev.succ (G := fun k => (layout_Span.f k a0 b0 c0 l0).bind fun bt236 => ((layout_Key.f k a1 b1 c1 l1).bind fun bt240 => (if bt236.2.2 = 0 then (w21_LayoutSpans.j1 k bt240.1 (bt240.2 != 0) a0 b0 c0 l0 a1 b1 c1 l1 bt236.1 bt236.2.1) else (w21_LayoutSpans.j1 k bt240.1 true a0 b0 c0 l0 a1 b1 c1 l1 bt236.1 bt236.2.1)))) (fun k => rfl) ?_
      refine Ev.bind (span_f a0 b0 c0 l0 (by omega)) ?_
      refine Ev.bind (key_f a1 b1 c1 l1 (by omega)) ?_
      have jt1 : ∀ x x0 x1, Ev (fun k => w21_LayoutSpans.j1 k x true a0 b0 c0 l0 a1 b1 c1 l1 x0 x1) true := fun x x0 x1 => Ev.succ (fun k => rfl) (ends_lives (fun k => rfl))
      by_cases h0 : (spanR a0 b0 c0 l0).2.2 = 0
      · refine Ev.congr (fun k => if_pos h0) ?_
        by_cases h1 : (keyR a1 b1 c1 l1).2 = 0
        · have e : ((keyR a1 b1 c1 l1).2 != 0) = false := by rw [h1]; rfl
          rw [e]
          have hsk := span_key h0 h1 (fun x hx => wf_lt (x0 x hx)) (fun x hx => wf_lt (x1 x hx))
          refine Ev.succ (G := fun k => if ((Op.bytesLess (keyR a1 b1 c1 l1).1.toList (spanR a0 b0 c0 l0).1.toList) = true) then ((w21_begins.f k a0 b0 c0 l0 a1 b1 c1 l1).bind fun t243 => (if (false == t243) = true then ((w21_lives.f k).bind fun t244 => (some t244)) else (some false))) else ((w21_begins.f k a0 b0 c0 l0 a1 b1 c1 l1).bind fun t245 => (if ((Op.bytesLess (keyR a1 b1 c1 l1).1.toList (spanR a0 b0 c0 l0).2.1.toList) == t245) = true then ((w21_lives.f k).bind fun t246 => (some t246)) else (some false)))) (fun k => rfl) ?_
          cases hA : Op.bytesLess (keyR a1 b1 c1 l1).1.toList (spanR a0 b0 c0 l0).1.toList with
          | true =>
            rw [hA] at hsk
            have hb : ¬ beginsP a0 b0 c0 l0 a1 b1 c1 l1 := fun h => by have := (hsk.2 h).1; cases this
            refine Ev.congr (fun k => if_pos rfl) ?_
            have hbe := begins_f a0 b0 c0 l0 a1 b1 c1 l1 (by omega)
            rw [decide_eq_false hb] at hbe
            refine Ev.bind hbe ?_
            exact Ev.congr (fun k => if_pos (by decide)) (ends_lives (fun k => rfl))
          | false =>
            rw [hA] at hsk
            refine Ev.congr (fun k => if_neg (by decide)) ?_
            refine Ev.bind (begins_f a0 b0 c0 l0 a1 b1 c1 l1 (by omega)) ?_
            have hee : Op.bytesLess (keyR a1 b1 c1 l1).1.toList (spanR a0 b0 c0 l0).2.1.toList = decide (beginsP a0 b0 c0 l0 a1 b1 c1 l1) := by
              rw [Bool.eq_iff_iff, decide_eq_true_eq]
              exact ⟨fun h => hsk.1 ⟨rfl, h⟩, fun h => (hsk.2 h).2⟩
            refine Ev.congr (fun k => if_pos ?_) (ends_lives (fun k => rfl))
            rw [hee]
            exact beq_self_eq_true _
        · have e : ((keyR a1 b1 c1 l1).2 != 0) = true := by simpa using h1
          rw [e]
          exact jt1 _ _ _
      · refine Ev.congr (fun k => if_neg h0) (jt1 _ _ _)
    · simp only [decide_eq_false f1]
      exact jt
  · simp only [decide_eq_false f0]
    exact Ev.congr (fun k => if_neg (by decide)) jt
end Go.Proofs.YtbdfmjgndeigpaaDoor.Pure
