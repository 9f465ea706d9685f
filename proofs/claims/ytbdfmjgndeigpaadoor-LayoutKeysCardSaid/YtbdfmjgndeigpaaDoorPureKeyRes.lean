import Derived.Test.YtbdfmjgndeigpaaDoorPureKeyForm
namespace Go.Proofs.YtbdfmjgndeigpaaDoor.Pure
open Go.RowKit Go.Proofs.YtbdfmjgndeigpaaDoor.P Go.Proofs.YtbdfmjgndeigpaaDoorW.PrintWords Go.Proofs.YtbdfmjgndeigpaaDoorW.PrintLast Go.Proofs.YtbdfmjgndeigpaaDoorW.PrintMore
/-! ### Key and Span, told -/
def empty : ByteArray := ⟨#[]⟩
theorem numsOk_kind {a : Int} {c : ByteArray} {l : List Int} (h : numsOk a c l = true) : 1 ≤ a ∧ a ≤ 6 ∧ l.length ≤ 3 ∧ (l.length : Int) ≤ nm a ∧ (∀ x ∈ l, 0 ≤ x) ∧ (a = 1 → c.toList = []) := by
  unfold numsOk at h
  simp only [Bool.and_eq_true, List.all_eq_true, decide_eq_true_eq, Bool.or_eq_true, Bool.not_eq_true', decide_eq_false_iff_not, beq_iff_eq] at h
  obtain ⟨h1, h2, h3⟩ := h
  have h4 : 1 ≤ a ∧ a ≤ 6 ∧ nm a ≤ 3 := by
    unfold nm at h2 ⊢
    repeat' split at h2
    all_goals (try split)
    all_goals first | omega | (exfalso; omega) | skip
    all_goals (repeat' split) <;> omega
  exact ⟨h4.1, h4.2.1, by omega, h2, h1, fun e => h3.resolve_left (fun h => h e)⟩
/-- What Key tells. -/
def keyR (a : Int) (b c : ByteArray) (l : List Int) : ByteArray × Int :=
  if numsOk a c l = true ∧ (l.length : Int) = nm a then
    (if bOk b = true then (if a = 1 ∨ oOk c = true then (strOfNums (keyBytes a b c l), 0) else (empty, 15)) else (empty, 15))
  else (empty, 2)
theorem key_j0 (a : Int) (b c : ByteArray) (l : List Int) (t : Bool) (ht : t = !(decide (numsOk a c l = true ∧ (l.length : Int) = nm a))) : Ev (fun k => layout_Key.j0 k t a b c l) (keyR a b c l) := by
  unfold keyR
  by_cases h : numsOk a c l = true ∧ (l.length : Int) = nm a
  · rw [if_pos h]
    rw [decide_eq_true h] at ht
    subst ht
    obtain ⟨k0, k1, k2, k3, k4, k5⟩ := numsOk_kind h.1
    refine Ev.succ (G := fun k => (listing_Bucket.f k b).bind fun t172 => (if t172 = 0 then (if a = 1 then ((layout_encode.f k a b c l (([b, c] : List ByteArray))).bind fun t176 => (some (t176, 0))) else ((listing_Object.f c).bind fun t177 => (if t177 = 0 then ((layout_encode.f k a b c l (([b, c] : List ByteArray))).bind fun t181 => (some (t181, 0))) else (some ((⟨#[]⟩ : ByteArray), t177))))) else (some ((⟨#[]⟩ : ByteArray), t172)))) (fun k => rfl) ?_
    refine Ev.bind (bucket_f b) ?_
    cases hb : bOk b with
    | false => exact Ev.of (fun k => rfl)
    | true =>
      by_cases h1 : a = 1
      · rw [if_pos rfl, if_pos (.inl h1)]
        refine Ev.congr (fun k => (if_pos rfl).trans (if_pos h1)) ?_
        exact Ev.bind (encode_key k0 k1 (.inr hb) (.inl (k5 h1)) k2) (Ev.const _)
      · rw [if_pos rfl]
        refine Ev.congr (G := fun k => (listing_Object.f c).bind fun t177 => (if t177 = 0 then ((layout_encode.f k a b c l (([b, c] : List ByteArray))).bind fun t181 => (some (t181, 0))) else (some ((⟨#[]⟩ : ByteArray), t177)))) (fun k => (if_pos rfl).trans (if_neg h1)) ?_
        refine Ev.bind (Ev.of (fun _ => object_f c)) ?_
        cases hc : oOk c with
        | false => rw [if_neg (by simp [h1])]; exact Ev.of (fun k => rfl)
        | true =>
          rw [if_pos (.inr rfl)]
          refine Ev.congr (fun k => if_pos rfl) ?_
          exact Ev.bind (encode_key k0 k1 (.inr hb) (.inr hc) k2) (Ev.const _)
  · rw [if_neg h]
    rw [decide_eq_false h] at ht
    subst ht
    exact Ev.succ (G := fun _ => some (empty, 2)) (fun k => rfl) (Ev.const _)
theorem key_f (a : Int) (b c : ByteArray) (l : List Int) (hl : l.length ≤ 1000) : Ev (fun k => layout_Key.f k a b c l) (keyR a b c l) := by
  refine Ev.bind (numbers_f a b c l hl) ?_
  cases hn : numsOk a c l with
  | false =>
    refine Ev.congr (fun k => if_neg (by decide)) ?_
    exact key_j0 a b c l true (by rw [hn]; simp)
  | true =>
    refine Ev.congr (G := fun k => (layout_nums.f k a).bind fun t171 => (layout_Key.j0 k ((l.length : Int) != t171) a b c l)) (fun k => if_pos rfl) ?_
    refine Ev.bind (nums_f a) ?_
    refine key_j0 a b c l _ ?_
    rw [hn]
    by_cases e : (l.length : Int) = nm a
    · simp [e]
    · simp [e]
/-- What Span tells. -/
def spanR (a : Int) (b c : ByteArray) (l : List Int) : ByteArray × ByteArray × Int :=
  if numsOk a c l = true ∧ ¬ (b.toList = [] ∧ c.toList ≠ []) ∧ ¬ (c.toList = [] ∧ l ≠ []) then
    (if (b.toList = [] ∨ bOk b = true) ∧ (c.toList = [] ∨ oOk c = true) then (strOfNums (keyBytes a b c l), strOfNums (keyBytes a b c l) ++ ⟨#[255]⟩, 0) else (empty, empty, 15))
  else (empty, empty, 2)
theorem span_j1 (a : Int) (b c : ByteArray) (l : List Int) (hn : numsOk a c l = true) (t : Bool) (ht : t = !(decide ((b.toList = [] ∨ bOk b = true) ∧ (c.toList = [] ∨ oOk c = true)))) : Ev (fun k => layout_Span.j1 k t a b c l) (if (b.toList = [] ∨ bOk b = true) ∧ (c.toList = [] ∨ oOk c = true) then (strOfNums (keyBytes a b c l), strOfNums (keyBytes a b c l) ++ ⟨#[255]⟩, 0) else (empty, empty, 15)) := by
  by_cases h : (b.toList = [] ∨ bOk b = true) ∧ (c.toList = [] ∨ oOk c = true)
  · rw [decide_eq_true h] at ht
    subst ht
    rw [if_pos h]
    obtain ⟨k0, k1, k2, k3, k4, k5⟩ := numsOk_kind hn
    refine Ev.succ (G := fun k => (layout_encode.f k a b c l (([b, c] : List ByteArray))).bind fun t167 => ((tuple_Behind.f t167).bind fun t168 => (some (t167, t168, 0)))) (fun k => rfl) ?_
    refine Ev.bind (encode_key k0 k1 h.1 h.2 k2) ?_
    refine Ev.of (fun k => ?_)
    unfold tuple_Behind.f
    have := keyBytes_length k0 k1 h.1 h.2 k2
    rw [if_pos (by rw [strOfNums_size]; omega)]
    rfl
  · rw [decide_eq_false h] at ht
    subst ht
    rw [if_neg h]
    exact Ev.succ (G := fun _ => some (empty, empty, 15)) (fun k => rfl) (Ev.const _)
theorem span_j0 (a : Int) (b c : ByteArray) (l : List Int) (t : Bool) (ht : t = !(decide (numsOk a c l = true ∧ ¬ (b.toList = [] ∧ c.toList ≠ []) ∧ ¬ (c.toList = [] ∧ l ≠ [])))) : Ev (fun k => layout_Span.j0 k t a b c l) (spanR a b c l) := by
  unfold spanR
  by_cases h : numsOk a c l = true ∧ ¬ (b.toList = [] ∧ c.toList ≠ []) ∧ ¬ (c.toList = [] ∧ l ≠ [])
  · rw [decide_eq_true h] at ht
    subst ht
    rw [if_pos h]
    have j1 := span_j1 a b c l h.1
    by_cases hb : b.toList = []
    · by_cases hc : c.toList = []
      · refine Ev.succ (fun k => ?_) (j1 false (by rw [decide_eq_true ⟨.inl hb, .inl hc⟩]; rfl))
        simp only [layout_Span.j0]
        rw [if_neg (by decide), if_pos hb, if_pos hc]
      · refine Ev.succ (fun k => ?_) (j1 (told (oOk c) != 0) (by
          cases ho : oOk c
          · rw [decide_eq_false (by rintro ⟨_, h | h⟩; exact hc h; cases h)]; rfl
          · rw [decide_eq_true ⟨.inl hb, .inr rfl⟩]; rfl))
        simp only [layout_Span.j0]
        rw [if_neg (by decide), if_pos hb, if_neg hc, object_f]
        rfl
    · refine Ev.succ (G := fun k => (listing_Bucket.f k b).bind fun t162 => (if t162 = 0 then (if c.toList = ([] : List UInt8) then (layout_Span.j1 k false a b c l) else ((listing_Object.f c).bind fun t163 => (layout_Span.j1 k (t163 != 0) a b c l))) else (layout_Span.j1 k true a b c l))) (fun k => ?_) ?_
      · simp only [layout_Span.j0]
        rw [if_neg (by decide), if_neg hb]
      · refine Ev.bind (bucket_f b) ?_
        cases ho : bOk b with
        | false =>
          have := j1 true (by rw [ho, decide_eq_false (by rintro ⟨h | h, _⟩; exact hb h; cases h)]; rfl)
          rw [ho] at this
          exact this
        | true =>
          by_cases hc : c.toList = []
          · have := j1 false (by rw [decide_eq_true ⟨.inr ho, .inl hc⟩]; rfl)
            rw [ho] at this
            exact Ev.congr (fun k => (if_pos rfl).trans (if_pos hc)) this
          · have := j1 (told (oOk c) != 0) (by
              rw [ho]
              cases ho : oOk c
              · rw [decide_eq_false (by rintro ⟨_, h | h⟩; exact hc h; cases h)]; rfl
              · rw [decide_eq_true ⟨.inr rfl, .inr rfl⟩]; rfl)
            rw [ho] at this
            refine Ev.congr (fun k => ((if_pos rfl).trans (if_neg hc)).trans ?_) this
            rw [object_f]
            rfl
  · rw [decide_eq_false h] at ht
    subst ht
    rw [if_neg h]
    exact Ev.succ (G := fun _ => some (empty, empty, 2)) (fun k => rfl) (Ev.const _)
theorem span_f (a : Int) (b c : ByteArray) (l : List Int) (hl : l.length ≤ 1000) : Ev (fun k => layout_Span.f k a b c l) (spanR a b c l) := by
  refine Ev.bind (numbers_f a b c l hl) ?_
  have hd : decide ((l.length : Int) > 0) = decide (l ≠ []) := by
    cases l with
    | nil => rfl
    | cons x l => rw [decide_eq_true (by simp), decide_eq_true (by simp)]
  cases hn : numsOk a c l with
  | false =>
    refine Ev.congr (fun k => if_neg (by decide)) ?_
    exact span_j0 a b c l true (by rw [hn]; simp)
  | true =>
    have j0 := span_j0 a b c l
    rw [hn] at j0
    by_cases hb : b.toList = []
    · by_cases hc : c.toList = []
      · refine Ev.congr (fun k => ((if_pos rfl).trans (if_pos hb)).trans (if_pos hc)) (j0 _ ?_)
        rw [hd]
        simp [hb, hc]
      · refine Ev.congr (fun k => ((if_pos rfl).trans (if_pos hb)).trans (if_neg hc)) (j0 _ ?_)
        simp [hb, hc]
    · by_cases hc : c.toList = []
      · refine Ev.congr (fun k => ((if_pos rfl).trans (if_neg hb)).trans (if_pos hc)) (j0 _ ?_)
        rw [hd]
        simp [hb, hc]
      · refine Ev.congr (fun k => ((if_pos rfl).trans (if_neg hb)).trans (if_neg hc)) (j0 _ ?_)
        simp [hb, hc]
end Go.Proofs.YtbdfmjgndeigpaaDoor.Pure
