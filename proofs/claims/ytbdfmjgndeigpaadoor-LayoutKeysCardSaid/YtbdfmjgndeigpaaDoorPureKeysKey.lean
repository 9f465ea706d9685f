import Derived.Test.YtbdfmjgndeigpaaDoorPureKeysEnc
import Derived.Test.YtbdfmjgndeigpaaDoorPx20
import Derived.Test.YtbdfmjgndeigpaaDoorPx21
namespace Go.Proofs.YtbdfmjgndeigpaaDoor.Pure
open Go.RowKit Go.Proofs.YtbdfmjgndeigpaaDoor.P Go.Proofs.YtbdfmjgndeigpaaDoorW.PrintWords Go.Proofs.YtbdfmjgndeigpaaDoorW.PrintLast Go.Proofs.YtbdfmjgndeigpaaDoorW.PrintMore
set_option linter.unusedVariables false
/-! ### The reference's Key and Span -/
theorem rbind_f {α : Type} {a : Int} {b c : ByteArray} {l : List Int} (G : ByteArray → Option α) (r : α) (h0 : 1 ≤ a) (h1 : a ≤ 6) (hb : nameOr bOk b) (hc : nameOr oOk c) (hl : l.length ≤ 3) (hg : ∀ n ∈ l, goodN n) (hG : G (strOfNums (keyBytes a b c l)) = some r) :
    Ev (fun k => (r21_parts.f k a b c l).bind fun t => (r21_bytes.f k t).bind fun u => G u) r := by
  have h := Ev.bind (rkeybytes_f h0 h1 hb hc hl hg) (G := fun _ u => G u) (b := r) (Ev.of (fun _ => hG))
  refine Ev.congr (fun k => ?_) h
  cases r21_parts.f k a b c l <;> rfl
theorem goodl {l : List Int} (h0 : ∀ x ∈ l, 0 ≤ x) (hg : ∀ n ∈ l, n < 9223372036854775808) : ∀ n ∈ l, goodN n := fun n hn => ⟨h0 n hn, hg n hn⟩
theorem rkey_j0 (a : Int) (b c : ByteArray) (l : List Int) (hg : ∀ n ∈ l, n < 9223372036854775808) (t : Bool) (ht : t = !(decide (numsOk a c l = true ∧ (l.length : Int) = nm a))) : Ev (fun k => r21_Key.j0 k t a b c l) (keyR a b c l) := by
  have jt : Ev (fun k => r21_Key.j1 k true a b c l) (empty, 15) := by
    refine Ev.succ (fun k => ?_) (Ev.const _)
    simp only [r21_Key.j1]
    rw [if_pos trivial]
    rfl
  unfold keyR
  by_cases h : numsOk a c l = true ∧ (l.length : Int) = nm a
  · rw [if_pos h]
    rw [decide_eq_true h] at ht
    subst ht
    obtain ⟨k0, k1, k2, k3, k4, k5⟩ := numsOk_kind h.1
    have hgl := goodl k4 hg
    have jf : bOk b = true → nameOr oOk c → Ev (fun k => r21_Key.j1 k false a b c l) (strOfNums (keyBytes a b c l), 0) := by
      intro hb hc
      refine Ev.succ (fun k => ?_) (rbind_f (fun u => some (u, (0 : Int))) _ k0 k1 (.inr hb) hc k2 hgl rfl)
      simp only [r21_Key.j1]
      rw [if_neg (by decide)]
    refine Ev.succ (G := fun k => (r20_Bucket.f k b).bind fun t276 => (if t276 = 0 then (if a = 1 then (r21_Key.j1 k false a b c l) else ((r20_Object.f k c).bind fun t277 => (r21_Key.j1 k (t277 != 0) a b c l))) else (r21_Key.j1 k true a b c l))) (fun k => ?_) ?_
    · simp only [r21_Key.j0]
      rw [if_neg (by decide)]
    · refine Ev.bind (rbucket_f b) ?_
      cases hb : bOk b with
      | false =>
        rw [if_neg (by decide)]
        exact Ev.congr (fun k => if_neg (by decide)) jt
      | true =>
        rw [if_pos rfl]
        by_cases h1 : a = 1
        · rw [if_pos (.inl h1)]
          exact Ev.congr (fun k => (if_pos rfl).trans (if_pos h1)) (jf hb (.inl (k5 h1)))
        · refine Ev.congr (fun k => (if_pos rfl).trans (if_neg h1)) ?_
          refine Ev.bind (robject_f c) ?_
          cases hc : oOk c with
          | false =>
            rw [if_neg (by simp [h1])]
            exact jt
          | true =>
            rw [if_pos (.inr rfl)]
            exact jf hb (.inr hc)
  · rw [if_neg h]
    rw [decide_eq_false h] at ht
    subst ht
    refine Ev.succ (fun k => ?_) (Ev.const _)
    simp only [r21_Key.j0]
    rw [if_pos (by decide)]
    rfl
theorem rnums_all (a : Int) (b c : ByteArray) (l : List Int) (hl : l.length ≤ 1000) : Ev (fun k => r21_numbers.f k a b c l (nm a)) (l.all (fun x => decide (0 ≤ x)) && decide ((l.length : Int) ≤ nm a)) := rnumbers_f a b c l (nm a) hl _ 0 rfl (by omega)
theorem numsOk_eq (a : Int) (c : ByteArray) (l : List Int) : numsOk a c l = ((l.all (fun x => decide (0 ≤ x)) && decide ((l.length : Int) ≤ nm a)) && (!(decide (a = 1)) || c.toList == ([] : List UInt8))) := by
  unfold numsOk
  rw [Bool.and_assoc]
theorem nm_neg {a : Int} {c : ByteArray} {l : List Int} (h : nm a < 0) : numsOk a c l = false := by
  rw [numsOk_eq, decide_eq_false (show ¬ ((l.length : Int) ≤ nm a) by omega), Bool.and_false, Bool.false_and]
theorem rkey_f (a : Int) (b c : ByteArray) (l : List Int) (hl : l.length ≤ 1000) (hg : ∀ n ∈ l, n < 9223372036854775808) : Ev (fun k => r21_Key.f k a b c l) (keyR a b c l) := by
  have j0 := rkey_j0 a b c l hg
  refine Ev.bind (Ev.of (fun _ => rnums_f a)) ?_
  by_cases hm : nm a < 0
  · refine Ev.congr (fun k => if_pos hm) (j0 true ?_)
    rw [nm_neg hm]
    simp
  · refine Ev.congr (fun k => if_neg hm) ?_
    refine Ev.bind (rnums_all a b c l hl) ?_
    have en := numsOk_eq a c l
    cases hB : (l.all (fun x => decide (0 ≤ x)) && decide ((l.length : Int) ≤ nm a)) with
    | false =>
      rw [hB] at en
      refine Ev.congr (fun k => if_neg (by decide)) (j0 true ?_)
      rw [en]
      simp
    | true =>
      rw [hB] at en
      refine Ev.congr (fun k => if_pos rfl) ?_
      by_cases he : (l.length : Int) = nm a
      · by_cases h1 : a = 1
        · refine Ev.congr (fun k => (if_pos he).trans (if_pos h1)) (j0 _ ?_)
          rw [en]
          by_cases hc : c.toList = []
          · simp [h1, hc, he]
            try (rw [← h1]; exact he)
          · simp [h1, hc]
        · refine Ev.congr (fun k => (if_pos he).trans (if_neg h1)) (j0 _ ?_)
          rw [en]
          simp [h1, he]
      · refine Ev.congr (fun k => if_neg he) (j0 _ ?_)
        simp [he]
theorem rspan_j0 (a : Int) (b c : ByteArray) (l : List Int) (hg : ∀ n ∈ l, n < 9223372036854775808) (t : Bool) (ht : t = !(decide (numsOk a c l = true ∧ ¬ (b.toList = [] ∧ c.toList ≠ []) ∧ ¬ (c.toList = [] ∧ l ≠ [])))) : Ev (fun k => r21_Span.j0 k t a b c l) (spanR a b c l) := by
  unfold spanR
  by_cases h : numsOk a c l = true ∧ ¬ (b.toList = [] ∧ c.toList ≠ []) ∧ ¬ (c.toList = [] ∧ l ≠ [])
  · rw [decide_eq_true h] at ht
    subst ht
    rw [if_pos h]
    obtain ⟨k0, k1, k2, k3, k4, k5⟩ := numsOk_kind h.1
    have hgl := goodl k4 hg
    have j1 : ∀ t : Bool, t = !(decide ((b.toList = [] ∨ bOk b = true) ∧ (c.toList = [] ∨ oOk c = true))) → Ev (fun k => r21_Span.j1 k t a b c l) (if (b.toList = [] ∨ bOk b = true) ∧ (c.toList = [] ∨ oOk c = true) then (strOfNums (keyBytes a b c l), strOfNums (keyBytes a b c l) ++ ⟨#[255]⟩, 0) else (empty, empty, 15)) := by
      intro t ht
      by_cases hh : (b.toList = [] ∨ bOk b = true) ∧ (c.toList = [] ∨ oOk c = true)
      · rw [decide_eq_true hh] at ht
        subst ht
        rw [if_pos hh]
        have hlen := keyBytes_length (l := l) k0 k1 hh.1 hh.2 k2
        refine Ev.succ (fun k => ?_) (rbind_f (fun u => if u.size + 1 ≤ 9223372036854775807 then (some (u, u ++ (⟨#[255]⟩ : ByteArray), (0 : Int))) else none) _ k0 k1 hh.1 hh.2 k2 hgl (if_pos (by rw [strOfNums_size]; omega)))
        simp only [r21_Span.j1]
        rw [if_neg (by decide)]
      · rw [decide_eq_false hh] at ht
        subst ht
        rw [if_neg hh]
        refine Ev.succ (fun k => ?_) (Ev.const _)
        simp only [r21_Span.j1]
        rw [if_pos (by decide)]
        rfl
    by_cases hb : b.toList = []
    · by_cases hc : c.toList = []
      · refine Ev.succ (fun k => ?_) (j1 false (by rw [decide_eq_true ⟨.inl hb, .inl hc⟩]; rfl))
        simp only [r21_Span.j0]
        rw [if_neg (by decide), if_pos hb, if_pos hc]
      · refine Ev.succ (G := fun k => (r20_Object.f k c).bind fun t286 => (r21_Span.j1 k (t286 != 0) a b c l)) (fun k => ?_) ?_
        · simp only [r21_Span.j0]
          rw [if_neg (by decide), if_pos hb, if_neg hc]
        · refine Ev.bind (robject_f c) (j1 (told (oOk c) != 0) ?_)
          cases ho : oOk c
          · rw [decide_eq_false (by rintro ⟨_, h | h⟩; exact hc h; cases h)]; rfl
          · rw [decide_eq_true ⟨.inl hb, .inr rfl⟩]; rfl
    · refine Ev.succ (G := fun k => (r20_Bucket.f k b).bind fun t287 => (if t287 = 0 then (if c.toList = ([] : List UInt8) then (r21_Span.j1 k false a b c l) else ((r20_Object.f k c).bind fun t288 => (r21_Span.j1 k (t288 != 0) a b c l))) else (r21_Span.j1 k true a b c l))) (fun k => ?_) ?_
      · simp only [r21_Span.j0]
        rw [if_neg (by decide), if_neg hb]
      · refine Ev.bind (rbucket_f b) ?_
        cases ho : bOk b with
        | false =>
          have := j1 true (by rw [ho, decide_eq_false (by rintro ⟨h | h, _⟩; exact hb h; cases h)]; rfl)
          rw [ho] at this
          exact Ev.congr (fun k => if_neg (by decide)) this
        | true =>
          by_cases hc : c.toList = []
          · have := j1 false (by rw [decide_eq_true ⟨.inr ho, .inl hc⟩]; rfl)
            rw [ho] at this
            exact Ev.congr (fun k => (if_pos rfl).trans (if_pos hc)) this
          · have := j1 (told (oOk c) != 0) (by
              rw [ho]
              cases ho : oOk c
              · rw [decide_eq_false (by rintro ⟨_, h | h⟩; exact hc h; cases h)]; rfl
              · rw [decide_eq_true ⟨.inr rfl, .inr rfl⟩]; rfl)
            rw [ho] at this
            refine Ev.congr (fun k => (if_pos rfl).trans (if_neg hc)) ?_
            exact Ev.bind (robject_f c) this
  · rw [decide_eq_false h] at ht
    subst ht
    rw [if_neg h]
    refine Ev.succ (fun k => ?_) (Ev.const _)
    simp only [r21_Span.j0]
    rw [if_pos (by decide)]
    rfl
theorem rspan_f (a : Int) (b c : ByteArray) (l : List Int) (hl : l.length ≤ 1000) (hg : ∀ n ∈ l, n < 9223372036854775808) : Ev (fun k => r21_Span.f k a b c l) (spanR a b c l) := by
  have j0 := rspan_j0 a b c l hg
  refine Ev.bind (Ev.of (fun _ => rnums_f a)) ?_
  by_cases hm : nm a < 0
  · refine Ev.congr (fun k => if_pos hm) (j0 true ?_)
    rw [nm_neg hm]
    simp
  · refine Ev.congr (fun k => if_neg hm) ?_
    refine Ev.bind (rnums_all a b c l hl) ?_
    have en := numsOk_eq a c l
    cases hB : (l.all (fun x => decide (0 ≤ x)) && decide ((l.length : Int) ≤ nm a)) with
    | false =>
      rw [hB] at en
      refine Ev.congr (fun k => if_neg (by decide)) (j0 true ?_)
      rw [en]
      simp
    | true =>
      rw [hB] at en
      refine Ev.congr (fun k => if_pos rfl) ?_
      have hlen : ((l.length : Int) > 0) ↔ l ≠ [] := by
        cases l with
        | nil => simp
        | cons x l => simp
      by_cases h1 : a = 1
      · by_cases hc : c.toList = []
        · by_cases hb : b.toList = []
          · by_cases hL : (l.length : Int) > 0
            · refine Ev.congr (fun k => (if_pos h1).trans ((if_pos hc).trans ((if_pos hb).trans (if_pos hL)))) (j0 _ ?_)
              have := hlen.1 hL
              simp [hc, this]
            · refine Ev.congr (fun k => (if_pos h1).trans ((if_pos hc).trans ((if_pos hb).trans (if_neg hL)))) (j0 _ ?_)
              have := fun h => hL (hlen.2 h)
              rw [en, decide_eq_false hL]
              simp [hc, h1, hb]
              simpa using this
          · refine Ev.congr (fun k => (if_pos h1).trans ((if_pos hc).trans (if_neg hb))) (j0 _ ?_)
            rw [en]
            by_cases hL : (l.length : Int) > 0
            · have := hlen.1 hL
              rw [decide_eq_true hL]
              simp [hc, this]
            · have := fun h => hL (hlen.2 h)
              rw [decide_eq_false hL]
              simp [hc, h1, hb]
              simpa using this
        · refine Ev.congr (fun k => (if_pos h1).trans (if_neg hc)) (j0 _ ?_)
          rw [en]
          simp [h1, hc]
      · by_cases hb : b.toList = []
        · by_cases hc : c.toList = []
          · by_cases hL : (l.length : Int) > 0
            · refine Ev.congr (fun k => (if_neg h1).trans ((if_pos hb).trans ((if_pos hc).trans (if_pos hL)))) (j0 _ ?_)
              have := hlen.1 hL
              simp [hc, this]
            · refine Ev.congr (fun k => (if_neg h1).trans ((if_pos hb).trans ((if_pos hc).trans (if_neg hL)))) (j0 _ ?_)
              have := fun h => hL (hlen.2 h)
              rw [en, decide_eq_false hL]
              simp [hc, h1, hb]
              simpa using this
          · refine Ev.congr (fun k => (if_neg h1).trans ((if_pos hb).trans (if_neg hc))) (j0 _ ?_)
            simp [hb, hc]
        · by_cases hc : c.toList = []
          · refine Ev.congr (fun k => (if_neg h1).trans ((if_neg hb).trans (if_pos hc))) (j0 _ ?_)
            rw [en]
            by_cases hL : (l.length : Int) > 0
            · have := hlen.1 hL
              rw [decide_eq_true hL]
              simp [hc, this]
            · have := fun h => hL (hlen.2 h)
              rw [decide_eq_false hL]
              simp [hc, h1, hb]
              simpa using this
          · refine Ev.congr (fun k => (if_neg h1).trans ((if_neg hb).trans (if_neg hc))) (j0 _ ?_)
            rw [en]
            simp [h1, hb, hc]
end Go.Proofs.YtbdfmjgndeigpaaDoor.Pure
