import Derived.Test.YtbhmffbpbicilaaPureListWhole
namespace Go.Proofs.Ytbhmffbpbicilaa.Pure
open Go.RowKit Go.Proofs.Ytbhmffbpbicilaa.P Go.Proofs.YtbhmffbpbicilaaW.PrintWords Go.Proofs.YtbhmffbpbicilaaW.PrintLast
/-! ### What an entry says of its name -/
theorem cut_pre (c : UInt8) : ∀ u : List UInt8, ∃ r, u = (cut c u).1 ++ r
  | [] => ⟨[], rfl⟩
  | b :: u => by
    obtain ⟨r, hr⟩ := cut_pre c u
    unfold cut
    split
    · exact ⟨u, rfl⟩
    · exact ⟨r, by rw [List.cons_append, ← hr]⟩
theorem cut_cons (c b : UInt8) (u : List UInt8) : cut c (b :: u) = if b = c then ([b], true) else (b :: (cut c u).1, (cut c u).2) := rfl
theorem cut_again (c : UInt8) : ∀ (u r : List UInt8), (cut c u).2 = true → cut c ((cut c u).1 ++ r) = ((cut c u).1, true)
  | [], r, h => by cases h
  | b :: u, r, h => by
    rw [cut_cons] at h ⊢
    by_cases e : b = c
    · rw [if_pos e]
      show cut c (b :: r) = _
      rw [cut_cons, if_pos e]
    · rw [if_neg e] at h ⊢
      have ih := cut_again c u r h
      show cut c (b :: ((cut c u).1 ++ r)) = _
      rw [cut_cons, if_neg e, ih]
theorem cut_end (c : UInt8) : ∀ u : List UInt8, (cut c u).2 = true → ∃ v, (cut c u).1 = v ++ [c]
  | [], h => by cases h
  | b :: u, h => by
    unfold cut at h ⊢
    by_cases e : b = c
    · simp only [if_pos e]
      exact ⟨[], by rw [e]; rfl⟩
    · simp only [if_neg e] at h ⊢
      obtain ⟨v, hv⟩ := cut_end c u h
      exact ⟨b :: v, by rw [hv]; rfl⟩
theorem cut_false (c : UInt8) : ∀ u : List UInt8, (cut c u).2 = false → (cut c u).1 = u
  | [], _ => rfl
  | b :: u, h => by
    unfold cut at h ⊢
    by_cases e : b = c
    · simp only [if_pos e] at h
      cases h
    · simp only [if_neg e] at h ⊢
      rw [cut_false c u h]
theorem begB_iff (s p : ByteArray) : begB s p = true ↔ ∃ r, s.toList = p.toList ++ r := by
  constructor
  · intro h
    exact ⟨_, begB_split h⟩
  · rintro ⟨r, h⟩
    have hl := congrArg List.length h
    rw [List.length_append, tl_length, tl_length] at hl
    have hle : p.size ≤ s.size := by omega
    unfold begB
    rw [Bool.and_eq_true, decide_eq_true_eq]
    refine ⟨hle, ?_⟩
    rw [beq_iff_eq, Lib.extract_toList, ← Lib.toList_data, h, List.drop_zero, Nat.sub_zero, ← tl_length, List.take_left]
theorem ent_false {s p d : ByteArray} (hd : d.size ≤ 1) (h : begB s p = true) (hf : (entOf s d p.size).2 = false) : (entOf s d p.size).1 = s := by
  obtain ⟨e1, e2⟩ := entOf_list hd h
  refine tl_inj ?_
  rw [e1, begB_split h]
  rw [hf] at e2
  have hs : (p.toList ++ s.toList.drop p.size).drop p.size = s.toList.drop p.size := by rw [← begB_split h]
  rw [hs]
  cases hc : d.toList with
  | nil => rfl
  | cons c r =>
    rw [hc] at e2
    show p.toList ++ (cut c _).1 = _
    rw [cut_false c _ e2.symm]
/-- A common prefix: its delimiter, and its bytes. -/
theorem ent_true {s p d : ByteArray} (hd : d.size ≤ 1) (h : begB s p = true) (ht : (entOf s d p.size).2 = true) :
    ∃ c, d.toList = [c] ∧ (entOf s d p.size).1.toList = p.toList ++ (cut c (s.toList.drop p.size)).1 ∧ (cut c (s.toList.drop p.size)).2 = true := by
  obtain ⟨e1, e2⟩ := entOf_list hd h
  rw [ht] at e2
  cases hc : d.toList with
  | nil => rw [hc] at e2; cases e2
  | cons c r =>
    rw [hc] at e1 e2
    have hr : r = [] := by
      have := congrArg List.length hc
      rw [tl_length, List.length_cons] at this
      exact List.eq_nil_of_length_eq_zero (by omega)
    exact ⟨c, by rw [hr], e1, e2.symm⟩
/-- Which names begin with a common prefix: those that give it. -/
theorem begins_common {s s' p d : ByteArray} (hd : d.size ≤ 1) (hs : begB s p = true) (hs' : begB s' p = true) (ht : (entOf s' d p.size).2 = true) :
    begB s (entOf s' d p.size).1 = true ↔ entOf s d p.size = entOf s' d p.size := by
  obtain ⟨c, hc, e1, e2⟩ := ent_true hd hs' ht
  obtain ⟨f1, f2⟩ := entOf_list hd hs
  rw [hc] at f1 f2
  rw [begB_iff]
  constructor
  · rintro ⟨r, hr⟩
    rw [e1, List.append_assoc] at hr
    have hu : s.toList.drop p.size = (cut c (s'.toList.drop p.size)).1 ++ r := by
      rw [hr, ← tl_length, List.drop_left]
    have ha := cut_again c (s'.toList.drop p.size) r e2
    rw [← hu] at ha
    refine Prod.ext (tl_inj ?_) ?_
    · rw [f1, e1]
      show p.toList ++ (cut c _).1 = _
      rw [ha]
    · rw [f2, ht]
      show (cut c _).2 = true
      rw [ha]
  · intro he
    obtain ⟨r, hr⟩ := cut_pre c (s.toList.drop p.size)
    refine ⟨r, ?_⟩
    rw [← he, f1]
    show _ = (p.toList ++ (cut c _).1) ++ r
    rw [List.append_assoc, ← hr]
    exact begB_split hs
def act (p s : ByteArray) : Bool := begB s p && !(s.toList == [])
theorem act_iff {p s : ByteArray} : act p s = true ↔ begB s p = true ∧ s.toList ≠ [] := by
  unfold act
  rw [Bool.and_eq_true, Bool.not_eq_true', beq_eq_false_iff_ne]
theorem dd_mem : ∀ (l : List (ByteArray × Bool)) (last x : ByteArray × Bool), x ∈ l → x ∈ dd last l ∨ x = last
  | y :: l, last, x, h => by
    unfold dd
    by_cases hq : lpSame y.1 last.1 y.2 last.2 = true
    · rw [if_pos hq]
      rcases List.mem_cons.1 h with rfl | h
      · exact .inr ((same_iff _ _).1 hq)
      · exact dd_mem l last x h
    · rw [if_neg hq]
      rcases List.mem_cons.1 h with rfl | h
      · exact .inl List.mem_cons_self
      · rcases dd_mem l y x h with h | rfl
        · exact .inl (List.mem_cons_of_mem _ h)
        · exact .inl List.mem_cons_self
theorem ent_nonempty {s p d : ByteArray} (hd : d.size ≤ 1) (h : act p s = true) : (entOf s d p.size).1.toList ≠ [] := by
  obtain ⟨h1, h2⟩ := act_iff.1 h
  cases hb : (entOf s d p.size).2 with
  | false => rw [ent_false hd h1 hb]; exact h2
  | true =>
    obtain ⟨c, _, e1, e2⟩ := ent_true hd h1 hb
    obtain ⟨v, hv⟩ := cut_end c _ e2
    rw [e1, hv]
    simp
theorem whole_has {p d : ByteArray} (hd : d.size ≤ 1) {l : List ByteArray} {s : ByteArray} (hs : s ∈ l) (h : act p s = true) : entOf s d p.size ∈ whole p d l := by
  have hne := ent_nonempty hd h
  unfold whole
  rw [ents_dd]
  have hm : entOf s d p.size ∈ (raw p d l).filter (over ⟨#[]⟩) := by
    rw [List.mem_filter]
    refine ⟨?_, ?_⟩
    · unfold raw
      exact List.mem_map.2 ⟨s, List.mem_filter.2 ⟨hs, (act_iff.1 h).1⟩, rfl⟩
    · unfold over
      rw [empty_list]
      cases he : (entOf s d p.size).1.toList with
      | nil => exact absurd he hne
      | cons _ _ => rfl
  rcases dd_mem _ _ _ hm with h | h
  · exact h
  · rw [h, empty_list] at hne
    exact absurd rfl hne
theorem whole_act {p d : ByteArray} (hd : d.size ≤ 1) {l : List ByteArray} (hl : Asc l) {x : ByteArray × Bool} (h : x ∈ whole p d l) : ∃ s ∈ l, act p s = true ∧ x = entOf s d p.size := by
  obtain ⟨s, h1, h2, h3⟩ := whole_from h
  refine ⟨s, h1, act_iff.2 ⟨h2, fun e => ?_⟩, h3⟩
  have hp : p.toList = [] := by
    have := begB_split h2
    rw [e] at this
    exact (List.append_eq_nil_iff.1 this.symm).1
  have hlt := (whole_rise hd hl).2 x h
  have hx : x.1.toList = [] := by
    rw [h3, (entOf_list hd h2).1, e, hp, List.drop_nil]
    cases d.toList <;> rfl
  unfold Lt at hlt
  rw [hx, nil_least] at hlt
  cases hlt
theorem in_names {es : List (ByteArray × Bool)} {s : ByteArray} : s ∈ lpNames es ↔ (s, false) ∈ es := by
  unfold lpNames
  rw [List.mem_map]
  constructor
  · rintro ⟨x, hx, rfl⟩
    obtain ⟨h1, h2⟩ := List.mem_filter.1 hx
    have : x.2 = false := by simpa using h2
    rw [← this]
    exact h1
  · intro h
    exact ⟨(s, false), List.mem_filter.2 ⟨h, rfl⟩, rfl⟩
theorem in_prefs {es : List (ByteArray × Bool)} {s : ByteArray} : s ∈ lpPrefs es ↔ (s, true) ∈ es := by
  unfold lpPrefs
  rw [List.mem_map]
  constructor
  · rintro ⟨x, hx, rfl⟩
    obtain ⟨h1, h2⟩ := List.mem_filter.1 hx
    have : x.2 = true := by simpa using h2
    rw [← this]
    exact h1
  · intro h
    exact ⟨(s, true), List.mem_filter.2 ⟨h, rfl⟩, rfl⟩
theorem names_asc {es : List (ByteArray × Bool)} (h : Rise es) : Asc (lpNames es) := by
  unfold Asc lpNames
  rw [List.pairwise_map]
  exact List.Pairwise.filter _ h
theorem prefs_asc {es : List (ByteArray × Bool)} (h : Rise es) : Asc (lpPrefs es) := by
  unfold Asc lpPrefs
  rw [List.pairwise_map]
  exact List.Pairwise.filter _ h
/-- Of a list that rises, how many elements are one that is in it. -/
theorem none_of {q : ByteArray → Bool} {l : List ByteArray} {x : ByteArray} (hx : ∀ y ∈ l, q y = true → y = x) (hn : x ∉ l) : (l.filter q).length = 0 := by
  rw [List.filter_eq_nil_iff.2 (fun y hy k => hn (by rw [← hx y hy k]; exact hy))]
  rfl
theorem one_of_asc {q : ByteArray → Bool} {l : List ByteArray} (h : Asc l) {x : ByteArray} (hx : ∀ y ∈ l, q y = true ↔ y = x) (hm : x ∈ l) : (l.filter q).length = 1 := by
  induction l with
  | nil => simp at hm
  | cons y l ih =>
    unfold Asc at h
    rw [List.pairwise_cons] at h
    have hy := hx y List.mem_cons_self
    have hx' := fun z hz => hx z (List.mem_cons_of_mem _ hz)
    by_cases e : y = x
    · have hn : x ∉ l := by
        intro hm
        have := h.1 x hm
        rw [e] at this
        exact Lt.irr x this
      rw [List.filter_cons_of_pos (hy.2 e), List.length_cons, none_of (fun z hz => (hx' z hz).1) hn]
    · rw [List.filter_cons_of_neg (fun k => e (hy.1 k))]
      exact ih h.2 hx' ((List.mem_cons.1 hm).resolve_left (Ne.symm e))
theorem asc_ext : ∀ {l m : List ByteArray}, Asc l → Asc m → (∀ x, x ∈ l ↔ x ∈ m) → l = m
  | [], [], _, _, _ => rfl
  | [], y :: m, _, _, h => by have := (h y).2 List.mem_cons_self; simp at this
  | x :: l, [], _, _, h => by have := (h x).1 List.mem_cons_self; simp at this
  | x :: l, y :: m, hl, hm, h => by
    unfold Asc at hl hm
    rw [List.pairwise_cons] at hl hm
    have e : x = y := by
      rcases List.mem_cons.1 ((h x).1 List.mem_cons_self) with e | h1
      · exact e
      · rcases List.mem_cons.1 ((h y).2 List.mem_cons_self) with e | h2
        · exact e.symm
        · exact absurd (hl.1 y h2) (Lt.asymm (hm.1 x h1))
    subst e
    have : l = m := asc_ext hl.2 hm.2 (fun z => by
      have hz := h z
      rw [List.mem_cons, List.mem_cons] at hz
      constructor
      · intro k
        rcases hz.1 (.inr k) with rfl | k2
        · exact absurd (hl.1 z k) (Lt.irr z)
        · exact k2
      · intro k
        rcases hz.2 (.inr k) with rfl | k2
        · exact absurd (hm.1 z k) (Lt.irr z)
        · exact k2)
    rw [this]
def plainOf (p d s : ByteArray) : Bool := act p s && !(entOf s d p.size).2
theorem names_eq {p d : ByteArray} (hd : d.size ≤ 1) {l : List ByteArray} (hl : Asc l) : lpNames (whole p d l) = l.filter (plainOf p d) := by
  refine asc_ext (names_asc (whole_rise hd hl).1) (List.Pairwise.filter _ hl) (fun x => ?_)
  rw [in_names, List.mem_filter]
  unfold plainOf
  rw [Bool.and_eq_true, Bool.not_eq_true']
  constructor
  · intro h
    obtain ⟨s, h1, h2, h3⟩ := whole_act hd hl h
    have hf : (entOf s d p.size).2 = false := by rw [← h3]
    have := ent_false hd (act_iff.1 h2).1 hf
    have hx : x = s := by rw [← this, ← h3]
    rw [hx]
    exact ⟨h1, h2, hf⟩
  · rintro ⟨h1, h2, h3⟩
    have := whole_has hd h1 h2
    have e := ent_false hd (act_iff.1 h2).1 h3
    have e2 : entOf x d p.size = (x, false) := Prod.ext e h3
    rw [e2] at this
    exact this
/-- How often a name stands in the list, and under how many common prefixes: once in all. -/
theorem here_one {p d : ByteArray} (hd : d.size ≤ 1) {l : List ByteArray} (hl : Asc l) {s : ByteArray} (hs : s ∈ l) (ha : act p s = true) :
    ((lpNames (whole p d l)).filter (fun x => x.toList == s.toList)).length = (if plainOf p d s = true then 1 else 0) ∧
    ((lpNames (whole p d l)).filter (fun x => x.toList == s.toList)).length + ((lpPrefs (whole p d l)).filter (fun c => begB s c)).length = 1 := by
  have hr := (whole_rise (p := p) hd hl).1
  have hb := (act_iff.1 ha).1
  have qn : ∀ y ∈ lpNames (whole p d l), (y.toList == s.toList) = true ↔ y = s := fun y _ => by rw [beq_iff_eq]; exact ⟨tl_inj, fun e => by rw [e]⟩
  have key : ∀ y ∈ lpPrefs (whole p d l), begB s y = true ↔ entOf s d p.size = (y, true) := by
    intro y hy
    obtain ⟨s', h1, h2, h3⟩ := whole_act hd hl (in_prefs.1 hy)
    have ht : (entOf s' d p.size).2 = true := by rw [← h3]
    have e : (entOf s' d p.size).1 = y := by rw [← h3]
    have := begins_common hd hb (act_iff.1 h2).1 ht
    rw [e, ← h3] at this
    exact this
  have hn : s ∈ lpNames (whole p d l) ↔ plainOf p d s = true := by
    rw [names_eq hd hl, List.mem_filter]
    exact ⟨fun h => h.2, fun h => ⟨hs, h⟩⟩
  have hw := whole_has hd hs ha
  cases ht : (entOf s d p.size).2 with
  | false =>
    have hp : plainOf p d s = true := by unfold plainOf; rw [ha, ht]; rfl
    have c1 := one_of_asc (names_asc hr) qn (hn.2 hp)
    have c2 : ((lpPrefs (whole p d l)).filter (fun c => begB s c)).length = 0 := by
      rw [List.filter_eq_nil_iff.2 (fun y hy h => by
        have := (key y hy).1 h
        rw [this] at ht
        cases ht)]
      rfl
    rw [c1, c2, if_pos hp]
    exact ⟨rfl, rfl⟩
  | true =>
    have hp : plainOf p d s = false := by unfold plainOf; rw [ha, ht]; rfl
    have c1 := none_of (fun y hy => (qn y hy).1) (fun h => by rw [hn.1 h] at hp; cases hp)
    have hm : (entOf s d p.size).1 ∈ lpPrefs (whole p d l) := by
      rw [in_prefs, ← ht]
      exact hw
    have c2 := one_of_asc (q := fun c => begB s c) (prefs_asc hr) (fun y hy => by
      show begB s y = true ↔ _
      rw [key y hy]
      exact ⟨fun e => by rw [e], fun e => Prod.ext e.symm ht⟩) hm
    rw [c1, c2, hp, if_neg (by simp)]
    exact ⟨rfl, rfl⟩
end Go.Proofs.Ytbhmffbpbicilaa.Pure
