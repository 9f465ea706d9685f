import Derived.Test.YtbhmffbpbicilaaPureEachModel
import Derived.Test.YtbhmffbpbicilaaPx15
import Derived.Test.YtbhmffbpbicilaaPx16
namespace Go.Proofs.Ytbhmffbpbicilaa.Pure
open Go.RowKit Go.Proofs.Ytbhmffbpbicilaa.P Go.Proofs.YtbhmffbpbicilaaW.PrintWords Go.Proofs.YtbhmffbpbicilaaW.PrintLast
theorem starts_f (s p : ByteArray) : w20_starts.f s p = some (begB s p) := begins_f s p
theorem rd_set (l : List Int) (j k : Nat) (v : Int) (hj : j < l.length) : rd (l.set j v) (k : Int) = if k = j then v else rd l (k : Int) := by
  unfold rd
  rw [Int.toNat_natCast, List.getD_eq_getElem?_getD, List.getD_eq_getElem?_getD, List.getElem?_set]
  by_cases e : j = k
  · subst e
    rw [if_pos rfl, if_pos hj, if_pos rfl]
    rfl
  · rw [if_neg e, if_neg (Ne.symm e)]
theorem wr_nat (a b : Nat) (h : a + b ≤ 1000000) : wrap64 ((a : Int) + (b : Int)) = ((a + b : Nat) : Int) := by rw [wr_in _ (by omega)]; omega
theorem wr_one (a : Nat) (h : a ≤ 1000000) : wrap64 ((a : Int) + 1) = ((a + 1 : Nat) : Int) := by rw [wr_in _ (by omega)]; omega
theorem each_l1 {p d : ByteArray} {t N P : List ByteArray} {X : ByteArray} {M : Bool} {used : List Int} {i : Nat} (hi : i < t.length) (hN : N.length ≤ 50) : ∀ (r j x here : Nat), N.length - j = r → j ≤ N.length → x + N.length ≤ 100000 + j → here ≤ j →
    Ev (fun k => w20_ListingEach.l2 k p d t ((x + ((N.drop j).filter (fun y => y.toList == (rdOf ByteArray.empty t (i : Int)).toList)).length : Nat) : Int) used (i : Int) ((here + ((N.drop j).filter (fun y => y.toList == (rdOf ByteArray.empty t (i : Int)).toList)).length : Nat) : Int) 0 N P X M) true →
    Ev (fun k => w20_ListingEach.l1 k p d t (x : Int) used (i : Int) (here : Int) (j : Int) N P X M) true
  | r, j, x, here, hr, hj, hx, hh, hk => by
    by_cases hjl : j < N.length
    · have hc := drop_rd N j hjl
      rw [hc] at hk
      by_cases he : (rdOf ByteArray.empty N (j : Int)).toList = (rdOf ByteArray.empty t (i : Int)).toList
      · rw [List.filter_cons_of_pos (by rw [beq_iff_eq]; exact he), List.length_cons] at hk
        have ih := each_l1 (p := p) (d := d) (t := t) (N := N) (P := P) (X := X) (M := M) (used := used) hi hN (r - 1) (j + 1) (x + 1) (here + 1) (by omega) (by omega) (by omega) (by omega)
          (by rw [show x + 1 + ((N.drop (j + 1)).filter (fun y => y.toList == (rdOf ByteArray.empty t (i : Int)).toList)).length = x + (((N.drop (j + 1)).filter (fun y => y.toList == (rdOf ByteArray.empty t (i : Int)).toList)).length + 1) by omega, show here + 1 + ((N.drop (j + 1)).filter (fun y => y.toList == (rdOf ByteArray.empty t (i : Int)).toList)).length = here + (((N.drop (j + 1)).filter (fun y => y.toList == (rdOf ByteArray.empty t (i : Int)).toList)).length + 1) by omega]; exact hk)
        refine Ev.succ (fun k => ?_) ih
        simp only [w20_ListingEach.l1]
        rw [if_pos (by omega), if_pos (by omega), if_pos (by omega), if_pos (by omega), if_pos he, wr_one x (by omega), wr_one here (by omega), wr_one j (by omega)]
      · rw [List.filter_cons_of_neg (by rw [beq_iff_eq]; exact he)] at hk
        have ih := each_l1 (p := p) (d := d) (t := t) (N := N) (P := P) (X := X) (M := M) (used := used) hi hN (r - 1) (j + 1) x here (by omega) (by omega) (by omega) (by omega) hk
        refine Ev.succ (fun k => ?_) ih
        simp only [w20_ListingEach.l1]
        rw [if_pos (by omega), if_pos (by omega), if_pos (by omega), if_pos (by omega), if_neg he, wr_one j (by omega)]
    · rw [List.drop_eq_nil_of_le (by omega)] at hk
      refine Ev.succ (fun k => ?_) hk
      simp only [w20_ListingEach.l1]
      rw [if_neg (by omega)]
      rfl
  termination_by r => r
  decreasing_by all_goals omega
theorem each_l2 {p d : ByteArray} {t N P : List ByteArray} {X : ByteArray} {M : Bool} {i x B : Nat} (hi : i < t.length) (hlt : t.length ≤ 50) (hP : P.length ≤ 50) (hB : B ≤ 100000) : ∀ (r j here : Nat) (used : List Int), P.length - j = r → j ≤ P.length → here ≤ 1000 → used.length = P.length → (∀ q : Nat, q < P.length → 0 ≤ rd used (q : Int) ∧ rd used (q : Int) ≤ B + j) →
    here + ((P.drop j).filter (fun c => begB (rdOf ByteArray.empty t (i : Int)) c)).length = 1 →
    (∀ used' : List Int, used'.length = P.length → (∀ q : Nat, q < P.length → rd used (q : Int) ≤ rd used' (q : Int) ∧ rd used' (q : Int) ≤ B + P.length) → (∀ q : Nat, j ≤ q → q < P.length → begB (rdOf ByteArray.empty t (i : Int)) (rdOf ByteArray.empty P (q : Int)) = true → 1 ≤ rd used' (q : Int)) →
      Ev (fun k => w20_ListingEach.l0 k p d t (x : Int) used' ((i + 1 : Nat) : Int) N P X M) true) →
    Ev (fun k => w20_ListingEach.l2 k p d t (x : Int) used (i : Int) (here : Int) (j : Int) N P X M) true
  | r, j, here, used, hr, hj, hh, hu, hb, hone, hk => by
    by_cases hjl : j < P.length
    · have hc := drop_rd P j hjl
      rw [hc] at hone
      have hbj := hb j hjl
      by_cases he : begB (rdOf ByteArray.empty t (i : Int)) (rdOf ByteArray.empty P (j : Int)) = true
      · rw [List.filter_cons_of_pos he, List.length_cons] at hone
        have ih := each_l2 (p := p) (d := d) (t := t) (N := N) (P := P) (X := X) (M := M) (x := x) (B := B) hi hlt hP hB (r - 1) (j + 1) (here + 1) (used.set j (rd used (j : Int) + 1)) (by omega) (by omega) (by omega) (by rw [List.length_set]; exact hu)
          (fun q hq => by
            rw [rd_set _ _ _ _ (by omega)]
            have := hb q hq
            split <;> omega)
          (by have h := hone; rw [← Nat.add_assoc, Nat.add_right_comm] at h; exact h)
          (fun used' h1 h2 h3 => hk used' h1 (fun q hq => by
              have h := h2 q hq
              rw [rd_set _ _ _ _ (by omega)] at h
              by_cases e : q = j
              · rw [if_pos e] at h
                subst e
                omega
              · rw [if_neg e] at h
                exact h) (fun q hq1 hq2 hq3 => by
              by_cases e : q = j
              · have h := h2 q hq2
                rw [rd_set _ _ _ _ (by omega), if_pos e] at h
                omega
              · exact h3 q (by omega) hq2 hq3))
        refine Ev.succ (fun k => ?_) ih
        simp only [w20_ListingEach.l2]
        rw [if_pos (by omega), if_pos (by omega), if_pos (by omega), if_pos (by omega), starts_f, he, Option.bind_some, if_pos rfl, if_pos (by omega), wr_one here (by omega), wr_one j (by omega), wr_in (rd used (j : Int) + 1) (by omega), Int.toNat_natCast]
      · have he' : begB (rdOf ByteArray.empty t (i : Int)) (rdOf ByteArray.empty P (j : Int)) = false := by simpa using he
        rw [List.filter_cons_of_neg he] at hone
        have ih := each_l2 (p := p) (d := d) (t := t) (N := N) (P := P) (X := X) (M := M) (x := x) (B := B) hi hlt hP hB (r - 1) (j + 1) here used (by omega) (by omega) (by omega) hu (fun q hq => by have := hb q hq; omega) hone
          (fun used' h1 h2 h3 => hk used' h1 h2 (fun q hq1 hq2 hq3 => by
              by_cases e : q = j
              · subst e
                rw [he'] at hq3
                cases hq3
              · exact h3 q (by omega) hq2 hq3))
        refine Ev.succ (fun k => ?_) ih
        simp only [w20_ListingEach.l2]
        rw [if_pos (by omega), if_pos (by omega), if_pos (by omega), if_pos (by omega), starts_f, he', Option.bind_some, if_neg (by simp), wr_one j (by omega)]
    · rw [List.drop_eq_nil_of_le (by omega)] at hone
      have hh1 : here = 1 := by simpa using hone
      have := hk used hu (fun q hq => ⟨Int.le_refl _, by have := hb q hq; omega⟩) (fun q h1 h2 => absurd h2 (by omega))
      refine Ev.succ (fun k => ?_) this
      simp only [w20_ListingEach.l2]
      rw [if_neg (by omega), if_pos (by omega), wr_one i (by omega)]
  termination_by r => r
  decreasing_by all_goals omega
theorem each_l3 {p d : ByteArray} {t N P : List ByteArray} {used : List Int} (hP : P.length ≤ 50) (hu : used.length = P.length) (h1 : ∀ q : Nat, q < P.length → 1 ≤ rd used (q : Int))
    (h2 : ∀ c ∈ P, p.size < c.size ∧ c.size ≤ 9223372036854775807 ∧ begB c p = true ∧ (c.extract (c.size - 1) c.size).toList = d.toList) (h3 : d.toList = [] → P = []) : ∀ (r j : Nat), P.length - j = r → j ≤ P.length →
    Ev (fun k => w20_ListingEach.l3 k p d (N.length : Int) used (j : Int) N P ⟨#[]⟩ false) true
  | r, j, hr, hj => by
    by_cases hjl : j < P.length
    · obtain ⟨a1, a2, a3, a4⟩ := h2 _ (rd_mem P j hjl)
      have hu1 := h1 j hjl
      refine Ev.succ (fun k => ?_) (each_l3 (t := t) (N := N) hP hu h1 h2 h3 (r - 1) (j + 1) (by omega) (by omega))
      simp only [w20_ListingEach.l3]
      rw [if_pos (by omega), if_pos (by omega), if_pos (by omega), if_neg (by omega), if_neg (by omega), starts_f, a3, Option.bind_some, if_pos rfl, wr_in (((rdOf ByteArray.empty P (j : Int)).size : Int) - 1) (by omega), if_pos (by omega), if_pos (by omega),
        show (((rdOf ByteArray.empty P (j : Int)).size : Int) - 1).toNat = (rdOf ByteArray.empty P (j : Int)).size - 1 by omega, if_pos a4, wr_one j (by omega)]
    · refine Ev.succ (G := fun _ => some true) (fun k => ?_) (Ev.const true)
      simp only [w20_ListingEach.l3]
      rw [if_neg (by omega), if_pos trivial]
      by_cases hd : d.toList = []
      · have := h3 hd
        subst this
        rw [if_pos hd, if_pos (by rfl), if_neg (by simp)]
        rfl
      · rw [if_neg hd, if_neg (by simp)]
        rfl
  termination_by r => r
  decreasing_by omega
theorem prefs_props {p d : ByteArray} (hd : d.size ≤ 1) {t : List ByteArray} (ht : Asc t) (hsm : small t) {c : ByteArray} (hc : c ∈ lpPrefs (whole p d t)) :
    p.size < c.size ∧ c.size ≤ 9223372036854775807 ∧ begB c p = true ∧ (c.extract (c.size - 1) c.size).toList = d.toList := by
  obtain ⟨s, h1, h2, h3⟩ := whole_act hd ht (in_prefs.1 hc)
  have hb := (act_iff.1 h2).1
  have hT : (entOf s d p.size).2 = true := by rw [← h3]
  have e : (entOf s d p.size).1 = c := by rw [← h3]
  obtain ⟨x, g1, g2, g3⟩ := ent_true hd hb hT
  obtain ⟨v, hv⟩ := cut_end x _ g3
  rw [e, hv] at g2
  have hl := congrArg List.length g2
  rw [List.length_append, List.length_append, tl_length, tl_length, List.length_singleton] at hl
  have hsz := ent_size hd hb
  rw [e] at hsz
  refine ⟨by omega, Nat.le_trans hsz (hsm s h1), (begB_iff c p).2 ⟨_, g2⟩, ?_⟩
  rw [Lib.extract_toList, ← Lib.toList_data, g1, g2, ← List.append_assoc]
  have : c.size - 1 = (p.toList ++ v).length := by rw [List.length_append, tl_length]; omega
  rw [this, List.drop_left]
  exact List.take_of_length_le (by rw [List.length_singleton, List.length_append, tl_length]; omega)
theorem prefs_none {p d : ByteArray} (hd : d.size ≤ 1) {t : List ByteArray} (ht : Asc t) (h : d.toList = []) : lpPrefs (whole p d t) = [] := by
  cases hp : lpPrefs (whole p d t) with
  | nil => rfl
  | cons c l =>
    have hc : c ∈ lpPrefs (whole p d t) := by rw [hp]; exact List.mem_cons_self
    obtain ⟨s, h1, h2, h3⟩ := whole_act hd ht (in_prefs.1 hc)
    obtain ⟨x, g1, _, _⟩ := ent_true hd (act_iff.1 h2).1 (by rw [← h3])
    rw [h] at g1
    cases g1
theorem each_l0 {p d : ByteArray} (hd : d.size ≤ 1) {t : List ByteArray} (ht : Asc t) (hsm : small t) (hlen : t.length ≤ 50) : ∀ (r i : Nat) (used : List Int), t.length - i = r → i ≤ t.length → used.length = (lpPrefs (whole p d t)).length →
    (∀ q : Nat, q < (lpPrefs (whole p d t)).length → 0 ≤ rd used (q : Int) ∧ rd used (q : Int) ≤ ((50 * i : Nat) : Int)) →
    (∀ q : Nat, q < (lpPrefs (whole p d t)).length → ∀ j : Nat, j < i → act p (rdOf ByteArray.empty t (j : Int)) = true → begB (rdOf ByteArray.empty t (j : Int)) (rdOf ByteArray.empty (lpPrefs (whole p d t)) (q : Int)) = true → 1 ≤ rd used (q : Int)) →
    Ev (fun k => w20_ListingEach.l0 k p d t ((((t.take i).filter (plainOf p d)).length : Nat) : Int) used (i : Int) (lpNames (whole p d t)) (lpPrefs (whole p d t)) ⟨#[]⟩ false) true
  | r, i, used, hr, hi, hu, hb, hn => by
    have hwl := whole_len p d t
    have hpl := parts_len (whole p d t)
    by_cases hil : i < t.length
    · have htake : t.take (i + 1) = t.take i ++ [rdOf ByteArray.empty t (i : Int)] := by
        rw [List.take_add_one, List.getElem?_eq_getElem hil]
        simp [rdOf, List.getD_eq_getElem?_getD, hil]
      have hmem := rd_mem t i hil
      have hlf : ((t.take i).filter (plainOf p d)).length ≤ 50 := Nat.le_trans (List.length_filter_le _ _) (by rw [List.length_take]; omega)
      cases ha : act p (rdOf ByteArray.empty t (i : Int)) with
      | false =>
        have hx : ((t.take (i + 1)).filter (plainOf p d)).length = ((t.take i).filter (plainOf p d)).length := by
          rw [htake, List.filter_append, List.filter_cons_of_neg (by unfold plainOf; rw [ha]; simp), List.filter_nil, List.append_nil]
        have ih := each_l0 (p := p) hd ht hsm hlen (r - 1) (i + 1) used (by omega) (by omega) hu (fun q hq => by have := hb q hq; omega) (fun q hq j hj ha' hb' => by
          by_cases e : j = i
          · subst e
            rw [ha] at ha'
            cases ha'
          · exact hn q hq j (by omega) ha' hb')
        rw [hx] at ih
        refine Ev.succ (G := fun k => w20_ListingEach.j1 k p d t ((((t.take i).filter (plainOf p d)).length : Nat) : Int) used (i : Int) true (lpNames (whole p d t)) (lpPrefs (whole p d t)) ⟨#[]⟩ false) (fun k => ?_) (Ev.succ (fun k => ?_) ih)
        · simp only [w20_ListingEach.l0]
          rw [if_pos (by omega), if_pos (by omega), starts_f, Option.bind_some]
          cases hbb : begB (rdOf ByteArray.empty t (i : Int)) p with
          | false => rw [if_neg (by simp)]
          | true =>
            have : ((rdOf ByteArray.empty t (i : Int)).toList == ([] : List UInt8)) = true := by
              unfold act at ha
              rw [hbb] at ha
              simpa using ha
            rw [if_pos rfl, this]
        · simp only [w20_ListingEach.j1]
          rw [if_pos trivial, wr_one i (by omega)]
      | true =>
        obtain ⟨h1, h2⟩ := here_one hd ht hmem ha
        obtain ⟨hbb, hne⟩ := act_iff.1 ha
        have hx : ((t.take (i + 1)).filter (plainOf p d)).length = ((t.take i).filter (plainOf p d)).length + ((lpNames (whole p d t)).filter (fun y => y.toList == (rdOf ByteArray.empty t (i : Int)).toList)).length := by
          rw [htake, List.filter_append, List.length_append, h1]
          congr 1
          cases hq : plainOf p d (rdOf ByteArray.empty t (i : Int)) with
          | true => rw [List.filter_cons_of_pos hq]; rfl
          | false => rw [List.filter_cons_of_neg (by rw [hq]; simp)]; rfl
        have hfl : ((lpNames (whole p d t)).filter (fun y => y.toList == (rdOf ByteArray.empty t (i : Int)).toList)).length ≤ 1 := by omega
        refine Ev.succ (G := fun k => w20_ListingEach.j1 k p d t ((((t.take i).filter (plainOf p d)).length : Nat) : Int) used (i : Int) false (lpNames (whole p d t)) (lpPrefs (whole p d t)) ⟨#[]⟩ false) (fun k => ?_) (Ev.succ (G := fun k => w20_ListingEach.l1 k p d t ((((t.take i).filter (plainOf p d)).length : Nat) : Int) used (i : Int) 0 0 (lpNames (whole p d t)) (lpPrefs (whole p d t)) ⟨#[]⟩ false) (fun k => ?_) ?_)
        · simp only [w20_ListingEach.l0]
          rw [if_pos (by omega), if_pos (by omega), starts_f, hbb, Option.bind_some, if_pos rfl]
          have : ((rdOf ByteArray.empty t (i : Int)).toList == ([] : List UInt8)) = false := by rw [beq_eq_false_iff_ne]; exact hne
          rw [this]
        · simp only [w20_ListingEach.j1]
          rw [if_neg (by simp)]
        · refine each_l1 (i := i) hil (by omega) _ 0 _ 0 rfl (by omega) (by omega) (by omega) ?_
          rw [List.drop_zero, Nat.zero_add, ← hx]
          refine each_l2 (i := i) (B := 50 * i) hil hlen (by omega) (by omega) _ 0 _ used rfl (by omega) (by omega) hu (fun q hq => by have := hb q hq; omega) (by rw [List.drop_zero]; exact h2) (fun used' g1 g2 g3 => ?_)
          refine each_l0 (p := p) hd ht hsm hlen (r - 1) (i + 1) used' (by omega) (by omega) g1 (fun q hq => by have := hb q hq; have := g2 q hq; omega) (fun q hq j hj ha' hb' => ?_)
          by_cases e : j = i
          · subst e
            exact g3 q (by omega) hq hb'
          · have := hn q hq j (by omega) ha' hb'
            have := g2 q hq
            omega
    · obtain rfl : i = t.length := by omega
      rw [List.take_length, ← names_eq hd ht]
      refine Ev.succ (fun k => ?_) (each_l3 (t := t) (N := lpNames (whole p d t)) (by omega) hu (fun q hq => ?_) (fun c hc => prefs_props hd ht hsm hc) (prefs_none hd ht) _ 0 rfl (by omega))
      · simp only [w20_ListingEach.l0]
        rw [if_neg (by omega)]
        rfl
      · have hc := rd_mem (lpPrefs (whole p d t)) q hq
        obtain ⟨s, h1, h2, h3⟩ := whole_act hd ht (in_prefs.1 hc)
        obtain ⟨j, hj, rfl⟩ := List.mem_iff_getElem.1 h1
        have hrd : rdOf ByteArray.empty t (j : Int) = t[j] := by simp [rdOf, List.getD_eq_getElem?_getD, hj]
        refine hn q hq j hj (by rw [hrd]; exact h2) ?_
        rw [hrd]
        have hT : (entOf t[j] d p.size).2 = true := by rw [← h3]
        have e : (entOf t[j] d p.size).1 = rdOf ByteArray.empty (lpPrefs (whole p d t)) (q : Int) := by rw [← h3]
        rw [← e]
        exact (begins_common hd (act_iff.1 h2).1 (act_iff.1 h2).1 hT).2 rfl
  termination_by r => r
  decreasing_by all_goals omega
theorem ListingEach (l0 : List ByteArray) (a1 a2 : ByteArray) (w0 : l0.length * 16 ≤ 140737488351232) (z0 : ∀ s ∈ l0, s.size ≤ 9223372036854775807)
    (_ : a1.size ≤ 140737488351232) (_ : a2.size ≤ 140737488351232) : ∃ k, w20_ListingEach.f k l0 a1 a2 = some true := by
  have : Ev (fun k => w20_ListingEach.f k l0 a1 a2) true := by
    unfold w20_ListingEach.f
    by_cases h50 : (l0.length : Int) > 50
    · simp only [if_pos h50]
      exact Ev.const true
    · simp only [if_neg h50]
      have hs : w20_sorted.f l0 = some (srt l0) := by
        unfold w20_sorted.f
        rw [if_pos (by omega)]
      rw [hs]
      simp only [Option.bind_some]
      have hlen := srt_len l0
      have hasc := srt_asc l0
      have hsm : small (srt l0) := fun s h => z0 s (srt_mem h)
      generalize srt l0 = t at hlen hasc hsm
      obtain ⟨c, hc⟩ := check_some a1 a2 ⟨#[]⟩ 50
      by_cases h0 : c = 0
      · subst h0
        obtain ⟨h1, h2, h3, _, _⟩ := check_ok hc
        have hpage := page_of (m := 50) (a := ⟨#[]⟩) hasc hsm h1 h2 (by decide) (by omega)
        have hel := whole_len a1 a2 t
        have hall : pageOf (ents a1 a2 ⟨#[]⟩ t (⟨#[]⟩, false)) 50 = (lpNames (whole a1 a2 t), lpPrefs (whole a1 a2 t), ⟨#[]⟩, false, 0) := by
          unfold pageOf
          show (lpNames ((whole a1 a2 t).take 50), lpPrefs ((whole a1 a2 t).take 50), if 50 < (whole a1 a2 t).length then _ else _, decide (50 < (whole a1 a2 t).length), (0 : Int)) = _
          rw [List.take_of_length_le (by omega), if_neg (by omega), decide_eq_false (by omega)]
        rw [hall] at hpage
        have hpage' : listing_Page.f t a1 a2 ⟨#[]⟩ 50 = some (lpNames (whole a1 a2 t), lpPrefs (whole a1 a2 t), ⟨#[]⟩, false, 0) := hpage
        have hpl := parts_len (whole a1 a2 t)
        simp only [hpage', Option.bind_some, if_true]
        simp only [if_pos (show (0 : Int) ≤ ((lpPrefs (whole a1 a2 t)).length : Int) by omega), Int.toNat_natCast, if_pos (show (lpPrefs (whole a1 a2 t)).length ≤ 35184372088832 by omega)]
        refine each_l0 h2 hasc hsm (by omega) _ 0 (List.replicate (lpPrefs (whole a1 a2 t)).length 0) rfl (by omega) (by rw [List.length_replicate]) (fun q hq => ?_) (fun q hq j hj => absurd hj (by omega))
        have : rd (List.replicate (lpPrefs (whole a1 a2 t)).length 0) (q : Int) = 0 := by
          unfold rd
          rw [Int.toNat_natCast, List.getD_eq_getElem?_getD, List.getElem?_replicate, if_pos hq]
          rfl
        rw [this]
        omega
      · have hpage : listing_Page.f t a1 a2 ⟨#[]⟩ 50 = some ([], [], ⟨#[]⟩, false, c) := by
          unfold listing_Page.f
          rw [hc]
          simp only [Option.bind_some, if_neg h0]
        simp only [hpage, Option.bind_some, if_neg h0]
        exact Ev.const true
  obtain ⟨K, h⟩ := this
  exact ⟨K, h K (Nat.le_refl K)⟩
end Go.Proofs.Ytbhmffbpbicilaa.Pure
