import Derived.Test.YtbhmffbpbicilaaPureListOrder
namespace Go.Proofs.Ytbhmffbpbicilaa.Pure
open Go.RowKit Go.Proofs.Ytbhmffbpbicilaa.P Go.Proofs.YtbhmffbpbicilaaW.PrintWords Go.Proofs.YtbhmffbpbicilaaW.PrintLast
theorem names_app (a b : List (ByteArray × Bool)) : lpNames (a ++ b) = lpNames a ++ lpNames b := by simp [lpNames]
theorem prefs_app (a b : List (ByteArray × Bool)) : lpPrefs (a ++ b) = lpPrefs a ++ lpPrefs b := by simp [lpPrefs]
theorem parts_len : ∀ l : List (ByteArray × Bool), (lpNames l).length + (lpPrefs l).length = l.length
  | [] => rfl
  | x :: l => by
    have ih := parts_len l
    unfold lpNames lpPrefs at ih ⊢
    rw [List.length_map, List.length_map] at ih ⊢
    cases h : x.2 with
    | true => rw [List.filter_cons_of_neg (by simp [h]), List.filter_cons_of_pos (by simp [h])]; simp only [List.length_cons]; omega
    | false => rw [List.filter_cons_of_pos (by simp [h]), List.filter_cons_of_neg (by simp [h])]; simp only [List.length_cons]; omega
theorem whole_len (p d : ByteArray) (l : List ByteArray) : (whole p d l).length ≤ l.length := ents_length p d _ l _
theorem whole_from {p d : ByteArray} {l : List ByteArray} {x : ByteArray × Bool} (h : x ∈ whole p d l) : ∃ s ∈ l, begB s p = true ∧ x = entOf s d p.size := by
  unfold whole at h
  rw [ents_dd] at h
  have h2 := (List.mem_filter.1 (dd_sub _ _ x h).1).1
  unfold raw at h2
  obtain ⟨s, hs, rfl⟩ := List.mem_map.1 h2
  obtain ⟨h3, h4⟩ := List.mem_filter.1 hs
  exact ⟨s, h3, h4, rfl⟩
theorem ent_size {s p d : ByteArray} (hd : d.size ≤ 1) (h : begB s p = true) : (entOf s d p.size).1.size ≤ s.size := by
  have e := (entOf_list hd h).1
  have hl : (entL p.toList d.toList (s.toList.drop p.size)).1.length ≤ s.toList.length := by
    rw [begB_split h]
    have hc : ∀ (c : UInt8) (u : List UInt8), (cut c u).1.length ≤ u.length := by
      intro c u
      induction u with
      | nil => exact Nat.le_refl _
      | cons b u ih =>
        unfold cut
        split
        · simp
        · simp only [List.length_cons]; omega
    cases d.toList with
    | nil =>
      show (p.toList ++ _).length ≤ _
      rw [List.length_append, List.length_append, List.length_drop, List.length_append, List.length_drop, tl_length, tl_length]
      omega
    | cons c r =>
      show (p.toList ++ (cut c _).1).length ≤ _
      have := hc c ((p.toList ++ s.toList.drop p.size).drop p.size)
      rw [List.length_append, List.length_append]
      rw [List.length_drop, List.length_append] at this
      rw [tl_length] at this ⊢
      omega
  rw [← e, tl_length, tl_length] at hl
  exact hl
theorem page_of {t : List ByteArray} {p d a : ByteArray} {m : Nat} (ht : Asc t) (hsm : small t) (hp : p.size ≤ 32) (hd : d.size ≤ 1) (ha : a.size ≤ 32) (hm : 1 ≤ m ∧ m ≤ 50) : listing_Page.f t p d a (m : Int) = some (pageOf (ents p d a t (a, false)) m) := by
  have hc : listing_Check.f p d a (m : Int) = some 0 := by
    unfold listing_Check.f
    rw [if_neg (by omega), if_neg (by omega), if_neg (by omega), if_neg (by omega), if_neg (by omega)]
  unfold listing_Page.f
  rw [hc]
  simp only [Option.bind_some, if_true]
  rw [if_pos (asc_lpAsc ht), lpEnts_eq p d a hd t (a, false) hsm, Int.toNat_natCast]
  rfl
end Go.Proofs.Ytbhmffbpbicilaa.Pure
