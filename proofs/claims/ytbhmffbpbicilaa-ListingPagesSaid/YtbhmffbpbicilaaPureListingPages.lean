import Derived.Test.YtbhmffbpbicilaaPureListModel
namespace Go.Proofs.Ytbhmffbpbicilaa.Pure
open Go.RowKit Go.Proofs.Ytbhmffbpbicilaa.P Go.Proofs.YtbhmffbpbicilaaW.PrintWords Go.Proofs.YtbhmffbpbicilaaW.PrintLast
theorem page_lengths {l : List ByteArray} {p d a : ByteArray} {m : Int} {r : List ByteArray × List ByteArray × ByteArray × Bool × Int} (hs : small l) (h : listing_Page.f l p d a m = some r) : r.1.length ≤ l.length ∧ r.2.1.length ≤ l.length := by
  unfold listing_Page.f at h
  obtain ⟨c, hc, h⟩ := Option.bind_eq_some_iff.1 h
  by_cases h0 : c = 0
  · subst h0
    rw [if_pos rfl] at h
    by_cases hq : lpAsc l = true
    · rw [if_pos hq, lpEnts_eq p d a (check_ok hc).2.1 l (a, false) hs] at h
      have h := Option.some.inj h
      subst h
      have he := ents_length p d a l (a, false)
      constructor
      · show (lpNames _).length ≤ _
        unfold lpNames
        rw [List.length_map]
        exact Nat.le_trans (List.length_filter_le _ _) (Nat.le_trans (by rw [List.length_take]; omega) he)
      · show (lpPrefs _).length ≤ _
        unfold lpPrefs
        rw [List.length_map]
        exact Nat.le_trans (List.length_filter_le _ _) (Nat.le_trans (by rw [List.length_take]; omega) he)
    · rw [if_neg hq] at h
      have h := Option.some.inj h
      subst h
      simp
  · rw [if_neg h0] at h
    have h := Option.some.inj h
    subst h
    simp
theorem ListingPages (l0 : List ByteArray) (a1 a2 a3 : ByteArray) (a4 : Int) (w0 : l0.length * 16 ≤ 140737488351232) (z0 : ∀ s ∈ l0, s.size ≤ 9223372036854775807)
    (w1 : a1.size ≤ 140737488351232) (w2 : a2.size ≤ 140737488351232) (w3 : a3.size ≤ 140737488351232) (w4 : (Lit.int .i64 a4).wf = true) : ∃ k, w20_ListingPages.f k l0 a1 a2 a3 a4 = some true := by
  have : Ev (fun k => w20_ListingPages.f k l0 a1 a2 a3 a4) true := by
    unfold w20_ListingPages.f w20_few.f
    simp only [Option.bind_some]
    by_cases hf : (l0.length : Int) ≤ 500
    · simp only [decide_eq_true hf, if_true, List.nil_append, List.length_nil]
      obtain ⟨r, h1, h2⟩ := r_page_f l0 a1 a2 a3 a4 z0 (by omega)
      obtain ⟨hn, hp⟩ := page_lengths z0 h1
      obtain ⟨r1, r2, r3, r4, r5⟩ := r
      replace hn : r1.length ≤ l0.length := hn
      replace hp : r2.length ≤ l0.length := hp
      simp only [if_pos (show 0 + l0.length < 8796093022208 by omega), h1, Option.bind_some]
      refine Ev.bind h2 (Ev.bind (same_f r1 r2 r3 r4 (by omega) (by omega)) ?_)
      simp only [if_true]
      exact Ev.const _
    · simp only [decide_eq_false hf, Bool.false_eq_true, if_false]
      exact Ev.const _
  obtain ⟨K, h⟩ := this
  exact ⟨K, h K (Nat.le_refl K)⟩
end Go.Proofs.Ytbhmffbpbicilaa.Pure
