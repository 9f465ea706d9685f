import Derived.Test.YtbhmffbpbicilaaPureListWhole
import Derived.Test.YtbhmffbpbicilaaPx14
namespace Go.Proofs.Ytbhmffbpbicilaa.Pure
open Go.RowKit Go.Proofs.Ytbhmffbpbicilaa.P Go.Proofs.YtbhmffbpbicilaaW.PrintWords Go.Proofs.YtbhmffbpbicilaaW.PrintLast
theorem whole_l1 {t : List ByteArray} {p d : ByteArray} {m : Nat} (ht : Asc t) (hsm : small t) (hp : p.size ≤ 32) (hd : d.size ≤ 1) (hm : 1 ≤ m ∧ m ≤ 50) (hlen : t.length ≤ 50) (h32 : ∀ s ∈ t, s.size ≤ 32) : ∀ (r i n : Nat) (a : ByteArray), (whole p d t).length - i = r → i ≤ (whole p d t).length → n ≤ i → a.size ≤ 32 → ents p d a t (a, false) = (whole p d t).drop i → (∀ x ∈ (whole p d t).drop i, Lt a x.1) →
    Ev (fun k => w20_ListingWhole.l1 k p d (m : Int) t a (n : Int) (lpNames (whole p d t)) (lpPrefs (whole p d t)) ⟨#[]⟩ false (lpNames ((whole p d t).take i)) (lpPrefs ((whole p d t).take i)) ⟨#[]⟩ false) true := by
  intro r
  have hrise := (whole_rise (p := p) hd ht).1
  have hel := whole_len p d t
  have hafter : ∀ b : ByteArray, ents p d b t (b, false) = (whole p d t).filter (over b) := ents_after hd ht
  have hsz : ∀ x ∈ whole p d t, x.1.size ≤ 32 := by
    intro x hx
    obtain ⟨s, h1, h2, rfl⟩ := whole_from hx
    exact Nat.le_trans (ent_size hd h2) (h32 s h1)
  generalize whole p d t = es at *
  induction r using Nat.strongRecOn with
  | _ r ih =>
    intro i n a hr hi hn ha he ho
    have hpage := page_of (m := m) ht hsm hp hd ha hm
    rw [he] at hpage
    have hcount := parts_len ((es.drop i).take m)
    rw [List.length_take, List.length_drop] at hcount
    have hnames : lpNames (es.take i) ++ lpNames ((es.drop i).take m) = lpNames (es.take (i + m)) := by rw [← names_app, List.take_add]
    have hprefs : lpPrefs (es.take i) ++ lpPrefs ((es.drop i).take m) = lpPrefs (es.take (i + m)) := by rw [← prefs_app, List.take_add]
    have hti := parts_len (es.take i)
    rw [List.length_take] at hti
    have hw : Aside0 (wrap64 (((lpNames ((es.drop i).take m)).length : Int) + ((lpPrefs ((es.drop i).take m)).length : Int)) = ((min m (es.length - i) : Nat) : Int)) := ⟨by rw [wr_in _ (by omega)]; omega⟩
    by_cases hmore : m < (es.drop i).length
    · have hml := hmore
      rw [List.length_drop] at hml
      have hin : i + m - 1 < es.length := by omega
      have hx : ((es.drop i).getD (m - 1) (⟨#[]⟩, false)) = es[i + m - 1] := by
        rw [List.getD_eq_getElem?_getD, List.getElem?_drop, show i + (m - 1) = i + m - 1 by omega, List.getElem?_eq_getElem hin]
        rfl
      have hmem : es[i + m - 1] ∈ es.drop i := by
        rw [List.mem_iff_getElem]
        refine ⟨m - 1, by omega, ?_⟩
        rw [List.getElem_drop]
        congr 1
        omega
      have hlt := ho _ hmem
      have hb := behind hrise (i + m - 1) hin
      rw [show i + m - 1 + 1 = i + m by omega] at hb
      have hs1 := hsz _ (List.getElem_mem hin)
      generalize es[i + m - 1] = x at hx hlt hb hs1
      have hnext := ih (es.length - (i + m)) (by omega) (i + m) (n + 1) x.1 rfl (by omega) (by omega) hs1 ((hafter x.1).trans hb) (fun y hy => by rw [← hb] at hy; exact (List.mem_filter.1 hy).2)
      refine Ev.succ (G := fun k => w20_ListingWhole.j3 k p d (m : Int) t (n : Int) false (lpNames es) (lpPrefs es) ⟨#[]⟩ false (lpNames (es.take i)) (lpPrefs (es.take i)) ⟨#[]⟩ false (lpNames ((es.drop i).take m)) (lpPrefs ((es.drop i).take m)) x.1 true) (fun k => ?_) ?_
      · simp only [w20_ListingWhole.l1]
        rw [hpage]
        unfold pageOf
        rw [hx]
        simp only [Option.bind_some, if_true, if_pos hmore, decide_eq_true hmore]
        rw [if_neg (by omega), hw.out, if_neg (by omega), if_pos (by omega), if_pos (show Op.bytesLess a.toList x.1.toList = true from hlt)]
      · refine Ev.succ (fun k => ?_) hnext
        simp only [w20_ListingWhole.j3]
        rw [if_neg (by simp), if_pos (by omega), Option.bind_some, if_pos (by omega), Option.bind_some, hnames, hprefs, wr_up n (by omega), if_pos trivial]
    · have hml := hmore
      rw [List.length_drop] at hml
      have hall : es.take (i + m) = es := List.take_of_length_le (by omega)
      rw [hall] at hnames hprefs
      have hsame := same_f (lpNames es) (lpPrefs es) ⟨#[]⟩ false (by have := parts_len es; omega) (by have := parts_len es; omega)
      refine Ev.succ (G := fun k => w20_ListingWhole.j3 k p d (m : Int) t (n : Int) false (lpNames es) (lpPrefs es) ⟨#[]⟩ false (lpNames (es.take i)) (lpPrefs (es.take i)) ⟨#[]⟩ false (lpNames ((es.drop i).take m)) (lpPrefs ((es.drop i).take m)) ⟨#[]⟩ false) (fun k => ?_) ?_
      · simp only [w20_ListingWhole.l1]
        rw [hpage]
        unfold pageOf
        simp only [Option.bind_some, if_true, if_neg hmore, decide_eq_false hmore]
        rw [if_neg (by omega), hw.out, if_neg (by omega), if_neg (by simp), empty_list]
        rfl
      · refine Ev.succ (G := fun k => (r20_Same.f k (lpNames es) (lpPrefs es) ⟨#[]⟩ false (lpNames es) (lpPrefs es) ⟨#[]⟩ false).bind fun t210 => if t210 = true then (if false = true then some false else (w20_lives.f).bind fun t211 => some t211) else some false) (fun k => ?_) (Ev.bind hsame (Ev.const true))
        simp only [w20_ListingWhole.j3]
        rw [if_neg (by simp), if_pos (by omega), Option.bind_some, if_pos (by omega), Option.bind_some, hnames, hprefs, if_neg (by simp)]
theorem whole_l0 {t : List ByteArray} {p d : ByteArray} {m : Nat} (ht : Asc t) (hsm : small t) (hp : p.size ≤ 32) (hd : d.size ≤ 1) (hm : 1 ≤ m ∧ m ≤ 50) (hlen : t.length ≤ 50) : ∀ (r i : Nat), t.length - i = r → (∀ j : Nat, j < i → (rdOf ByteArray.empty t (j : Int)).size ≤ 32) →
    Ev (fun k => w20_ListingWhole.l0 k p d (m : Int) t (i : Int) (lpNames (whole p d t)) (lpPrefs (whole p d t)) ⟨#[]⟩ false) true
  | r, i, hr, hj => by
    by_cases hi : i < t.length
    · by_cases hs : (rdOf ByteArray.empty t (i : Int)).size ≤ 32
      · refine Ev.succ (fun k => ?_) (whole_l0 ht hsm hp hd hm hlen (r - 1) (i + 1) (by omega) (fun j hj' => by
          by_cases e : j = i
          · rw [e]; exact hs
          · exact hj j (by omega)))
        simp only [w20_ListingWhole.l0]
        rw [if_pos (by omega), if_pos (by omega), if_neg (by omega), wr_up i (by omega)]
      · refine Ev.succ (G := fun _ => some true) (fun k => ?_) (Ev.const true)
        simp only [w20_ListingWhole.l0]
        rw [if_pos (by omega), if_pos (by omega), if_pos (by omega)]
        rfl
    · have h32 : ∀ s ∈ t, s.size ≤ 32 := by
        intro s hs
        obtain ⟨j, hj1, rfl⟩ := List.mem_iff_getElem.1 hs
        have := hj j (by omega)
        simpa [rdOf, List.getD_eq_getElem?_getD, hj1] using this
      have h := whole_l1 ht hsm hp hd hm hlen h32 _ 0 0 ⟨#[]⟩ rfl (by omega) (by omega) (by decide) (by rw [List.drop_zero]; rfl) (fun x hx => (whole_rise hd ht).2 x (by rw [List.drop_zero] at hx; exact hx))
      rw [List.take_zero] at h
      refine Ev.succ (fun k => ?_) h
      simp only [w20_ListingWhole.l0]
      rw [if_neg (by omega)]
      rfl
  termination_by r => r
  decreasing_by omega
theorem ListingWhole (l0 : List ByteArray) (a1 a2 : ByteArray) (a3 : Int) (w0 : l0.length * 16 ≤ 140737488351232) (z0 : ∀ s ∈ l0, s.size ≤ 9223372036854775807)
    (_ : a1.size ≤ 140737488351232) (_ : a2.size ≤ 140737488351232) (_ : (Lit.int .i64 a3).wf = true) : ∃ k, w20_ListingWhole.f k l0 a1 a2 a3 = some true := by
  have : Ev (fun k => w20_ListingWhole.f k l0 a1 a2 a3) true := by
    unfold w20_ListingWhole.f
    by_cases h50 : (l0.length : Int) > 50
    · simp only [if_pos h50]
      exact Ev.const true
    · simp only [if_neg h50]
      have hs : w20_sorted.f l0 = some (srt l0) := by
        unfold w20_sorted.f
        rw [if_pos (by omega)]
      rw [hs]
      simp only [Option.bind_some]
      have hlen := srt_len l0
      have hasc := srt_asc l0
      have hsm : small (srt l0) := fun s h => z0 s (srt_mem h)
      generalize srt l0 = t at hlen hasc hsm
      obtain ⟨c, hc⟩ := check_some a1 a2 ⟨#[]⟩ 50
      by_cases h0 : c = 0
      · subst h0
        obtain ⟨h1, h2, h3, _, _⟩ := check_ok hc
        have hpage := page_of (m := 50) (a := ⟨#[]⟩) hasc hsm h1 h2 (by decide) (by omega)
        have hel := whole_len a1 a2 t
        have hall : pageOf (ents a1 a2 ⟨#[]⟩ t (⟨#[]⟩, false)) 50 = (lpNames (whole a1 a2 t), lpPrefs (whole a1 a2 t), ⟨#[]⟩, false, 0) := by
          unfold pageOf
          show (lpNames ((whole a1 a2 t).take 50), lpPrefs ((whole a1 a2 t).take 50), if 50 < (whole a1 a2 t).length then _ else _, decide (50 < (whole a1 a2 t).length), (0 : Int)) = _
          rw [List.take_of_length_le (by omega), if_neg (by omega), decide_eq_false (by omega)]
        rw [hall] at hpage
        have hpage' : listing_Page.f t a1 a2 ⟨#[]⟩ 50 = some (lpNames (whole a1 a2 t), lpPrefs (whole a1 a2 t), ⟨#[]⟩, false, 0) := hpage
        simp only [hpage', Option.bind_some, if_true]
        have hj : ∀ b, b = true ∨ (1 ≤ a3 ∧ a3 ≤ 50) → Ev (fun k => w20_ListingWhole.j0 k a1 a2 a3 t b (lpNames (whole a1 a2 t)) (lpPrefs (whole a1 a2 t)) ⟨#[]⟩ false) true := by
          intro b hb
          cases b with
          | true => exact Ev.succ (G := fun _ => some true) (fun k => rfl) (Ev.const true)
          | false =>
            have hb := hb.resolve_left (by simp)
            obtain ⟨m, rfl⟩ := Int.eq_ofNat_of_zero_le (by omega : 0 ≤ a3)
            exact Ev.succ (fun k => rfl) (whole_l0 hasc hsm h1 h2 (m := m) (by omega) (by omega) _ 0 rfl (fun j hj => absurd hj (by omega)))
        by_cases ha : a3 < 1
        · simp only [if_pos ha]
          exact hj true (.inl rfl)
        · simp only [if_neg ha]
          refine hj _ ?_
          by_cases ha2 : a3 > 50
          · exact .inl (decide_eq_true ha2)
          · exact .inr (by omega)
      · have hpage : listing_Page.f t a1 a2 ⟨#[]⟩ 50 = some ([], [], ⟨#[]⟩, false, c) := by
          unfold listing_Page.f
          rw [hc]
          simp only [Option.bind_some, if_neg h0]
        simp only [hpage, Option.bind_some, if_neg h0]
        exact Ev.bind (same_f [] [] ⟨#[]⟩ false (by simp) (by simp)) (Ev.const true)
  obtain ⟨K, h⟩ := this
  exact ⟨K, h K (Nat.le_refl K)⟩
end Go.Proofs.Ytbhmffbpbicilaa.Pure
