import Derived.Test.YtbdfmjgndeigpaaDoorPureParseDec
import Derived.Test.YtbdfmjgndeigpaaDoorPureHeadBack
import Derived.KernelRfl
import Derived.Test.YtbdfmjgndeigpaaDoorPx22
import Derived.Test.YtbdfmjgndeigpaaDoorPx18
import Derived.Test.YtbdfmjgndeigpaaDoorPx21
import Derived.Test.YtbdfmjgndeigpaaDoorPx20
import Derived.Test.YtbdfmjgndeigpaaDoorPx10
namespace Go.Proofs.YtbdfmjgndeigpaaDoor.Pure
open Go.RowKit Go.Proofs.YtbdfmjgndeigpaaDoor.P Go.Proofs.YtbdfmjgndeigpaaDoorW.PrintWords Go.Proofs.YtbdfmjgndeigpaaDoorW.PrintLast Go.Proofs.YtbdfmjgndeigpaaDoorW.PrintMore
set_option linter.unusedVariables false
/-! ### A key's bytes are parsed as the key -/
abbrev KeyT := Int × ByteArray × ByteArray × List Int × Int
def failK : KeyT := (0, ⟨#[]⟩, ⟨#[]⟩, [], 4)
def closeR (s : ByteArray) (a : Int) (b c : ByteArray) (l : List Int) : KeyT :=
  if (keyR a b c l).2 = 0 ∧ (keyR a b c l).1.toList = s.toList then (a, b, c, l, 0) else failK
theorem close_f (s : ByteArray) (a : Int) (b c : ByteArray) (l : List Int) (hl : l.length ≤ 1000) :
    Ev (fun k => (layout_Key.f k a b c l).bind fun bt249 => (if bt249.2 = 0 then (if bt249.1.toList = s.toList then (some (a, b, c, l, 0)) else (some (0, (⟨#[]⟩ : ByteArray), (⟨#[]⟩ : ByteArray), ([] : List Int), 4))) else (some (0, (⟨#[]⟩ : ByteArray), (⟨#[]⟩ : ByteArray), ([] : List Int), 4)))) (closeR s a b c l) := by
  refine Ev.bind (key_f a b c l hl) ?_
  unfold closeR
  by_cases h1 : (keyR a b c l).2 = 0
  · by_cases h2 : (keyR a b c l).1.toList = s.toList
    · rw [if_pos h1, if_pos h2, if_pos (And.intro h1 h2)]
      exact Ev.const _
    · have hn : ¬ ((keyR a b c l).2 = 0 ∧ (keyR a b c l).1.toList = s.toList) := fun h => h2 h.2
      rw [if_pos h1, if_neg h2, if_neg hn]
      exact Ev.const _
  · have hn : ¬ ((keyR a b c l).2 = 0 ∧ (keyR a b c l).1.toList = s.toList) := fun h => h1 h.1
    rw [if_neg h1, if_neg hn]
    exact Ev.const _
theorem parse_l0 (s : ByteArray) (ps : List S91) (hn : ps.length ≤ 200) (a : Int) (b c : ByteArray) : ∀ (r j : Nat) (acc : List Int), ps.length - j = r → j ≤ ps.length → acc.length + (ps.length - j) ≤ 500 →
    Ev (fun k => layout_Parse.l0 k s ps (ps.length : Int) (j : Int) a b c acc) (closeR s a b c (acc ++ (ps.drop j).map (fun p => p.f1)))
  | r, j, acc, hrj, hj, ha => by
    by_cases hjl : j < ps.length
    · rw [drop_T91 ps j hjl, List.map_cons]
      have ih := parse_l0 s ps hn a b c (r - 1) (j + 1) (acc ++ [(rd_T91 ps (j : Int)).f1]) (by omega) (by omega) (by rw [List.length_append, List.length_singleton]; omega)
      rw [List.append_assoc] at ih
      refine Ev.succ (fun k => ?_) ih
      simp only [layout_Parse.l0]
      rw [if_pos (by omega), if_pos (by omega), if_pos (by omega), if_pos (by omega), wr_one j (by omega)]
    · have hd : ps.drop j = [] := List.drop_eq_nil_of_le (by omega)
      rw [hd, List.map_nil, List.append_nil]
      refine Ev.succ (fun k => ?_) (close_f s a b c acc (by omega))
      simp only [layout_Parse.l0]
      rw [if_neg (by omega)]
  termination_by r => r
  decreasing_by omega
def parseKd (p : S91) : Int := wrap64 (Lib.indexByte (⟨#[98, 111, 99, 117, 112, 113]⟩ : ByteArray).data.toList (bt p.f2 0).toNat.toUInt8 + 1)
def parseC (s : ByteArray) (ps : List S91) : KeyT :=
  if parseKd (rd_T91 ps 0) ≠ 1 ∧ 0 < (ps.drop 2).length then closeR s (parseKd (rd_T91 ps 0)) (rd_T91 ps 1).f2 (rd_T91 (ps.drop 2) 0).f2 (((ps.drop 2).drop 1).map fun p => p.f1)
  else closeR s (parseKd (rd_T91 ps 0)) (rd_T91 ps 1).f2 ⟨#[]⟩ ((ps.drop 2).map fun p => p.f1)
theorem parse_j2 (s : ByteArray) (ps : List S91) (hn : ps.length ≤ 200) (a : Int) (b c : ByteArray) : Ev (fun k => layout_Parse.j2 k s ps a b c) (closeR s a b c (ps.map fun p => p.f1)) := by
  refine Ev.succ (fun k => ?_) (parse_l0 s ps hn a b c _ 0 [] rfl (by omega) (by simp; omega))
  simp only [layout_Parse.j2]
  rfl
theorem parse_j1 (s : ByteArray) (ps : List S91) (hn : ps.length ≤ 200) (t : Bool) (ht : t = true → 0 < ps.length) (a : Int) (b c : ByteArray) : Ev (fun k => layout_Parse.j1 k s ps t a b c) (if t = true then closeR s a b (rd_T91 ps 0).f2 ((ps.drop 1).map fun p => p.f1) else closeR s a b c (ps.map fun p => p.f1)) := by
  cases t with
  | false =>
    refine Ev.succ (fun k => ?_) (parse_j2 s ps hn a b c)
    simp only [layout_Parse.j1]
    rw [if_neg (by decide)]
  | true =>
    have h := ht rfl
    refine Ev.succ (fun k => ?_) (parse_j2 s (ps.drop 1) (by rw [List.length_drop]; omega) a b (rd_T91 ps 0).f2)
    simp only [layout_Parse.j1]
    rw [if_pos trivial, if_pos (by omega), if_pos (by omega)]
    rfl
theorem parse_j0 (s : ByteArray) (ps : List S91) (hn : ps.length ≤ 200) (h2 : 2 ≤ ps.length) (h1 : (rd_T91 ps 0).f2.size = 1) : Ev (fun k => layout_Parse.j0 k s ps false) (parseC s ps) := by
  have hx : strings_Index.f (⟨#[98, 111, 99, 117, 112, 113]⟩ : ByteArray) ((rd_T91 ps 0).f2) = some (Lib.indexByte (⟨#[98, 111, 99, 117, 112, 113]⟩ : ByteArray).data.toList (bt (rd_T91 ps 0).f2 0).toNat.toUInt8) := by
    unfold strings_Index.f stringslite_Index.f
    rw [if_pos h1]
    rfl
  have hd : (ps.drop 2).length ≤ 200 := by rw [List.length_drop]; omega
  unfold parseC
  by_cases hk : parseKd (rd_T91 ps 0) = 1
  · rw [if_neg (fun h => h.1 hk)]
    refine Ev.succ (fun k => ?_) (parse_j1 s (ps.drop 2) hd false (by intro h; cases h) (parseKd (rd_T91 ps 0)) (rd_T91 ps 1).f2 ⟨#[]⟩)
    simp only [layout_Parse.j0]
    rw [if_neg (by decide), if_pos (by omega), hx, Option.bind_some, if_pos (by omega), if_pos (by omega), Option.bind_some]
    exact if_pos hk
  · have e : Ev (fun k => layout_Parse.j0 k s ps false) (if decide (((ps.drop 2).length : Int) > 0) = true then closeR s (parseKd (rd_T91 ps 0)) (rd_T91 ps 1).f2 (rd_T91 (ps.drop 2) 0).f2 (((ps.drop 2).drop 1).map fun p => p.f1) else closeR s (parseKd (rd_T91 ps 0)) (rd_T91 ps 1).f2 ⟨#[]⟩ ((ps.drop 2).map fun p => p.f1)) := by
      refine Ev.succ (fun k => ?_) (parse_j1 s (ps.drop 2) hd (decide (((ps.drop 2).length : Int) > 0)) (by intro h; have := of_decide_eq_true h; omega) (parseKd (rd_T91 ps 0)) (rd_T91 ps 1).f2 ⟨#[]⟩)
      simp only [layout_Parse.j0]
      rw [if_neg (by decide), if_pos (by omega), hx, Option.bind_some, if_pos (by omega), if_pos (by omega), Option.bind_some]
      exact if_neg hk
    by_cases hr : 0 < (ps.drop 2).length
    · rw [if_pos ⟨hk, hr⟩]
      rw [if_pos (decide_eq_true (by omega))] at e
      exact e
    · rw [if_neg (fun h => hr h.2)]
      rw [if_neg (by rw [decide_eq_true_eq]; omega)] at e
      exact e
/-- What Parse tells. -/
def parseR (s : ByteArray) : KeyT :=
  if s.size > 128 then failK else match dec none (bytesOf s) [] with
    | some ps => if 2 ≤ ps.length ∧ (rd_T91 ps 0).f2.size = 1 then parseC s ps else failK
    | none => failK
theorem parse_fail (s : ByteArray) (ps : List S91) : Ev (fun k => layout_Parse.j0 k s ps true) failK := by
  refine Ev.succ (fun k => ?_) (Ev.const _)
  simp only [layout_Parse.j0]
  rw [if_pos trivial]
  rfl
theorem parse_f (s : ByteArray) : Ev (fun k => layout_Parse.f k s) (parseR s) := by
  unfold layout_Parse.f parseR tuple_Decode.f
  by_cases hs : s.size > 128
  · rw [if_pos hs, if_pos hs]
    refine Ev.congr (fun k => ?_) (parse_fail s [])
    rw [Option.bind_some]
    exact if_neg (by decide)
  · rw [if_neg hs, if_neg hs]
    cases hd : dec none (bytesOf s) [] with
    | none =>
      refine Ev.congr (fun k => ?_) (parse_fail s [])
      rw [Option.bind_some]
      exact if_neg (by decide)
    | some ps =>
      have hf := dec_few _ _ _ _ _ (Nat.le_refl _) hd
      rw [bytesOf_length, List.length_nil] at hf
      by_cases h2 : 2 ≤ ps.length
      · by_cases h1 : (rd_T91 ps 0).f2.size = 1
        · show Ev _ (if 2 ≤ ps.length ∧ (rd_T91 ps 0).f2.size = 1 then parseC s ps else failK)
          rw [if_pos (And.intro h2 h1)]
          refine Ev.congr (fun k => ?_) (parse_j0 s ps (by omega) h2 h1)
          rw [Option.bind_some]
          refine (if_pos rfl).trans ((if_neg (by show ¬ ((ps.length : Int) < 2); omega)).trans ((if_pos (by show (0 : Int) < (ps.length : Int); omega)).trans ?_))
          show layout_Parse.j0 k s ps (((rd_T91 ps 0).f2.size : Int) != 1) = _
          rw [h1]
          rfl
        · show Ev _ (if 2 ≤ ps.length ∧ (rd_T91 ps 0).f2.size = 1 then parseC s ps else failK)
          have hn : ¬ (2 ≤ ps.length ∧ (rd_T91 ps 0).f2.size = 1) := fun h => h1 h.2
          rw [if_neg hn]
          refine Ev.congr (fun k => ?_) (parse_fail s ps)
          rw [Option.bind_some]
          refine (if_pos rfl).trans ((if_neg (by show ¬ ((ps.length : Int) < 2); omega)).trans ((if_pos (by show (0 : Int) < (ps.length : Int); omega)).trans ?_))
          show layout_Parse.j0 k s ps (((rd_T91 ps 0).f2.size : Int) != 1) = _
          have : (((rd_T91 ps 0).f2.size : Int) != 1) = true := by rw [bne_iff_ne]; omega
          rw [this]
      · show Ev _ (if 2 ≤ ps.length ∧ (rd_T91 ps 0).f2.size = 1 then parseC s ps else failK)
        have hn : ¬ (2 ≤ ps.length ∧ (rd_T91 ps 0).f2.size = 1) := fun h => h2 h.1
        rw [if_neg hn]
        refine Ev.congr (fun k => ?_) (parse_fail s ps)
        rw [Option.bind_some]
        exact (if_pos rfl).trans (if_pos (by show (ps.length : Int) < 2; omega))
theorem close_told {s : ByteArray} {a a' : Int} {b c b' c' : ByteArray} {l l' : List Int} (h : closeR s a' b' c' l' = (a, b, c, l, 0)) : (keyR a b c l).2 = 0 ∧ (keyR a b c l).1.toList = s.toList := by
  unfold closeR at h
  split at h
  · rename_i hh
    simp only [Prod.mk.injEq] at h
    obtain ⟨rfl, rfl, rfl, rfl, _⟩ := h
    exact hh
  · simp [failK] at h
theorem parse_told {s : ByteArray} {a : Int} {b c : ByteArray} {l : List Int} (h : parseR s = (a, b, c, l, 0)) : (keyR a b c l).2 = 0 ∧ (keyR a b c l).1.toList = s.toList := by
  unfold parseR at h
  split at h
  · simp [failK] at h
  · split at h
    · split at h
      · unfold parseC at h
        split at h
        · exact close_told h
        · exact close_told h
      · simp [failK] at h
    · simp [failK] at h
theorem letter_told {a : Int} (h0 : 1 ≤ a) (h1 : a ≤ 6) : parseKd (textP (letterOf a)) = a ∧ (letterOf a).size = 1 := by
  obtain rfl | rfl | rfl | rfl | rfl | rfl : a = 1 ∨ a = 2 ∨ a = 3 ∨ a = 4 ∨ a = 5 ∨ a = 6 := by omega
  all_goals decide +kernel
theorem nums_f1 (a : Int) (l : List Int) : (l.map (numP a)).map (fun p => p.f1) = l := by
  rw [List.map_map]
  conv => rhs; rw [← List.map_id l]
  refine List.map_congr_left fun n _ => ?_
  show (numP a n).f1 = n
  unfold numP
  split <;> rfl
theorem keyR_ok {a : Int} {b c : ByteArray} {l : List Int} (h : (keyR a b c l).2 = 0) : numsOk a c l = true ∧ (l.length : Int) = nm a ∧ bOk b = true ∧ (a = 1 ∨ oOk c = true) ∧ keyR a b c l = (strOfNums (keyBytes a b c l), 0) := by
  unfold keyR at h ⊢
  split at h
  · split at h
    · split at h
      · rename_i h1 h2 h3
        rw [if_pos h1, if_pos h2, if_pos h3]
        exact ⟨h1.1, h1.2, h2, h3, rfl⟩
      · cases h
    · cases h
  · cases h
theorem key_parse {a : Int} {b c : ByteArray} {l : List Int} (hg : ∀ n ∈ l, n < 9223372036854775808) (h : (keyR a b c l).2 = 0) : parseR (keyR a b c l).1 = (a, b, c, l, 0) ∧ (keyR a b c l).1.size ≤ 120 := by
  obtain ⟨hn, hl, hb, hc, e⟩ := keyR_ok h
  obtain ⟨a0, a1, l3, _, l0, ac⟩ := numsOk_kind hn
  have hcn : nameOr oOk c := by
    rcases hc with hc | hc
    · exact .inl (ac hc)
    · exact .inr hc
  have hlen := keyBytes_length (l := l) a0 a1 (.inr hb) hcn l3
  have hgood := keyParts_good (l := l) a0 a1 (.inr hb) hcn (fun n hn => ⟨l0 n hn, hg n hn⟩)
  have hbytes : bytesOf (strOfNums (keyBytes a b c l)) = keyBytes a b c l := bytesOf_str (flat_byte _ hgood)
  have hb1 : b.toList ≠ [] := by
    intro hh
    have := nil_size hh
    have := (bOk_pos hb).2.1
    omega
  have hlet := letter_told a0 a1
  rw [e]
  show parseR (strOfNums (keyBytes a b c l)) = _ ∧ (strOfNums (keyBytes a b c l)).size ≤ 120
  have hclose : closeR (strOfNums (keyBytes a b c l)) a b c l = (a, b, c, l, 0) := by
    unfold closeR
    rw [e]
    exact if_pos ⟨rfl, rfl⟩
  have hsz : (strOfNums (keyBytes a b c l)).size ≤ 81 := by rw [strOfNums_size]; omega
  refine ⟨?_, by omega⟩
  have hdec : dec none (bytesOf (strOfNums (keyBytes a b c l))) [] = some (keyParts a b c l) := by
    rw [hbytes]
    exact dec_flat _ _ hgood
  obtain ⟨s, hs⟩ : ∃ s, strOfNums (keyBytes a b c l) = s := ⟨_, rfl⟩
  rw [hs] at hclose hsz hdec ⊢
  clear hs hbytes hlen hgood e
  unfold parseR
  rw [if_neg (by omega), hdec]
  show (if 2 ≤ (keyParts a b c l).length ∧ (rd_T91 (keyParts a b c l) 0).f2.size = 1 then parseC s (keyParts a b c l) else failK) = _
  by_cases h1 : a = 1
  · have hce : c = ⟨#[]⟩ := tl_inj ((ac h1).trans nil_toList.symm)
    have hle : l = [] := by
      have : nm a = 0 := by rw [h1]; rfl
      exact List.eq_nil_of_length_eq_zero (by omega)
    have hk : keyParts a b c l = [textP (letterOf a), textP b] := by
      unfold keyParts
      rw [texts_cons hb1, texts_nil (ac h1), hle]
      rfl
    rw [hk, if_pos ⟨by simp, hlet.2⟩]
    unfold parseC
    rw [if_neg (fun h => by have := h.2; simp at this)]
    refine Eq.trans ?_ hclose
    show closeR s (parseKd (textP (letterOf a))) b ⟨#[]⟩ [] = _
    rw [hlet.1, hce, hle]
  · have hco : c.toList ≠ [] := by
      intro hh
      have := nil_size hh
      have := (oOk_pos (hc.resolve_left h1)).2.1
      omega
    have hk : keyParts a b c l = textP (letterOf a) :: textP b :: textP c :: l.map (numP a) := by
      unfold keyParts
      rw [texts_cons hb1, texts_cons hco]
      rfl
    rw [hk, if_pos ⟨by simp, hlet.2⟩]
    unfold parseC
    have hkd : parseKd (rd_T91 (textP (letterOf a) :: textP b :: textP c :: l.map (numP a)) 0) = a := hlet.1
    rw [hkd, if_pos ⟨h1, by simp⟩]
    refine Eq.trans ?_ hclose
    have e3 : (((textP (letterOf a) :: textP b :: textP c :: l.map (numP a)).drop 2).drop 1).map (fun p => p.f1) = l := nums_f1 a l
    rw [e3]
    rfl
end Go.Proofs.YtbdfmjgndeigpaaDoor.Pure
