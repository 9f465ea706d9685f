import Derived.Test.YtbdfmjgndeigpaaDoorPureParseDec
import Derived.KernelRfl
import Derived.Test.YtbdfmjgndeigpaaDoorPx26
import Derived.Test.YtbdfmjgndeigpaaDoorPx22
import Derived.Test.YtbdfmjgndeigpaaDoorPx25
import Derived.Test.YtbdfmjgndeigpaaDoorPx24
import Derived.Test.YtbdfmjgndeigpaaDoorPx9
namespace Go.Proofs.YtbdfmjgndeigpaaDoor.Pure
open Go.RowKit Go.Proofs.YtbdfmjgndeigpaaDoor.P Go.Proofs.YtbdfmjgndeigpaaDoorW.PrintWords Go.Proofs.YtbdfmjgndeigpaaDoorW.PrintLast Go.Proofs.YtbdfmjgndeigpaaDoorW.PrintMore
set_option linter.unusedVariables false
/-! ### A key's bytes are parsed as the key -/
abbrev KeyT := Int × ByteArray × ByteArray × List Int × Int
def failK : KeyT := (0, ⟨#[]⟩, ⟨#[]⟩, [], 4)
def closeR (s : ByteArray) (a : Int) (b c : ByteArray) (l : List Int) : KeyT :=
  if (keyR a b c l).2 = 0 ∧ (keyR a b c l).1.toList = s.toList then (a, b, c, l, 0) else failK
theorem close_f (s : ByteArray) (a : Int) (b c : ByteArray) (l : List Int) (hl : l.length ≤ 1000) :
    Ev (fun k => (layout_Key.f k a b c l).bind fun bt249 => (if bt249.2 = 0 then (if bt249.1.toList = s.toList then (some (a, b, c, l, 0)) else (some (0, (⟨#[]⟩ : ByteArray), (⟨#[]⟩ : ByteArray), ([] : List Int), 4))) else (some (0, (⟨#[]⟩ : ByteArray), (⟨#[]⟩ : ByteArray), ([] : List Int), 4)))) (closeR s a b c l) := by
  refine Ev.bind (key_f a b c l hl) ?_
  unfold closeR
  by_cases h1 : (keyR a b c l).2 = 0
  · by_cases h2 : (keyR a b c l).1.toList = s.toList
    · rw [if_pos h1, if_pos h2, if_pos (And.intro h1 h2)]
      exact Ev.const _
    · have hn : ¬ ((keyR a b c l).2 = 0 ∧ (keyR a b c l).1.toList = s.toList) := fun h => h2 h.2
      rw [if_pos h1, if_neg h2, if_neg hn]
      exact Ev.const _
  · have hn : ¬ ((keyR a b c l).2 = 0 ∧ (keyR a b c l).1.toList = s.toList) := fun h => h1 h.1
    rw [if_neg h1, if_neg hn]
    exact Ev.const _
theorem parse_l0 (s : ByteArray) (ps : List S91) (hn : ps.length ≤ 200) (a : Int) (b c : ByteArray) : ∀ (r j : Nat) (acc : List Int), ps.length - j = r → j ≤ ps.length → acc.length + (ps.length - j) ≤ 500 →
    Ev (fun k => layout_Parse.l0 k s ps (ps.length : Int) (j : Int) a b c acc) (closeR s a b c (acc ++ (ps.drop j).map (fun p => p.f1)))
  | r, j, acc, hrj, hj, ha => by
    by_cases hjl : j < ps.length
    · rw [drop_T91 ps j hjl, List.map_cons]
      have ih := parse_l0 s ps hn a b c (r - 1) (j + 1) (acc ++ [(rd_T91 ps (j : Int)).f1]) (by omega) (by omega) (by rw [List.length_append, List.length_singleton]; omega)
      rw [List.append_assoc] at ih
      refine Ev.succ (fun k => ?_) ih
      simp only [layout_Parse.l0]
      rw [if_pos (by omega), if_pos (by omega), if_pos (by omega), if_pos (by omega), wr_one j (by omega)]
    · have hd : ps.drop j = [] := List.drop_eq_nil_of_le (by omega)
      rw [hd, List.map_nil, List.append_nil]
      refine Ev.succ (fun k => ?_) (close_f s a b c acc (by omega))
      simp only [layout_Parse.l0]
      rw [if_neg (by omega)]
  termination_by r => r
  decreasing_by omega
def parseKd (p : S91) : Int := wrap64 (Lib.indexByte (⟨#[98, 111, 99, 117, 112, 113]⟩ : ByteArray).data.toList (bt p.f2 0).toNat.toUInt8 + 1)
def parseC (s : ByteArray) (ps : List S91) : KeyT :=
  if parseKd (rd_T91 ps 0) ≠ 1 ∧ 0 < (ps.drop 2).length then closeR s (parseKd (rd_T91 ps 0)) (rd_T91 ps 1).f2 (rd_T91 (ps.drop 2) 0).f2 (((ps.drop 2).drop 1).map fun p => p.f1)
  else closeR s (parseKd (rd_T91 ps 0)) (rd_T91 ps 1).f2 ⟨#[]⟩ ((ps.drop 2).map fun p => p.f1)
theorem parse_j2 (s : ByteArray) (ps : List S91) (hn : ps.length ≤ 200) (a : Int) (b c : ByteArray) : Ev (fun k => layout_Parse.j2 k s ps a b c) (closeR s a b c (ps.map fun p => p.f1)) := by
  refine Ev.succ (fun k => ?_) (parse_l0 s ps hn a b c _ 0 [] rfl (by omega) (by simp; omega))
  simp only [layout_Parse.j2]
  rfl
theorem parse_j1 (s : ByteArray) (ps : List S91) (hn : ps.length ≤ 200) (t : Bool) (ht : t = true → 0 < ps.length) (a : Int) (b c : ByteArray) : Ev (fun k => layout_Parse.j1 k s ps t a b c) (if t = true then closeR s a b (rd_T91 ps 0).f2 ((ps.drop 1).map fun p => p.f1) else closeR s a b c (ps.map fun p => p.f1)) := by
  cases t with
  | false =>
    refine Ev.succ (fun k => ?_) (parse_j2 s ps hn a b c)
    simp only [layout_Parse.j1]
    rw [if_neg (by decide)]
  | true =>
    have h := ht rfl
    refine Ev.succ (fun k => ?_) (parse_j2 s (ps.drop 1) (by rw [List.length_drop]; omega) a b (rd_T91 ps 0).f2)
    simp only [layout_Parse.j1]
    rw [if_pos trivial, if_pos (by omega), if_pos (by omega)]
    rfl
theorem parse_j0 (s : ByteArray) (ps : List S91) (hn : ps.length ≤ 200) (h2 : 2 ≤ ps.length) (h1 : (rd_T91 ps 0).f2.size = 1) : Ev (fun k => layout_Parse.j0 k s ps false) (parseC s ps) := by
  have hx : strings_Index.f (⟨#[98, 111, 99, 117, 112, 113]⟩ : ByteArray) ((rd_T91 ps 0).f2) = some (Lib.indexByte (⟨#[98, 111, 99, 117, 112, 113]⟩ : ByteArray).data.toList (bt (rd_T91 ps 0).f2 0).toNat.toUInt8) := by
    unfold strings_Index.f stringslite_Index.f
    rw [if_pos h1]
    rfl
  have hd : (ps.drop 2).length ≤ 200 := by rw [List.length_drop]; omega
  unfold parseC
  by_cases hk : parseKd (rd_T91 ps 0) = 1
  · rw [if_neg (fun h => h.1 hk)]
    refine Ev.succ (fun k => ?_) (parse_j1 s (ps.drop 2) hd false (by intro h; cases h) (parseKd (rd_T91 ps 0)) (rd_T91 ps 1).f2 ⟨#[]⟩)
    simp only [layout_Parse.j0]
    rw [if_neg (by decide), if_pos (by omega), hx, Option.bind_some, if_pos (by omega), if_pos (by omega), Option.bind_some]
    exact if_pos hk
  · have e : Ev (fun k => layout_Parse.j0 k s ps false) (if decide (((ps.drop 2).length : Int) > 0) = true then closeR s (parseKd (rd_T91 ps 0)) (rd_T91 ps 1).f2 (rd_T91 (ps.drop 2) 0).f2 (((ps.drop 2).drop 1).map fun p => p.f1) else closeR s (parseKd (rd_T91 ps 0)) (rd_T91 ps 1).f2 ⟨#[]⟩ ((ps.drop 2).map fun p => p.f1)) := by
      refine Ev.succ (fun k => ?_) (parse_j1 s (ps.drop 2) hd (decide (((ps.drop 2).length : Int) > 0)) (by intro h; have := of_decide_eq_true h; omega) (parseKd (rd_T91 ps 0)) (rd_T91 ps 1).f2 ⟨#[]⟩)
      simp only [layout_Parse.j0]
      rw [if_neg (by decide), if_pos (by omega), hx, Option.bind_some, if_pos (by omega), if_pos (by omega), Option.bind_some]
      exact if_neg hk
    by_cases hr : 0 < (ps.drop 2).length
    · rw [if_pos ⟨hk, hr⟩]
      rw [if_pos (decide_eq_true (by omega))] at e
      exact e
    · rw [if_neg (fun h => hr h.2)]
      rw [if_neg (by rw [decide_eq_true_eq]; omega)] at e
      exact e
/-- What Parse tells. -/
def parseR (s : ByteArray) : KeyT :=
  if s.size > 128 then failK else match dec none (bytesOf s) [] with
    | some ps => if 2 ≤ ps.length ∧ (rd_T91 ps 0).f2.size = 1 then parseC s ps else failK
    | none => failK
theorem parse_fail (s : ByteArray) (ps : List S91) : Ev (fun k => layout_Parse.j0 k s ps true) failK := by
  refine Ev.succ (fun k => ?_) (Ev.const _)
  simp only [layout_Parse.j0]
  rw [if_pos trivial]
  rfl
theorem parse_f (s : ByteArray) : Ev (fun k => layout_Parse.f k s) (parseR s) := by
  unfold layout_Parse.f parseR tuple_Decode.f
  by_cases hs : s.size > 128
  · rw [if_pos hs, if_pos hs]
    refine Ev.congr (fun k => ?_) (parse_fail s [])
    rw [Option.bind_some]
    exact if_neg (by decide)
  · rw [if_neg hs, if_neg hs]
    cases hd : dec none (bytesOf s) [] with
    | none =>
      refine Ev.congr (fun k => ?_) (parse_fail s [])
      rw [Option.bind_some]
      exact if_neg (by decide)
    | some ps =>
      have hf := dec_few _ _ _ _ _ (Nat.le_refl _) hd
      rw [bytesOf_length, List.length_nil] at hf
      by_cases h2 : 2 ≤ ps.length
      · by_cases h1 : (rd_T91 ps 0).f2.size = 1
        · show Ev _ (if 2 ≤ ps.length ∧ (rd_T91 ps 0).f2.size = 1 then parseC s ps else failK)
          rw [if_pos (And.intro h2 h1)]
          refine Ev.congr (fun k => ?_) (parse_j0 s ps (by omega) h2 h1)
          rw [Option.bind_some]
          refine (if_pos rfl).trans ((if_neg (by show ¬ ((ps.length : Int) < 2); omega)).trans ((if_pos (by show (0 : Int) < (ps.length : Int); omega)).trans ?_))
          show layout_Parse.j0 k s ps (((rd_T91 ps 0).f2.size : Int) != 1) = _
          rw [h1]
          rfl
        · show Ev _ (if 2 ≤ ps.length ∧ (rd_T91 ps 0).f2.size = 1 then parseC s ps else failK)
          have hn : ¬ (2 ≤ ps.length ∧ (rd_T91 ps 0).f2.size = 1) := fun h => h1 h.2
          rw [if_neg hn]
          refine Ev.congr (fun k => ?_) (parse_fail s ps)
          rw [Option.bind_some]
          refine (if_pos rfl).trans ((if_neg (by show ¬ ((ps.length : Int) < 2); omega)).trans ((if_pos (by show (0 : Int) < (ps.length : Int); omega)).trans ?_))
          show layout_Parse.j0 k s ps (((rd_T91 ps 0).f2.size : Int) != 1) = _
          have : (((rd_T91 ps 0).f2.size : Int) != 1) = true := by rw [bne_iff_ne]; omega
          rw [this]
      · show Ev _ (if 2 ≤ ps.length ∧ (rd_T91 ps 0).f2.size = 1 then parseC s ps else failK)
        have hn : ¬ (2 ≤ ps.length ∧ (rd_T91 ps 0).f2.size = 1) := fun h => h2 h.1
        rw [if_neg hn]
        refine Ev.congr (fun k => ?_) (parse_fail s ps)
        rw [Option.bind_some]
        exact (if_pos rfl).trans (if_pos (by show (ps.length : Int) < 2; omega))
end Go.Proofs.YtbdfmjgndeigpaaDoor.Pure
