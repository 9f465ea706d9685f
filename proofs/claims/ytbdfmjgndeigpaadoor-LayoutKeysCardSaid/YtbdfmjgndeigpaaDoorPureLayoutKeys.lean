import Derived.Test.YtbdfmjgndeigpaaDoorPureKeysKey
import Derived.Test.YtbdfmjgndeigpaaDoorPureKeysDec
import Derived.Test.YtbdfmjgndeigpaaDoorPureParseFn
import Derived.KernelRfl
import Derived.Test.YtbdfmjgndeigpaaDoorPx31
import Derived.Test.YtbdfmjgndeigpaaDoorPx3
import Derived.Test.YtbdfmjgndeigpaaDoorPx15
import Derived.Test.YtbdfmjgndeigpaaDoorPx30
namespace Go.Proofs.YtbdfmjgndeigpaaDoor.Pure
open Go.RowKit Go.Proofs.YtbdfmjgndeigpaaDoor.P Go.Proofs.YtbdfmjgndeigpaaDoorW.PrintWords Go.Proofs.YtbdfmjgndeigpaaDoorW.PrintLast Go.Proofs.YtbdfmjgndeigpaaDoorW.PrintMore
set_option linter.unusedVariables false
theorem klives_60 : w21_lives.f 60 = some true := by kernel_rfl
theorem klives_f : Ev (fun k => w21_lives.f k) true := Ev.mono (K := 60) (fun k => w21_lives.mono k) klives_60
/-! ### The numbers of parts are small -/
theorem dec_bd : ∀ (n : Nat) (m : Option (List Int)) (xs : List Int) (acc r : List S91), xs.length ≤ n → (∀ p ∈ acc, p.f1 < 9223372036854775808) → dec m xs acc = some r → ∀ p ∈ r, p.f1 < 9223372036854775808
  | n, none, [], acc, r, _, ha, h => by
    rw [dec_nil] at h
    obtain rfl := Option.some.inj h
    exact ha
  | 0, none, _ :: _, _, _, hl, _, _ => by simp at hl
  | n + 1, none, c :: q, acc, r, hl, ha, h => by
    rw [List.length_cons] at hl
    rw [dec_cons] at h
    split at h
    · exact dec_bd n _ _ _ _ (by omega) ha h
    · split at h
      · split at h
        · cases h
        · refine dec_bd n _ _ _ _ (by rw [List.length_drop]; omega) ?_ h
          intro p hp
          rcases List.mem_append.1 hp with hp | hp
          · exact ha p hp
          · obtain rfl := List.mem_singleton.1 hp
            show rdv _ _ < _
            unfold rdv wrap64
            omega
      · cases h
  | n, some t, [], acc, r, _, _, h => by
    rw [dec_tnil] at h
    cases h
  | 0, some _, _ :: _, _, _, hl, _, _ => by simp at hl
  | n + 1, some t, c :: q, acc, r, hl, ha, h => by
    rw [List.length_cons] at hl
    by_cases hc : c = 0
    · subst hc
      cases q with
      | nil => rw [dec_t0nil] at h; cases h
      | cons d q =>
        rw [List.length_cons] at hl
        rw [dec_t0cons] at h
        split at h
        · exact dec_bd n _ _ _ _ (by omega) ha h
        · split at h
          · refine dec_bd n _ _ _ _ (by omega) ?_ h
            intro p hp
            rcases List.mem_append.1 hp with hp | hp
            · exact ha p hp
            · obtain rfl := List.mem_singleton.1 hp
              show (0 : Int) < _
              decide
          · cases h
    · rw [dec_tcons hc] at h
      exact dec_bd n _ _ _ _ (by omega) ha h
/-! ### The reference parses the same -/
theorem rclose_f (s : ByteArray) (a : Int) (b c : ByteArray) (l : List Int) (hl : l.length ≤ 1000) (hg : ∀ n ∈ l, n < 9223372036854775808) :
    Ev (fun k => (r21_Key.f k a b c l).bind fun bt339 => (if bt339.2 = 0 then (if bt339.1.toList = s.toList then (some (a, b, c, l, 0)) else (some (0, (⟨#[]⟩ : ByteArray), (⟨#[]⟩ : ByteArray), ([] : List Int), 4))) else (some (0, (⟨#[]⟩ : ByteArray), (⟨#[]⟩ : ByteArray), ([] : List Int), 4)))) (closeR s a b c l) := by
  refine Ev.bind (rkey_f a b c l hl hg) ?_
  unfold closeR
  by_cases h1 : (keyR a b c l).2 = 0
  · by_cases h2 : (keyR a b c l).1.toList = s.toList
    · rw [if_pos h1, if_pos h2, if_pos (And.intro h1 h2)]
      exact Ev.const _
    · have hn : ¬ ((keyR a b c l).2 = 0 ∧ (keyR a b c l).1.toList = s.toList) := fun h => h2 h.2
      rw [if_pos h1, if_neg h2, if_neg hn]
      exact Ev.const _
  · have hn : ¬ ((keyR a b c l).2 = 0 ∧ (keyR a b c l).1.toList = s.toList) := fun h => h1 h.1
    rw [if_neg h1, if_neg hn]
    exact Ev.const _
theorem rparse_l1 (s : ByteArray) (ps : List S91) (hn : ps.length ≤ 200) (hp : ∀ p ∈ ps, p.f1 < 9223372036854775808) (a : Int) (b c : ByteArray) : ∀ (r j : Nat) (acc : List Int), ps.length - j = r → acc.length + (ps.length - j) ≤ 500 → (∀ n ∈ acc, n < 9223372036854775808) →
    Ev (fun k => r21_Parse.l1 k s ps (j : Int) a b c acc) (closeR s a b c (acc ++ (ps.drop j).map (fun p => p.f1)))
  | r, j, acc, hrj, ha, hg => by
    by_cases hjl : j < ps.length
    · rw [drop_T91 ps j hjl, List.map_cons]
      have hm := hp _ (mem_T91 ps j hjl)
      have ih := rparse_l1 s ps hn hp a b c (r - 1) (j + 1) (acc ++ [(rd_T91 ps (j : Int)).f1]) (by omega) (by rw [List.length_append, List.length_singleton]; omega) (by
        intro n hn
        rcases List.mem_append.1 hn with hn | hn
        · exact hg n hn
        · obtain rfl := List.mem_singleton.1 hn
          exact hm)
      rw [List.append_assoc] at ih
      refine Ev.succ (fun k => ?_) ih
      simp only [r21_Parse.l1]
      rw [if_pos (by omega), if_pos (by omega), if_pos (by omega), wr_one j (by omega)]
    · have hd : ps.drop j = [] := List.drop_eq_nil_of_le (by omega)
      rw [hd, List.map_nil, List.append_nil]
      refine Ev.succ (fun k => ?_) (rclose_f s a b c acc (by omega) hg)
      simp only [r21_Parse.l1]
      rw [if_neg (by omega)]
  termination_by r => r
  decreasing_by omega
def stepK (x : ByteArray) (i kd : Int) : Int := if x.toList = ((⟨#[98, 111, 99, 117, 112, 113]⟩ : ByteArray).extract (i - 1).toNat i.toNat).toList then i else kd
def rkd (x : ByteArray) : Int := stepK x 6 (stepK x 5 (stepK x 4 (stepK x 3 (stepK x 2 (stepK x 1 0)))))
theorem rstep (s : ByteArray) (ps : List S91) (h2 : 2 ≤ ps.length) (i kd : Int) (b c : ByteArray) (R : KeyT) (h0 : 1 ≤ i) (h1 : i ≤ 6) (h : Ev (fun k => r21_Parse.l0 k s ps (i + 1) (stepK (rd_T91 ps 0).f2 i kd) b c) R) : Ev (fun k => r21_Parse.l0 k s ps i kd b c) R := by
  refine Ev.succ (fun k => ?_) h
  simp only [r21_Parse.l0]
  rw [wr_in (i - 1) (by omega), wr_in (i + 1) (by omega), if_pos h1, if_pos (by omega), if_pos (by omega), if_pos (by omega)]
  unfold stepK
  split <;> rfl
theorem rparse_l0 (s : ByteArray) (ps : List S91) (hn : ps.length ≤ 200) (hp : ∀ p ∈ ps, p.f1 < 9223372036854775808) (h2 : 2 ≤ ps.length) :
    Ev (fun k => r21_Parse.l0 k s ps 1 0 ⟨#[]⟩ ⟨#[]⟩) (if rkd (rd_T91 ps 0).f2 > 1 ∧ 2 < ps.length then closeR s (rkd (rd_T91 ps 0).f2) (rd_T91 ps 1).f2 (rd_T91 ps 2).f2 ((ps.drop 3).map fun p => p.f1) else closeR s (rkd (rd_T91 ps 0).f2) (rd_T91 ps 1).f2 ⟨#[]⟩ ((ps.drop 2).map fun p => p.f1)) := by
  refine rstep s ps h2 1 _ _ _ _ (by decide) (by decide) ?_
  refine rstep s ps h2 2 _ _ _ _ (by decide) (by decide) ?_
  refine rstep s ps h2 3 _ _ _ _ (by decide) (by decide) ?_
  refine rstep s ps h2 4 _ _ _ _ (by decide) (by decide) ?_
  refine rstep s ps h2 5 _ _ _ _ (by decide) (by decide) ?_
  refine rstep s ps h2 6 _ _ _ _ (by decide) (by decide) ?_
  show Ev (fun k => r21_Parse.l0 k s ps 7 (rkd (rd_T91 ps 0).f2) ⟨#[]⟩ ⟨#[]⟩) _
  generalize rkd (rd_T91 ps 0).f2 = kd
  have j3 : ∀ (j : Nat) (c : ByteArray), Ev (fun k => r21_Parse.j3 k s ps (j : Int) kd (rd_T91 ps 1).f2 c) (closeR s kd (rd_T91 ps 1).f2 c ((ps.drop j).map fun p => p.f1)) := by
    intro j c
    refine Ev.succ (fun k => ?_) (rparse_l1 s ps hn hp kd _ c _ j [] rfl (by simp; omega) (by simp))
    simp only [r21_Parse.j3]
  by_cases hk : kd > 1
  · by_cases hl : 2 < ps.length
    · rw [if_pos ⟨hk, hl⟩]
      refine Ev.succ (G := fun k => r21_Parse.j2 k s ps 2 true kd (rd_T91 ps 1).f2 ⟨#[]⟩) (fun k => ?_) ?_
      · simp only [r21_Parse.l0]
        rw [if_neg (by decide), if_pos (by omega), if_pos hk, decide_eq_true (by omega)]
      · refine Ev.succ (fun k => ?_) (j3 3 (rd_T91 ps 2).f2)
        simp only [r21_Parse.j2]
        rw [if_pos trivial, if_pos (by omega)]
        rfl
    · rw [if_neg (fun h => hl h.2)]
      refine Ev.succ (G := fun k => r21_Parse.j2 k s ps 2 false kd (rd_T91 ps 1).f2 ⟨#[]⟩) (fun k => ?_) ?_
      · simp only [r21_Parse.l0]
        rw [if_neg (by decide), if_pos (by omega), if_pos hk, decide_eq_false (by omega)]
      · refine Ev.succ (fun k => ?_) (j3 2 ⟨#[]⟩)
        simp only [r21_Parse.j2]
        rw [if_neg (by decide)]
        rfl
  · rw [if_neg (fun h => hk h.1)]
    refine Ev.succ (G := fun k => r21_Parse.j2 k s ps 2 false kd (rd_T91 ps 1).f2 ⟨#[]⟩) (fun k => ?_) ?_
    · simp only [r21_Parse.l0]
      rw [if_neg (by decide), if_pos (by omega), if_neg hk]
    · refine Ev.succ (fun k => ?_) (j3 2 ⟨#[]⟩)
      simp only [r21_Parse.j2]
      rw [if_neg (by decide)]
      rfl
theorem close_bad (s : ByteArray) {a : Int} (h : ¬ (1 ≤ a)) (b c : ByteArray) (l : List Int) : closeR s a b c l = failK := by
  unfold closeR
  refine if_neg (fun hh => ?_)
  have hk := hh.1
  unfold keyR at hk
  split at hk
  · rename_i h1
    exact h (numsOk_kind h1.1).1
  · cases hk
theorem kd_all : ∀ n, n < 256 → rkd ⟨#[UInt8.ofNat n]⟩ = wrap64 (Lib.indexByte (⟨#[98, 111, 99, 117, 112, 113]⟩ : ByteArray).data.toList (UInt8.ofNat n) + 1) := by decide +kernel
theorem kd_eq {x : ByteArray} (h : x.size = 1) (n : Int) (kd : Int) : rkd x = parseKd ⟨kd, n, x⟩ := by
  obtain ⟨d, rfl⟩ : ∃ d : UInt8, x = ⟨#[d]⟩ := by
    cases x with
    | mk a =>
      have ha : a.size = 1 := h
      refine ⟨a[0], ?_⟩
      congr 1
      apply Array.ext
      · simp [ha]
      · intro i h1 h2
        have : i = 0 := by omega
        subst this
        rfl
  have e : d = UInt8.ofNat d.toNat := by simp
  have := kd_all d.toNat d.toNat_lt
  rw [← e] at this
  rw [this]
  unfold parseKd
  have eb : (bt (⟨#[d]⟩ : ByteArray) 0).toNat.toUInt8 = d := by
    show ((d.toNat : Int)).toNat.toUInt8 = d
    rw [Int.toNat_natCast]
    simp
  show _ = wrap64 (Lib.indexByte _ (bt (⟨#[d]⟩ : ByteArray) 0).toNat.toUInt8 + 1)
  rw [eb]
theorem kd_none {x : ByteArray} (h : x.size ≠ 1) : rkd x = 0 := by
  have hs : ∀ i kd : Int, 1 ≤ i → i ≤ 6 → stepK x i kd = kd := by
    intro i kd h0 h1
    unfold stepK
    refine if_neg (fun e => h ?_)
    have hl := congrArg List.length e
    rw [tl_length, tl_length] at hl
    rw [hl]
    obtain rfl | rfl | rfl | rfl | rfl | rfl : i = 1 ∨ i = 2 ∨ i = 3 ∨ i = 4 ∨ i = 5 ∨ i = 6 := by omega
    all_goals rfl
  unfold rkd
  rw [hs 1 _ (by decide) (by decide), hs 2 _ (by decide) (by decide), hs 3 _ (by decide) (by decide), hs 4 _ (by decide) (by decide), hs 5 _ (by decide) (by decide), hs 6 _ (by decide) (by decide)]
theorem rfail (s : ByteArray) (ps : List S91) : Ev (fun k => r21_Parse.j0 k s ps true) failK := by
  refine Ev.succ (fun k => ?_) (Ev.const _)
  simp only [r21_Parse.j0]
  rw [if_pos trivial]
  rfl
theorem rparse_f (s : ByteArray) : Ev (fun k => r21_Parse.f k s) (parseR s) := by
  obtain ⟨r, hr, hd⟩ := rdecode_f s
  unfold r21_Parse.f
  refine Ev.bind hd ?_
  unfold tuple_Decode.f at hr
  unfold parseR
  by_cases hs : s.size > 128
  · rw [if_pos hs] at hr
    obtain rfl := Option.some.inj hr
    rw [if_pos hs]
    exact Ev.congr (fun k => if_neg (by decide)) (rfail s [])
  · rw [if_neg hs] at hr
    rw [if_neg hs]
    cases hx : dec none (bytesOf s) [] with
    | none =>
      rw [hx] at hr
      obtain rfl := Option.some.inj hr
      exact Ev.congr (fun k => if_neg (by decide)) (rfail s [])
    | some ps =>
      rw [hx] at hr
      obtain rfl := Option.some.inj hr
      have hf := dec_few _ _ _ _ _ (Nat.le_refl _) hx
      rw [bytesOf_length, List.length_nil] at hf
      have hb := dec_bd _ _ _ _ _ (Nat.le_refl _) (by simp) hx
      refine Ev.congr (fun k => if_pos rfl) ?_
      show Ev (fun k => r21_Parse.j0 k s ps (decide ((ps.length : Int) < 2))) (if 2 ≤ ps.length ∧ (rd_T91 ps 0).f2.size = 1 then parseC s ps else failK)
      by_cases h2 : 2 ≤ ps.length
      · rw [decide_eq_false (by omega)]
        have hl := rparse_l0 s ps (by omega) hb h2
        have e : (if rkd (rd_T91 ps 0).f2 > 1 ∧ 2 < ps.length then closeR s (rkd (rd_T91 ps 0).f2) (rd_T91 ps 1).f2 (rd_T91 ps 2).f2 ((ps.drop 3).map fun p => p.f1) else closeR s (rkd (rd_T91 ps 0).f2) (rd_T91 ps 1).f2 ⟨#[]⟩ ((ps.drop 2).map fun p => p.f1)) = (if 2 ≤ ps.length ∧ (rd_T91 ps 0).f2.size = 1 then parseC s ps else failK) := by
          by_cases h1 : (rd_T91 ps 0).f2.size = 1
          · have ek : rkd (rd_T91 ps 0).f2 = parseKd (rd_T91 ps 0) := kd_eq h1 _ _
            rw [if_pos (And.intro h2 h1), ek]
            unfold parseC
            have hdl : (ps.drop 2).length = ps.length - 2 := List.length_drop
            have hdd : (ps.drop 2).drop 1 = ps.drop 3 := by rw [List.drop_drop]
            have hd0 : 2 < ps.length → rd_T91 (ps.drop 2) 0 = rd_T91 ps 2 := by
              intro h
              have a1 := drop_T91 ps 2 h
              rw [a1]
              rfl
            by_cases hk : parseKd (rd_T91 ps 0) > 1
            · by_cases h3 : 2 < ps.length
              · rw [if_pos ⟨hk, h3⟩, if_pos ⟨by omega, by omega⟩, hdd, hd0 h3]
              · rw [if_neg (fun h => h3 h.2), if_neg (fun h => by have := h.2; omega)]
            · by_cases hk1 : parseKd (rd_T91 ps 0) = 1
              · rw [if_neg (fun h => hk h.1), if_neg (fun h => h.1 hk1)]
              · have hb : ¬ 1 ≤ parseKd (rd_T91 ps 0) := by omega
                simp only [close_bad s hb]
                split <;> split <;> rfl
          · have hn : ¬ (2 ≤ ps.length ∧ (rd_T91 ps 0).f2.size = 1) := fun h => h1 h.2
            rw [if_neg hn, kd_none h1, close_bad s (by decide), close_bad s (by decide)]
            split <;> rfl
        rw [e] at hl
        refine Ev.succ (fun k => ?_) hl
        simp only [r21_Parse.j0]
        rw [if_neg (by decide)]
      · have hn : ¬ (2 ≤ ps.length ∧ (rd_T91 ps 0).f2.size = 1) := fun h => h2 h.1
        rw [if_neg hn, decide_eq_true (by omega)]
        exact rfail s ps
/-! ### LayoutKeys -/
theorem kwf_bd {n : Int} (h : (Lit.int .i64 n).wf = true) : n < 9223372036854775808 := by
  simp [Lit.wf, IntKind.max, IntKind.min, IntKind.bits, IntKind.signed] at h
  omega
theorem kfew_f (a : Int) (b c : ByteArray) (l : List Int) : w21_few.f a b c l = some (decide (l.length ≤ 20 ∧ b.size ≤ 1000 ∧ c.size ≤ 1000)) := by
  unfold w21_few.f
  by_cases h1 : l.length ≤ 20
  · by_cases h2 : b.size ≤ 1000
    · by_cases h3 : c.size ≤ 1000
      · rw [if_pos (by omega), if_pos (by omega), decide_eq_true (by omega), decide_eq_true ⟨h1, h2, h3⟩]
      · rw [if_pos (by omega), if_pos (by omega), decide_eq_false (by omega), decide_eq_false (fun h => h3 h.2.2)]
    · rw [if_pos (by omega), if_neg (by omega), decide_eq_false (fun h => h2 h.2.1)]
  · rw [if_neg (by omega), decide_eq_false (fun h => h1 h.1)]
theorem ksame_l0 (a : Int) (b c : ByteArray) (l : List Int) (hl : l.length ≤ 1000) : ∀ (r j : Nat), l.length - j = r → Ev (fun k => r21_Same.l0 k (j : Int) a b c l a b c l) true
  | r, j, hrj => by
    by_cases hj : j < l.length
    · have ih := ksame_l0 a b c l hl (r - 1) (j + 1) (by omega)
      refine Ev.succ (fun k => ?_) ih
      simp only [r21_Same.l0]
      rw [if_pos (by omega), if_pos (by omega), if_pos (by omega), if_pos trivial, wr_one j (by omega)]
    · refine Ev.succ (fun k => ?_) (Ev.const true)
      simp only [r21_Same.l0]
      rw [if_neg (by omega)]
  termination_by r => r
  decreasing_by omega
theorem ksame_f (a : Int) (b c : ByteArray) (l : List Int) (hl : l.length ≤ 1000) : Ev (fun k => r21_Same.f k a b c l a b c l) true := by
  unfold r21_Same.f
  refine Ev.congr (fun k => (if_pos rfl).trans ((if_pos rfl).trans (if_pos rfl))) ?_
  have e : ((l.length : Int) != (l.length : Int)) = false := by simp
  rw [e]
  refine Ev.succ (fun k => ?_) (ksame_l0 a b c l hl _ 0 rfl)
  simp only [r21_Same.j0]
  rw [if_neg (by decide)]
  rfl
theorem close_len (s : ByteArray) (a : Int) (b c : ByteArray) (l : List Int) : (closeR s a b c l).2.2.2.1.length ≤ 3 := by
  unfold closeR
  split
  · rename_i h
    have h := h.1
    unfold keyR at h
    split at h
    · rename_i h1
      exact (numsOk_kind h1.1).2.2.1
    · cases h
  · decide
theorem parse_len (s : ByteArray) : (parseR s).2.2.2.1.length ≤ 3 := by
  unfold parseR
  split
  · decide
  · split
    · split
      · unfold parseC
        split <;> exact close_len _ _ _ _ _
      · decide
    · decide
theorem LayoutKeys (a0 : Int) (b0 c0 : ByteArray) (l0 : List Int) (s : ByteArray) (w0 : (Lit.int .i64 a0).wf = true) (y0 : b0.size ≤ 9223372036854775807) (z0 : c0.size ≤ 9223372036854775807) (x0 : ∀ x ∈ l0, (Lit.int .i64 x).wf = true)
    (hs : s.size ≤ 140737488351232) : ∃ k, w21_LayoutKeys.f k a0 b0 c0 l0 s = some true := by
  suffices h : Ev (fun k => w21_LayoutKeys.f k a0 b0 c0 l0 s) true by
    obtain ⟨K, h⟩ := h
    exact ⟨K, h K (Nat.le_refl _)⟩
  unfold w21_LayoutKeys.f
  refine Ev.bind (Ev.of (fun _ => kfew_f a0 b0 c0 l0)) ?_
  by_cases f0 : l0.length ≤ 20 ∧ b0.size ≤ 1000 ∧ c0.size ≤ 1000
  · have hg : ∀ n ∈ l0, n < 9223372036854775808 := fun x hx => kwf_bd (x0 x hx)
    refine Ev.congr (fun k => if_pos (decide_eq_true f0)) ?_
    refine Ev.bind (key_f a0 b0 c0 l0 (by omega)) ?_
    refine Ev.bind (rkey_f a0 b0 c0 l0 (by omega) hg) ?_
    refine Ev.bind (span_f a0 b0 c0 l0 (by omega)) ?_
    refine Ev.bind (rspan_f a0 b0 c0 l0 (by omega) hg) ?_
    refine Ev.bind (parse_f s) ?_
    refine Ev.bind (rparse_f s) ?_
    refine Ev.congr (fun k => (if_pos rfl).trans ((if_pos rfl).trans ((if_pos (by simp)).trans (if_pos rfl)))) ?_
    refine Ev.bind (ksame_f _ _ _ _ (by have := parse_len s; omega)) ?_
    refine Ev.congr (fun k => (if_pos rfl).trans (if_pos rfl)) ?_
    exact Ev.bind klives_f (Ev.const _)
  · refine Ev.congr (fun k => if_neg (fun h => f0 (of_decide_eq_true h))) ?_
    exact Ev.bind klives_f (Ev.const _)
end Go.Proofs.YtbdfmjgndeigpaaDoor.Pure
