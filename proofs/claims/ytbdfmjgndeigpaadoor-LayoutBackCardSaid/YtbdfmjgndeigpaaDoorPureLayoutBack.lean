import Derived.KernelRfl
import Derived.Test.YtbdfmjgndeigpaaDoorPureParseBack
import Derived.Test.YtbdfmjgndeigpaaDoorPx24
import Derived.Test.YtbdfmjgndeigpaaDoorPx4
import Derived.Test.YtbdfmjgndeigpaaDoorPx16
import Derived.Test.YtbdfmjgndeigpaaDoorPx23
import Derived.Test.YtbdfmjgndeigpaaDoorPx15
import Derived.Test.YtbdfmjgndeigpaaDoorPx14
namespace Go.Proofs.YtbdfmjgndeigpaaDoor.Pure
open Go.RowKit Go.Proofs.YtbdfmjgndeigpaaDoor.P Go.Proofs.YtbdfmjgndeigpaaDoorW.PrintWords Go.Proofs.YtbdfmjgndeigpaaDoorW.PrintLast Go.Proofs.YtbdfmjgndeigpaaDoorW.PrintMore
set_option linter.unusedVariables false
theorem lives_60 : w21_lives.f 60 = some true := by kernel_rfl
theorem lives_f : Ev (fun k => w21_lives.f k) true := Ev.mono (K := 60) (fun k => w21_lives.mono k) lives_60
/-! ### A version's text is read as the version -/
theorem dec_step {u : Nat} (h : ¬ u < 10) : Lib.decDigits u = Lib.decDigits (u / 10) ++ [UInt8.ofNat (48 + u % 10)] := by
  rw [Lib.decDigits, dif_neg h]
def numsOf (l : List UInt8) : List Int := l.map fun b => (b.toNat : Int)
def valN (l : List Int) : Int := l.foldl (fun n c => 10 * n + (c - 48)) 0
theorem val_snoc (l : List Int) (c : Int) : valN (l ++ [c]) = 10 * valN l + (c - 48) := by unfold valN; rw [List.foldl_append]; rfl
theorem dig_told (u : Nat) : ((UInt8.ofNat (48 + u % 10)).toNat : Int) = 48 + (u % 10 : Nat) := by
  simp
  omega
theorem dec_told : ∀ (k u : Nat), u < 10 ^ (k + 1) → valN (numsOf (Lib.decDigits u)) = u ∧ (∀ c ∈ numsOf (Lib.decDigits u), 48 ≤ c ∧ c ≤ 57) ∧ (Lib.decDigits u).length ≤ k + 1
  | k, u, hu => by
    by_cases h : u < 10
    · rw [Lib.decDigits_one h]
      have := dig_told u
      rw [Nat.mod_eq_of_lt h] at this
      refine ⟨?_, fun c hc => ?_, by simp⟩
      · show 10 * (0 : Int) + (((UInt8.ofNat (48 + u)).toNat : Int) - 48) = u
        rw [this]
        omega
      · have hc : c = ((UInt8.ofNat (48 + u)).toNat : Int) := by simpa [numsOf] using hc
        rw [hc, this]
        omega
    · cases k with
      | zero => omega
      | succ k =>
        obtain ⟨h1, h2, h3⟩ := dec_told k (u / 10) (by rw [Nat.pow_succ] at hu; omega)
        rw [dec_step h]
        have e : numsOf (Lib.decDigits (u / 10) ++ [UInt8.ofNat (48 + u % 10)]) = numsOf (Lib.decDigits (u / 10)) ++ [((UInt8.ofNat (48 + u % 10)).toNat : Int)] := by
          unfold numsOf
          rw [List.map_append]
          rfl
        rw [e, dig_told]
        refine ⟨?_, fun c hc => ?_, by rw [List.length_append, List.length_singleton]; omega⟩
        · rw [val_snoc, h1]
          omega
        · rcases List.mem_append.1 hc with hc | hc
          · exact h2 c hc
          · have hc : c = 48 + (u % 10 : Nat) := by simpa using hc
            omega
theorem decT_bytes (u : Nat) : bytesOf (decT (u : Int)) = numsOf (Lib.decDigits u) := by
  unfold decT
  rw [Lib.itoa_nonneg]
  unfold bytesOf numsOf
  simp
theorem version_back (n : Int) (h0 : 0 ≤ n) (h1 : n ≤ 1152921504606846976) : layout_Version.f n false = some (decT n) ∧ layout_ReadVersion.f (decT n) = some (n, false, 0) := by
  obtain ⟨u, rfl⟩ : ∃ u : Nat, n = u := ⟨n.toNat, by omega⟩
  obtain ⟨e1, e2, e3⟩ := dec_told 18 u (by omega)
  have hb := decT_bytes u
  have hs : (decT (u : Int)).size ≤ 19 := by
    rw [← bytesOf_length, hb]
    unfold numsOf
    rw [List.length_map]
    exact e3
  constructor
  · unfold layout_Version.f
    rw [if_neg (by decide), if_neg (by omega), if_pos (by omega)]
  · have hd : digits (decT (u : Int)) = true := by
      unfold digits
      rw [hb, List.all_eq_true]
      intro c hc
      have := e2 c hc
      simp
      omega
    have hN : digN (decT (u : Int)) (decT (u : Int)).size = u := by
      unfold digN
      rw [List.take_of_length_le (by rw [bytesOf_length]; omega), hb]
      exact e1
    have hnull : decT (u : Int) ≠ ⟨#[110, 117, 108, 108]⟩ := by
      intro hh
      rw [hh] at hd
      revert hd
      decide
    unfold layout_ReadVersion.f
    rw [if_neg hnull, if_neg (by omega), if_pos hd, hN, if_neg (by omega), if_pos rfl]
theorem null_back (n : Int) : layout_Version.f n true = some ⟨#[110, 117, 108, 108]⟩ ∧ layout_ReadVersion.f ⟨#[110, 117, 108, 108]⟩ = some (0, true, 0) := by
  constructor
  · unfold layout_Version.f
    rw [if_pos rfl]
  · unfold layout_ReadVersion.f
    rw [if_pos rfl]
/-! ### LayoutBack -/
theorem wf_bd {n : Int} (h : (Lit.int .i64 n).wf = true) : n < 9223372036854775808 := by
  simp [Lit.wf, IntKind.max, IntKind.min, IntKind.bits, IntKind.signed] at h
  omega
theorem few_b (a : Int) (b c : ByteArray) (l : List Int) : w21_few.f a b c l = some (decide (l.length ≤ 20 ∧ b.size ≤ 1000 ∧ c.size ≤ 1000)) := by
  unfold w21_few.f
  by_cases h1 : l.length ≤ 20
  · by_cases h2 : b.size ≤ 1000
    · by_cases h3 : c.size ≤ 1000
      · rw [if_pos (by omega), if_pos (by omega), decide_eq_true (by omega), decide_eq_true ⟨h1, h2, h3⟩]
      · rw [if_pos (by omega), if_pos (by omega), decide_eq_false (by omega), decide_eq_false (fun h => h3 h.2.2)]
    · rw [if_pos (by omega), if_neg (by omega), decide_eq_false (fun h => h2 h.2.1)]
  · rw [if_neg (by omega), decide_eq_false (fun h => h1 h.1)]
theorem same_l0 (a : Int) (b c : ByteArray) (l : List Int) (hl : l.length ≤ 1000) : ∀ (r j : Nat), l.length - j = r → Ev (fun k => r21_Same.l0 k (j : Int) a b c l a b c l) true
  | r, j, hrj => by
    by_cases hj : j < l.length
    · have ih := same_l0 a b c l hl (r - 1) (j + 1) (by omega)
      refine Ev.succ (fun k => ?_) ih
      simp only [r21_Same.l0]
      rw [if_pos (by omega), if_pos (by omega), if_pos (by omega), if_pos trivial, wr_one j (by omega)]
    · refine Ev.succ (fun k => ?_) (Ev.const true)
      simp only [r21_Same.l0]
      rw [if_neg (by omega)]
  termination_by r => r
  decreasing_by omega
theorem same_f (a : Int) (b c : ByteArray) (l : List Int) (hl : l.length ≤ 1000) : Ev (fun k => r21_Same.f k a b c l a b c l) true := by
  unfold r21_Same.f
  refine Ev.congr (fun k => (if_pos rfl).trans ((if_pos rfl).trans (if_pos rfl))) ?_
  have e : ((l.length : Int) != (l.length : Int)) = false := by simp
  rw [e]
  refine Ev.succ (fun k => ?_) (same_l0 a b c l hl _ 0 rfl)
  simp only [r21_Same.j0]
  rw [if_neg (by decide)]
  rfl
theorem back_j5 (s : ByteArray) (hs : s.size ≤ 140737488351232) : Ev (fun k => w21_LayoutBack.j5 k s) true := by
  refine Ev.succ (fun k => by rw [w21_LayoutBack.j5]) ?_
  have hr := read_f s hs
  obtain ⟨⟨a, b, c, g, n, e⟩, er⟩ : ∃ x, readR s = x := ⟨_, rfl⟩
  rw [er] at hr
  refine Ev.bind hr ?_
  by_cases he : e = 0
  · subst he
    have hb := read_back er
    refine Ev.congr (fun k => if_pos rfl) ?_
    refine Ev.bind (head_f a b c g n) ?_
    refine Ev.congr (fun k => (if_pos hb.1).trans (if_pos hb.2)) ?_
    exact Ev.bind lives_f (Ev.const _)
  · refine Ev.congr (fun k => if_neg he) ?_
    exact Ev.bind lives_f (Ev.const _)
theorem back_j4 (s : ByteArray) (hs : s.size ≤ 140737488351232) : Ev (fun k => w21_LayoutBack.j4 k s false) true := by
  refine Ev.succ (fun k => by rw [w21_LayoutBack.j4]) ?_
  refine Ev.congr (fun k => if_neg (by decide)) ?_
  have hr := parse_f s
  obtain ⟨⟨a, b, c, l, e⟩, er⟩ : ∃ x, parseR s = x := ⟨_, rfl⟩
  rw [er] at hr
  refine Ev.bind hr ?_
  by_cases he : e = 0
  · subst he
    have hb := parse_told er
    have hl := (numsOk_kind (keyR_ok hb.1).1).2.2.1
    refine Ev.congr (fun k => if_pos rfl) ?_
    refine Ev.bind (key_f a b c l (by omega)) ?_
    refine Ev.congr (fun k => (if_pos hb.2).trans (if_pos hb.1)) ?_
    exact back_j5 s hs
  · refine Ev.congr (fun k => if_neg he) ?_
    exact back_j5 s hs
theorem back_j3 (n : Int) (s : ByteArray) (hs : s.size ≤ 140737488351232) : Ev (fun k => w21_LayoutBack.j3 k n s) true := by
  refine Ev.succ (fun k => by rw [w21_LayoutBack.j3]) ?_
  refine Ev.bind (Ev.of (fun _ => (null_back n).1)) ?_
  refine Ev.bind (Ev.of (fun _ => (null_back n).2)) ?_
  refine Ev.congr (fun k => if_pos rfl) ?_
  exact back_j4 s hs
theorem back_j2 (n : Int) (s : ByteArray) (hs : s.size ≤ 140737488351232) (t : Bool) (ht : t = true → 0 ≤ n ∧ n ≤ 1152921504606846976) : Ev (fun k => w21_LayoutBack.j2 k n s t) true := by
  refine Ev.succ (fun k => by rw [w21_LayoutBack.j2]) ?_
  cases t with
  | false => exact Ev.congr (fun k => if_neg (by decide)) (back_j3 n s hs)
  | true =>
    have h := ht rfl
    have hv := version_back n h.1 h.2
    refine Ev.congr (fun k => if_pos rfl) ?_
    refine Ev.bind (Ev.of (fun _ => hv.1)) ?_
    refine Ev.bind (Ev.of (fun _ => hv.2)) ?_
    refine Ev.congr (fun k => (if_pos rfl).trans ((if_neg Bool.false_ne_true).trans (if_pos rfl))) ?_
    exact back_j3 n s hs
theorem back_j1 (n : Int) (s : ByteArray) (hs : s.size ≤ 140737488351232) : Ev (fun k => w21_LayoutBack.j1 k n s) true := by
  refine Ev.succ (fun k => by rw [w21_LayoutBack.j1]) ?_
  by_cases h : n ≥ 0
  · refine Ev.congr (fun k => if_pos h) ?_
    exact back_j2 n s hs _ (fun e => ⟨h, of_decide_eq_true e⟩)
  · refine Ev.congr (fun k => if_neg h) ?_
    exact back_j2 n s hs false (fun e => by cases e)
theorem back_j0 (n : Int) (s : ByteArray) (hs : s.size ≤ 140737488351232) (a b c : Int) (g m : Bool) : Ev (fun k => w21_LayoutBack.j0 k n s a b c g m) true := by
  refine Ev.succ (fun k => by rw [w21_LayoutBack.j0]) ?_
  have hh := head_f a b c g m
  cases eh : headR a b c g m with
  | mk x e =>
    rw [eh] at hh
    refine Ev.bind hh ?_
    by_cases he : e = 0
    · subst he
      have hb := head_back eh
      have hr := read_f x (by omega)
      rw [hb.1] at hr
      refine Ev.congr (fun k => if_pos rfl) ?_
      refine Ev.bind hr ?_
      refine Ev.congr (fun k => (if_neg (by simp)).trans ((if_pos rfl).trans (if_pos (by show (x.size : Int) = 11; omega)))) ?_
      exact back_j1 n s hs
    · refine Ev.congr (fun k => if_neg he) ?_
      exact back_j1 n s hs
theorem LayoutBack (a0 : Int) (b0 c0 : ByteArray) (l0 : List Int) (a1 b1 c1 : Int) (g1 n1 : Bool) (n : Int) (s : ByteArray) (w0 : (Lit.int .i64 a0).wf = true) (y0 : b0.size ≤ 9223372036854775807) (z0 : c0.size ≤ 9223372036854775807) (x0 : ∀ x ∈ l0, (Lit.int .i64 x).wf = true)
    (w2 : (Lit.int .i64 n).wf = true) (hs : s.size ≤ 140737488351232) : ∃ k, w21_LayoutBack.f k a0 b0 c0 l0 a1 b1 c1 g1 n1 n s = some true := by
  suffices h : Ev (fun k => w21_LayoutBack.f k a0 b0 c0 l0 a1 b1 c1 g1 n1 n s) true by
    obtain ⟨K, h⟩ := h
    exact ⟨K, h K (Nat.le_refl _)⟩
  unfold w21_LayoutBack.f
  refine Ev.bind (Ev.of (fun _ => few_b a0 b0 c0 l0)) ?_
  by_cases f0 : l0.length ≤ 20 ∧ b0.size ≤ 1000 ∧ c0.size ≤ 1000
  · refine Ev.congr (fun k => if_pos (decide_eq_true f0)) ?_
    refine Ev.bind (key_f a0 b0 c0 l0 (by omega)) ?_
    by_cases hk : (keyR a0 b0 c0 l0).2 = 0
    · have hp := key_parse (fun x hx => wf_bd (x0 x hx)) hk
      have hr := parse_f (keyR a0 b0 c0 l0).1
      rw [hp.1] at hr
      refine Ev.congr (fun k => if_pos hk) ?_
      refine Ev.bind hr ?_
      refine Ev.bind (same_f a0 b0 c0 l0 (by omega)) ?_
      refine Ev.congr (fun k => (if_pos rfl).trans ((if_pos rfl).trans (if_neg (by have := hp.2; omega)))) ?_
      exact back_j0 n s hs a1 b1 c1 g1 n1
    · refine Ev.congr (fun k => if_neg hk) ?_
      exact back_j0 n s hs a1 b1 c1 g1 n1
  · refine Ev.congr (fun k => if_neg (fun h => f0 (of_decide_eq_true h))) ?_
    exact Ev.bind lives_f (Ev.const _)
end Go.Proofs.YtbdfmjgndeigpaaDoor.Pure
