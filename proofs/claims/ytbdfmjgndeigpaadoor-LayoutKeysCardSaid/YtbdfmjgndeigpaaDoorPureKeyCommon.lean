import Derived.Test.YtbdfmjgndeigpaaDoorPx9
import Derived.Lib.Strings
namespace Go.Proofs.YtbdfmjgndeigpaaDoor.Pure
open Go.RowKit Go.Proofs.YtbdfmjgndeigpaaDoor.P Go.Proofs.YtbdfmjgndeigpaaDoorW.PrintWords Go.Proofs.YtbdfmjgndeigpaaDoorW.PrintLast
/-! ### From some number of rounds on -/
def Ev {α : Type} (F : Nat → Option α) (r : α) : Prop := ∃ K, ∀ k, K ≤ k → F k = some r
theorem Ev.succ {α : Type} {F G : Nat → Option α} {r : α} (h : ∀ k, F (k + 1) = G k) (e : Ev G r) : Ev F r := by
  obtain ⟨K, e⟩ := e
  refine ⟨K + 1, fun k hk => ?_⟩
  obtain ⟨k, rfl⟩ : ∃ m, k = m + 1 := ⟨k - 1, by omega⟩
  rw [h]
  exact e k (by omega)
theorem Ev.congr {α : Type} {F G : Nat → Option α} {r : α} (h : ∀ k, F k = G k) (e : Ev G r) : Ev F r := by
  obtain ⟨K, e⟩ := e
  exact ⟨K, fun k hk => (h k).trans (e k hk)⟩
theorem Ev.const {α : Type} (r : α) : Ev (fun _ => some r) r := ⟨0, fun _ _ => rfl⟩
theorem Ev.bind {α β : Type} {F : Nat → Option α} {G : Nat → α → Option β} {a : α} {b : β} (h : Ev F a) (g : Ev (fun k => G k a) b) : Ev (fun k => (F k).bind (G k)) b := by
  obtain ⟨K, h⟩ := h
  obtain ⟨L, g⟩ := g
  refine ⟨max K L, fun k hk => ?_⟩
  show (F k).bind (G k) = _
  rw [h k (by omega)]
  exact g k (by omega)
theorem Ev.mono {α : Type} {F : Nat → Option α} {r : α} {K : Nat} (hm : ∀ k, LeO (F k) (F (k + 1))) (h : F K = some r) : Ev F r := by
  refine ⟨K, fun k hk => ?_⟩
  induction k with
  | zero =>
    have : K = 0 := by omega
    rw [← this]
    exact h
  | succ k ih =>
    by_cases e : K = k + 1
    · rw [← e]
      exact h
    · exact hm k r (ih (by omega))
theorem wr_in (n : Int) (h : -9223372036854775808 ≤ n ∧ n ≤ 9223372036854775807) : wrap64 n = n := by unfold wrap64; omega
theorem wr_one (a : Nat) (h : a ≤ 1000000) : wrap64 ((a : Int) + 1) = ((a + 1 : Nat) : Int) := by rw [wr_in _ (by omega)]; omega
/-! ### A number's bytes -/
def nb (u m : Int) (s : Int) : Int := Go.bits .xor .u8 ((shr .u64 u s) % 256) m
theorem num_step (k : Nat) (l : List Int) (m u s : Int) (h0 : 0 ≤ s) (h1 : s ≤ 56) (hl : l.length < 1000000) : tuple_number.l0 (k + 1) l m u s = tuple_number.l0 k (l ++ [nb u m s]) m u (s - 8) := by
  simp only [tuple_number.l0]
  rw [if_pos (by omega), if_pos (by omega), if_pos (by omega), wr_in _ (by omega)]
  rfl
def num8 (u m : Int) : List Int := [nb u m 56, nb u m 48, nb u m 40, nb u m 32, nb u m 24, nb u m 16, nb u m 8, nb u m 0]
theorem num_l0 (k : Nat) (l : List Int) (m u : Int) (hl : l.length < 999000) : tuple_number.l0 (k + 9) l m u 56 = some (l ++ num8 u m) := by
  rw [num_step _ _ _ _ _ (by omega) (by omega) (by omega), num_step _ _ _ _ _ (by omega) (by omega) (by simp; omega), num_step _ _ _ _ _ (by omega) (by omega) (by simp; omega), num_step _ _ _ _ _ (by omega) (by omega) (by simp; omega),
    num_step _ _ _ _ _ (by omega) (by omega) (by simp; omega), num_step _ _ _ _ _ (by omega) (by omega) (by simp; omega), num_step _ _ _ _ _ (by omega) (by omega) (by simp; omega), num_step _ _ _ _ _ (by omega) (by omega) (by simp; omega)]
  simp only [tuple_number.l0]
  rw [if_neg (by omega)]
  simp [num8]
def unum (n : Int) : Int := Go.bits .xor .u64 (IntKind.u64.wrap n) 9223372036854775808
theorem number_f (l : List Int) (n m : Int) (hl : l.length < 999000) : Ev (fun k => tuple_number.f k l n m) (l ++ num8 (unum n) m) := by
  refine ⟨9, fun k hk => ?_⟩
  obtain ⟨k, rfl⟩ : ∃ j, k = j + 9 := ⟨k - 9, by omega⟩
  exact num_l0 k l m (unum n) hl
/-! ### A part's bytes -/
def partB (p : S91) : List Int := if p.f0 = 2 then 3 :: num8 (unum p.f1) 0 else if p.f0 = 3 then 4 :: num8 (unum p.f1) 255 else 2 :: esc (bytesOf p.f2) ++ [0, 1]
theorem put_f (l : List Int) (p : S91) (hl : l.length < 990000) (hs : p.f2.size ≤ 1000000) : Ev (fun k => tuple_put.f k l p.f0 p.f1 p.f2) (l ++ partB p) := by
  unfold tuple_put.f tuple_putN.f partB
  by_cases h2 : p.f0 = 2
  · simp only [if_pos (Or.inl h2 : p.f0 = 2 ∨ p.f0 = 3), if_pos h2, if_pos (show l.length < 140737488355328 by omega)]
    have := Ev.bind (number_f (l ++ [3]) p.f1 0 (by simp; omega)) (Ev.const (l ++ [3] ++ num8 (unum p.f1) 0))
    rw [List.append_assoc] at this
    exact this
  · by_cases h3 : p.f0 = 3
    · simp only [if_pos (Or.inr h3 : p.f0 = 2 ∨ p.f0 = 3), if_neg h2, if_pos h3, if_pos (show l.length < 140737488355328 by omega)]
      have := Ev.bind (number_f (l ++ [4]) p.f1 255 (by simp; omega)) (Ev.const (l ++ [4] ++ num8 (unum p.f1) 255))
      rw [List.append_assoc] at this
      exact this
    · simp only [if_neg (show ¬ (p.f0 = 2 ∨ p.f0 = 3) from fun h => h.elim h2 h3), if_neg h2, if_neg h3, if_pos (show l.length < 1000000 ∧ p.f2.size ≤ 1000000 from ⟨by omega, hs⟩)]
      have e : l ++ (2 :: esc (bytesOf p.f2) ++ [0, 1]) = l ++ [2] ++ esc (bytesOf p.f2) ++ [0, 1] := by simp
      rw [e]
      exact Ev.const _
end Go.Proofs.YtbdfmjgndeigpaaDoor.Pure
