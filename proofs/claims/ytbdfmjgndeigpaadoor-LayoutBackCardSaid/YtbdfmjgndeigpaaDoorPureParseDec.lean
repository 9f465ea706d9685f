import Derived.Test.YtbdfmjgndeigpaaDoorPureKeyPrefix
import Derived.KernelRfl
import Derived.Laws.BitsAllLaws
import Derived.Test.YtbdfmjgndeigpaaDoorPx18
namespace Go.Proofs.YtbdfmjgndeigpaaDoor.Pure
open Go.RowKit Go.Proofs.YtbdfmjgndeigpaaDoor.P Go.Proofs.YtbdfmjgndeigpaaDoorW.PrintWords Go.Proofs.YtbdfmjgndeigpaaDoorW.PrintLast Go.Proofs.YtbdfmjgndeigpaaDoorW.PrintMore
set_option linter.unusedVariables false
/-! ### Parts are read of their bytes -/
theorem nums_bytesOf (x : ByteArray) : strOfNums (bytesOf x) = x := by
  unfold strOfNums bytesOf
  rw [List.map_map]
  have : (fun n : Int => UInt8.ofNat n.toNat) ∘ (fun b : UInt8 => (b.toNat : Int)) = id := by
    funext b
    simp
  cases x with
  | mk d => simp [this]
theorem u64_nat (n : Nat) (h : n < 18446744073709551616) : IntKind.u64.wrap (n : Int) = (n : Int) := by
  simp [IntKind.wrap, IntKind.bits, IntKind.signed]
  omega
theorem xb_up (b : Nat) (h : b < 256) : xb 0 (b : Int) = (b : Int) := by
  unfold xb
  rw [show (0 : Int) = ((0 : Nat) : Int) from rfl, u8_xor_nat b 0 h (by decide), Nat.xor_zero]
theorem xb_down (b : Nat) (h : b < 256) : xb 255 ((255 - b : Nat) : Int) = (b : Int) := by
  unfold xb
  rw [show (255 : Int) = ((255 : Nat) : Int) from rfl, u8_xor_nat (255 - b) 255 (by omega) (by decide), xor_255 _ (by omega)]
  omega
theorem xor_back (n : Nat) (h : n < 9223372036854775808) : (n + 9223372036854775808) ^^^ 9223372036854775808 = n := by
  rw [← xor_top n h, Nat.xor_assoc, Nat.xor_self, Nat.xor_zero]
theorem fold8 (u : Nat) (hu : u < 18446744073709551616) : (((((((0 * 256 + u / 2 ^ 56 % 256) * 256 + u / 2 ^ 48 % 256) * 256 + u / 2 ^ 40 % 256) * 256 + u / 2 ^ 32 % 256) * 256 + u / 2 ^ 24 % 256) * 256 + u / 2 ^ 16 % 256) * 256 + u / 2 ^ 8 % 256) * 256 + u / 2 ^ 0 % 256 = u := by omega
theorem fold_cast (a b c d e f g h : Nat) : ((((((((0 : Int) * 256 + (a : Int)) * 256 + (b : Int)) * 256 + (c : Int)) * 256 + (d : Int)) * 256 + (e : Int)) * 256 + (f : Int)) * 256 + (g : Int)) * 256 + (h : Int) = (((((((((0 * 256 + a) * 256 + b) * 256 + c) * 256 + d) * 256 + e) * 256 + f) * 256 + g) * 256 + h : Nat) : Int) := by
  omega
theorem foldU_up (u : Nat) (hu : u < 18446744073709551616) : foldU 0 (num8 (u : Int) 0) = (u : Int) := by
  have e : ∀ s : Nat, s ≤ 64 → xb 0 (nb (u : Int) 0 (s : Int)) = ((u / 2 ^ s % 256 : Nat) : Int) := fun s hs => by
    rw [nb_up u s hs]
    exact xb_up _ (Nat.mod_lt _ (by decide))
  have e0 := e 0 (by decide)
  have e1 := e 8 (by decide)
  have e2 := e 16 (by decide)
  have e3 := e 24 (by decide)
  have e4 := e 32 (by decide)
  have e5 := e 40 (by decide)
  have e6 := e 48 (by decide)
  have e7 := e 56 (by decide)
  unfold foldU num8
  simp only [List.foldl]
  refine Eq.trans ?_ ((fold_cast _ _ _ _ _ _ _ _).trans (congrArg (fun n : Nat => (n : Int)) (fold8 u hu)))
  exact congr (congrArg _ (congrArg (· * 256) (congr (congrArg _ (congrArg (· * 256) (congr (congrArg _ (congrArg (· * 256) (congr (congrArg _ (congrArg (· * 256) (congr (congrArg _ (congrArg (· * 256) (congr (congrArg _ (congrArg (· * 256) (congr (congrArg _ (congrArg (· * 256) (congr (congrArg _ rfl) e7))) e6))) e5))) e4))) e3))) e2))) e1))) e0
theorem foldU_down (u : Nat) (hu : u < 18446744073709551616) : foldU 255 (num8 (u : Int) 255) = (u : Int) := by
  have e : ∀ s : Nat, s ≤ 64 → xb 255 (nb (u : Int) 255 (s : Int)) = ((u / 2 ^ s % 256 : Nat) : Int) := fun s hs => by
    rw [nb_down u s hs]
    exact xb_down _ (Nat.mod_lt _ (by decide))
  have e0 := e 0 (by decide)
  have e1 := e 8 (by decide)
  have e2 := e 16 (by decide)
  have e3 := e 24 (by decide)
  have e4 := e 32 (by decide)
  have e5 := e 40 (by decide)
  have e6 := e 48 (by decide)
  have e7 := e 56 (by decide)
  unfold foldU num8
  simp only [List.foldl]
  refine Eq.trans ?_ ((fold_cast _ _ _ _ _ _ _ _).trans (congrArg (fun n : Nat => (n : Int)) (fold8 u hu)))
  exact congr (congrArg _ (congrArg (· * 256) (congr (congrArg _ (congrArg (· * 256) (congr (congrArg _ (congrArg (· * 256) (congr (congrArg _ (congrArg (· * 256) (congr (congrArg _ (congrArg (· * 256) (congr (congrArg _ (congrArg (· * 256) (congr (congrArg _ (congrArg (· * 256) (congr (congrArg _ rfl) e7))) e6))) e5))) e4))) e3))) e2))) e1))) e0
theorem rdv_of (m : Int) (l : List Int) (n : Nat) (h : n < 9223372036854775808) (e : foldU m l = ((n + 9223372036854775808 : Nat) : Int)) : rdv m l = (n : Int) := by
  unfold rdv
  have := u64_xor_nat (n + 9223372036854775808) 9223372036854775808 (by omega) (by decide)
  rw [xor_back n h] at this
  rw [e, show (9223372036854775808 : Int) = ((9223372036854775808 : Nat) : Int) from rfl, this]
  exact wr_in _ (by omega)
theorem rdv_up {n : Int} (h : goodN n) : rdv 0 (num8 (unum n) 0) = n := by
  obtain ⟨m, rfl, hm⟩ := goodN_nat h
  refine rdv_of 0 _ m hm ?_
  rw [unum_eq m hm]
  exact foldU_up _ (by omega)
theorem rdv_down {n : Int} (h : goodN n) : rdv 255 (num8 (unum n) 255) = n := by
  obtain ⟨m, rfl, hm⟩ := goodN_nat h
  refine rdv_of 255 _ m hm ?_
  rw [unum_eq m hm]
  exact foldU_down _ (by omega)
theorem dec_text : ∀ (x t A : List Int) (acc : List S91), (∀ c ∈ x, 0 < c ∧ c < 255) → dec (some t) (x ++ 0 :: 1 :: A) acc = dec none A (acc ++ [⟨1, 0, strOfNums (t ++ x)⟩])
  | [], t, A, acc, _ => by
    rw [List.nil_append, dec_t0cons, if_neg (by decide), if_pos rfl, List.append_nil]
  | c :: x, t, A, acc, h => by
    have := h c (by simp)
    rw [List.cons_append, dec_tcons (by omega), dec_text x (t ++ [c]) A acc (fun d hd => h d (by simp [hd])), List.append_assoc]
    rfl
theorem dec_part {p : S91} (hp : goodP p) (A : List Int) (acc : List S91) : dec none (partB p ++ A) acc = dec none A (acc ++ [p]) := by
  rcases hp with ⟨x, rfl, hx⟩ | ⟨n, rfl, hn⟩ | ⟨n, rfl, hn⟩
  · rw [partB_t hx, List.cons_append, dec_cons, if_pos rfl, List.append_assoc]
    have := dec_text (bytesOf x) [] A acc hx
    rw [List.nil_append, nums_bytesOf] at this
    exact this
  · rw [partB_up, List.cons_append, dec_cons, if_neg (by decide), if_pos (.inl rfl), if_neg (by rw [List.length_append, num8_length]; omega)]
    have e1 : (num8 (unum n) 0 ++ A).drop 8 = A := rfl
    have e2 : (num8 (unum n) 0 ++ A).take 8 = num8 (unum n) 0 := rfl
    rw [e1, e2, if_pos rfl, rdv_up hn]
    rfl
  · rw [partB_down, List.cons_append, dec_cons, if_neg (by decide), if_pos (.inr rfl), if_neg (by rw [List.length_append, num8_length]; omega)]
    have e1 : (num8 (unum n) 255 ++ A).drop 8 = A := rfl
    have e2 : (num8 (unum n) 255 ++ A).take 8 = num8 (unum n) 255 := rfl
    rw [e1, e2, if_neg (by decide), rdv_down hn]
    rfl
theorem dec_flat : ∀ (ps acc : List S91), (∀ p ∈ ps, goodP p) → dec none (flat ps) acc = some (acc ++ ps)
  | [], acc, _ => by
    show dec none [] acc = _
    rw [dec_nil, List.append_nil]
  | p :: ps, acc, h => by
    rw [flat_cons, dec_part (h p (by simp)), dec_flat ps _ (fun q hq => h q (by simp [hq])), List.append_assoc]
    rfl
/-! ### There are no more parts than bytes -/
theorem dec_few : ∀ (n : Nat) (m : Option (List Int)) (xs : List Int) (acc r : List S91), xs.length ≤ n → dec m xs acc = some r → r.length ≤ acc.length + xs.length
  | n, none, [], acc, r, _, h => by
    rw [dec_nil] at h
    obtain rfl := Option.some.inj h
    simp
  | 0, none, _ :: _, _, _, hl, _ => by simp at hl
  | n + 1, none, c :: q, acc, r, hl, h => by
    rw [List.length_cons] at hl ⊢
    rw [dec_cons] at h
    split at h
    · have := dec_few n _ _ _ _ (by omega) h
      omega
    · split at h
      · split at h
        · cases h
        · have := dec_few n _ _ _ _ (by rw [List.length_drop]; omega) h
          rw [List.length_append, List.length_drop] at this
          simp only [List.length_cons, List.length_nil] at this
          omega
      · cases h
  | n, some t, [], acc, r, _, h => by
    rw [dec_tnil] at h
    cases h
  | 0, some _, _ :: _, _, _, hl, _ => by simp at hl
  | n + 1, some t, c :: q, acc, r, hl, h => by
    rw [List.length_cons] at hl ⊢
    by_cases hc : c = 0
    · subst hc
      cases q with
      | nil => rw [dec_t0nil] at h; cases h
      | cons d q =>
        rw [List.length_cons] at hl ⊢
        rw [dec_t0cons] at h
        split at h
        · have := dec_few n _ _ _ _ (by omega) h
          omega
        · split at h
          · have := dec_few n _ _ _ _ (by omega) h
            rw [List.length_append] at this
            simp only [List.length_cons, List.length_nil] at this
            omega
          · cases h
    · rw [dec_tcons hc] at h
      have := dec_few n _ _ _ _ (by omega) h
      omega
end Go.Proofs.YtbdfmjgndeigpaaDoor.Pure
