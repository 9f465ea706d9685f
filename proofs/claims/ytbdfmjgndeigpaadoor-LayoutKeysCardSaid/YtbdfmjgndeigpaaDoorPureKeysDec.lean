import Derived.Test.YtbdfmjgndeigpaaDoorPureParseDec
import Derived.Test.YtbdfmjgndeigpaaDoorPureKeysEnc
import Derived.Test.YtbdfmjgndeigpaaDoorPx29
import Derived.Test.YtbdfmjgndeigpaaDoorPx28
import Derived.Test.YtbdfmjgndeigpaaDoorPx27
import Derived.Test.YtbdfmjgndeigpaaDoorPx22
namespace Go.Proofs.YtbdfmjgndeigpaaDoor.Pure
open Go.RowKit Go.Proofs.YtbdfmjgndeigpaaDoor.P Go.Proofs.YtbdfmjgndeigpaaDoorW.PrintWords Go.Proofs.YtbdfmjgndeigpaaDoorW.PrintLast Go.Proofs.YtbdfmjgndeigpaaDoorW.PrintMore
set_option linter.unusedVariables false
/-! ### The reference reads the same parts of bytes -/
def numU (l : List Int) : Int := l.foldl (fun n c => n * 256 + c) 0
theorem numU_snoc (l : List Int) (c : Int) : numU (l ++ [c]) = numU l * 256 + c := by unfold numU; rw [List.foldl_append]; rfl
theorem numU_bd : ∀ (k : Nat) (l : List Int), l.length = k → byteL l → 0 ≤ numU l ∧ numU l < 256 ^ k
  | 0, l, h, _ => by
    obtain rfl := List.eq_nil_of_length_eq_zero h
    decide
  | k + 1, l, h, hb => by
    have hne : l ≠ [] := by rintro rfl; cases h
    obtain ⟨m, c, rfl⟩ : ∃ m c, l = m ++ [c] := ⟨l.dropLast, l.getLast hne, (List.dropLast_concat_getLast hne).symm⟩
    rw [List.length_append, List.length_singleton] at h
    have ih := numU_bd k m (by omega) (fun d hd => hb d (List.mem_append_left _ hd))
    have hc := hb c (by simp)
    rw [numU_snoc, Int.pow_succ]
    obtain ⟨q, hq⟩ : ∃ q : Int, (256 : Int) ^ k = q := ⟨_, rfl⟩
    rw [hq] at ih ⊢
    omega
theorem pow_small (i : Nat) (h : i ≤ 7) : (256 : Int) ^ i ≤ 72057594037927936 := by
  have : i = 0 ∨ i = 1 ∨ i = 2 ∨ i = 3 ∨ i = 4 ∨ i = 5 ∨ i = 6 ∨ i = 7 := by omega
  rcases this with rfl | rfl | rfl | rfl | rfl | rfl | rfl | rfl <;> decide
theorem or_full {n c : Int} (h0 : 0 ≤ n) (h1 : n < 72057594037927936) (g0 : 0 ≤ c) (g1 : c ≤ 255) : Go.bits .or .u64 (IntKind.u64.wrap (n * 256)) (IntKind.u64.wrap c) = n * 256 + c := by
  have e1 : IntKind.u64.wrap (n * 256) = n * 256 := by simp [IntKind.wrap, IntKind.bits, IntKind.signed]; omega
  have e2 : IntKind.u64.wrap c = c := by simp [IntKind.wrap, IntKind.bits, IntKind.signed]; omega
  rw [e1, e2]
  exact or_join h0 h1 g0 g1
theorem rnumber_l0 (ys : List Int) (hl : ys.length = 8) (hb : byteL ys) : ∀ (r i : Nat), 8 - i = r → i ≤ 8 → Ev (fun k => r01_Number.l0 k (strOfNums ys) 0 8 (numU (ys.take i)) (i : Int)) (wrap64 (numU ys))
  | r, i, hr, hi => by
    by_cases hlt : i < 8
    · have hil : i < ys.length := by omega
      have ht : ys.take (i + 1) = ys.take i ++ [ys[i]] := by rw [List.take_add_one, List.getElem?_eq_getElem hil]; rfl
      have ih := rnumber_l0 ys hl hb (r - 1) (i + 1) (by omega) (by omega)
      have hbt : bt (strOfNums ys) (i : Int) = ys[i] := by
        rw [← rd_bytesOf, bytesOf_nums hb, rd_at hil]
      have hc := hb _ (List.getElem_mem hil)
      have hbd := numU_bd i (ys.take i) (by rw [List.length_take]; omega) (fun c hc => hb c (List.mem_of_mem_take hc))
      have hpw := pow_small i (by omega)
      have hM1 : numU (ys.take i) < 72057594037927936 := Int.lt_of_lt_of_le hbd.2 hpw
      have hor := or_full hbd.1 hM1 hc.1 (by omega)
      clear hbd hpw
      have ew : wrap64 (0 + (i : Int)) = (i : Int) := by rw [wr_in _ (by omega)]; omega
      have hsz : (strOfNums ys).size = 8 := by rw [strOfNums_size, hl]
      rw [ht, numU_snoc] at ih
      refine Ev.succ (fun k => ?_) ih
      simp only [r01_Number.l0]
      rw [if_pos (by omega), ew, if_pos (by omega), if_pos (by omega), hbt, hor, wr_one i (by omega)]
    · have e : i = 8 := by omega
      subst e
      rw [List.take_of_length_le (by omega)]
      refine Ev.succ (fun k => ?_) (Ev.const _)
      simp only [r01_Number.l0]
      rw [if_neg (by decide)]
  termination_by r => r
  decreasing_by omega
theorem rnumber_f (ys : List Int) (hl : ys.length = 8) (hb : byteL ys) : Ev (fun k => r01_Number.f k (strOfNums ys) 0 8) (wrap64 (numU ys)) := rnumber_l0 ys hl hb 8 0 rfl (by omega)
/-! ### Eight bytes are the same number -/
theorem xor_128 : ∀ b, b < 256 → Go.bits .xor .u8 ((b : Nat) : Int) 128 = if b < 128 then ((b + 128 : Nat) : Int) else ((b - 128 : Nat) : Int) := by decide +kernel
theorem xor_63 (u : Nat) (h : u < 18446744073709551616) : u ^^^ 9223372036854775808 = if u < 9223372036854775808 then u + 9223372036854775808 else u - 9223372036854775808 := by
  by_cases hu : u < 9223372036854775808
  · rw [if_pos hu]
    exact xor_top u hu
  · rw [if_neg hu]
    have := xor_back (u - 9223372036854775808) (by omega)
    rw [show u - 9223372036854775808 + 9223372036854775808 = u by omega] at this
    exact this
theorem rdv_eq (m : Int) (ys : List Nat) (hl : ys.length = 8) (hy : ∀ c ∈ ys, c < 256) (xs : List Int) (hx : xs.map (xb m) = ys.map (fun c : Nat => (c : Int))) : rdv m xs = wrap64 (numU ((ys.map (fun c : Nat => (c : Int))).set 0 (Go.bits .xor .u8 ((ys.map (fun c : Nat => (c : Int))).getD 0 0) 128))) := by
  have hf : foldU m xs = numU (ys.map (fun c : Nat => (c : Int))) := by
    rw [← hx]
    unfold foldU numU
    rw [List.foldl_map]
  match ys, hl with
  | [a, b, c, d, e, f, g, h], _ =>
    have ha := hy a (by simp)
    have hb := hy b (by simp)
    have hc := hy c (by simp)
    have hd := hy d (by simp)
    have he := hy e (by simp)
    have hf' := hy f (by simp)
    have hg := hy g (by simp)
    have hh := hy h (by simp)
    obtain ⟨u, hu⟩ : ∃ u : Nat, u = ((((((a * 256 + b) * 256 + c) * 256 + d) * 256 + e) * 256 + f) * 256 + g) * 256 + h := ⟨_, rfl⟩
    have hU : numU ([a, b, c, d, e, f, g, h].map (fun c : Nat => (c : Int))) = (u : Int) := by
      simp only [numU, List.map, List.foldl]
      omega
    have hlt : u < 18446744073709551616 := by omega
    unfold rdv
    rw [hf, hU, show (9223372036854775808 : Int) = ((9223372036854775808 : Nat) : Int) from rfl, u64_xor_nat u 9223372036854775808 hlt (by decide), xor_63 u hlt]
    congr 1
    have e0 : ([a, b, c, d, e, f, g, h].map (fun c : Nat => (c : Int))).getD 0 0 = (a : Int) := rfl
    rw [e0, xor_128 a ha]
    show _ = numU [_, (b : Int), (c : Int), (d : Int), (e : Int), (f : Int), (g : Int), (h : Int)]
    simp only [numU, List.foldl]
    split <;> split <;> omega
theorem eight_eq {c : Int} (hc : c = 3 ∨ c = 4) (xs : List Int) (hl : xs.length = 8) (hb : byteL xs) : rdv (if c = 3 then 0 else 255) xs = wrap64 (numU (eightL c xs)) ∧ (eightL c xs).length = 8 ∧ byteL (eightL c xs) := by
  obtain ⟨ns, hns, hn⟩ : ∃ ns : List Nat, xs = ns.map (fun c : Nat => (c : Int)) ∧ ∀ c ∈ ns, c < 256 := by
    refine ⟨xs.map Int.toNat, ?_, ?_⟩
    · rw [List.map_map]
      conv => lhs; rw [← List.map_id xs]
      refine List.map_congr_left fun c hc => ?_
      have := hb c hc
      simp only [Function.comp, id]
      omega
    · intro c hc
      obtain ⟨d, hd, rfl⟩ := List.mem_map.1 hc
      have := hb d hd
      omega
  have fin : ∀ (ys : List Nat), ys.length = 8 → (∀ c ∈ ys, c < 256) → ((ys.map (fun c : Nat => (c : Int))).set 0 (Go.bits .xor .u8 ((ys.map (fun c : Nat => (c : Int))).getD 0 0) 128)).length = 8 ∧ byteL ((ys.map (fun c : Nat => (c : Int))).set 0 (Go.bits .xor .u8 ((ys.map (fun c : Nat => (c : Int))).getD 0 0) 128)) := by
    intro ys hl hy
    refine ⟨by rw [List.length_set, List.length_map]; exact hl, fun x hx => ?_⟩
    rcases List.mem_or_eq_of_mem_set hx with hx | rfl
    · obtain ⟨d, hd, rfl⟩ := List.mem_map.1 hx
      have := hy d hd
      omega
    · match ys, hl with
      | a :: _, _ =>
        have ha := hy a (by simp)
        have e0 : ∀ q : List Nat, ((a :: q).map (fun c : Nat => (c : Int))).getD 0 0 = (a : Int) := fun _ => rfl
        rw [e0, xor_128 a ha]
        split <;> omega
  rcases hc with rfl | rfl
  · have hl' : ns.length = 8 := by rw [hns, List.length_map] at hl; exact hl
    have e : eightL 3 xs = (ns.map (fun c : Nat => (c : Int))).set 0 (Go.bits .xor .u8 ((ns.map (fun c : Nat => (c : Int))).getD 0 0) 128) := by
      unfold eightL
      rw [if_neg (by decide), hns]
    rw [e, if_pos rfl]
    refine ⟨rdv_eq 0 ns hl' hn xs ?_, fin ns hl' hn⟩
    rw [hns, List.map_map]
    refine List.map_congr_left fun c hc => ?_
    exact xb_up c (hn c hc)
  · have hl' : (ns.map (fun c : Nat => 255 - c)).length = 8 := by rw [List.length_map]; rw [hns, List.length_map] at hl; exact hl
    have hn' : ∀ c ∈ ns.map (fun c : Nat => 255 - c), c < 256 := by
      intro c hc
      obtain ⟨d, hd, rfl⟩ := List.mem_map.1 hc
      omega
    have e1 : xs.map (fun c : Int => 255 - c) = (ns.map (fun c : Nat => 255 - c)).map (fun c : Nat => (c : Int)) := by
      rw [hns, List.map_map, List.map_map]
      refine List.map_congr_left fun c hc => ?_
      have := hn c hc
      simp only [Function.comp]
      omega
    have e : eightL 4 xs = ((ns.map (fun c : Nat => 255 - c)).map (fun c : Nat => (c : Int))).set 0 (Go.bits .xor .u8 (((ns.map (fun c : Nat => 255 - c)).map (fun c : Nat => (c : Int))).getD 0 0) 128) := by
      unfold eightL
      rw [if_pos rfl, e1]
    rw [e, if_neg (by decide)]
    refine ⟨rdv_eq 255 _ hl' hn' xs ?_, fin _ hl' hn'⟩
    rw [hns, List.map_map, List.map_map]
    refine List.map_congr_left fun c hc => ?_
    have hc' := hn c hc
    have := xb_down (255 - c) (by omega)
    rw [show 255 - (255 - c) = c by omega] at this
    exact this
/-! ### Texts -/
theorem ftxt_dec : ∀ (n : Nat) (xs t : List Int) (i : Nat) (acc : List S91), xs.length ≤ n → (ftxt t xs i = none → dec (some t) xs acc = none) ∧ ∀ t' j, ftxt t xs i = some (t', j) → i < j ∧ j ≤ i + xs.length ∧ dec (some t) xs acc = dec none (xs.drop (j - i)) (acc ++ [⟨1, 0, strOfNums t'⟩])
  | n, [], t, i, acc, _ => by
    rw [ftxt_nil, dec_tnil]
    exact ⟨fun _ => rfl, fun _ _ h => by cases h⟩
  | 0, _ :: _, _, _, _, hl => by simp at hl
  | n + 1, c :: r, t, i, acc, hl => by
    rw [List.length_cons] at hl ⊢
    by_cases hc : c = 0
    · subst hc
      match r with
      | [] =>
        rw [ftxt_0nil, dec_t0nil]
        exact ⟨fun _ => rfl, fun _ _ h => by cases h⟩
      | d :: q =>
        rw [List.length_cons] at hl ⊢
        rw [ftxt_0cons, dec_t0cons]
        by_cases h1 : d = 1
        · subst h1
          rw [if_pos rfl, if_neg (by decide), if_pos rfl]
          refine ⟨fun h => (by cases h), fun t' j h => ?_⟩
          have h := Option.some.inj h
          obtain ⟨rfl, rfl⟩ : t = t' ∧ i + 2 = j := by simpa using h
          refine ⟨by omega, by omega, ?_⟩
          rw [show i + 2 - i = 2 by omega]
          rfl
        · by_cases h2 : d = 255
          · subst h2
            rw [if_neg (by decide), if_pos rfl, if_pos rfl]
            have ih := ftxt_dec n q (t ++ [0]) (i + 2) acc (by omega)
            refine ⟨ih.1, fun t' j h => ?_⟩
            obtain ⟨g1, g2, g3⟩ := ih.2 t' j h
            refine ⟨by omega, by omega, ?_⟩
            rw [g3, show j - i = (j - (i + 2)) + 2 by omega]
            rfl
          · rw [if_neg h1, if_neg h2, if_neg h2, if_neg h1]
            exact ⟨fun _ => rfl, fun _ _ h => by cases h⟩
    · rw [ftxt_cons hc, dec_tcons hc]
      have ih := ftxt_dec n r (t ++ [c]) (i + 1) acc (by omega)
      refine ⟨ih.1, fun t' j h => ?_⟩
      obtain ⟨g1, g2, g3⟩ := ih.2 t' j h
      refine ⟨by omega, by omega, ?_⟩
      rw [g3, show j - i = (j - (i + 1)) + 1 by omega]
      rfl
/-! ### Decode -/
def decO (r : Option (List S91)) : List S91 × Int := match r with | some l => (l, 0) | none => ([], 4)
theorem bytes_byte (s : ByteArray) : byteL (bytesOf s) := by
  intro c hc
  unfold bytesOf at hc
  obtain ⟨b, _, rfl⟩ := List.mem_map.1 hc
  have := b.toNat_lt
  omega
theorem bytes_rest (s : ByteArray) (n : Nat) : bytesOf (s.extract n s.size) = (bytesOf s).drop n := by
  rw [bytesOf_extract, List.take_of_length_le (by rw [bytesOf_length]; omega)]
theorem rdecode_l0 : ∀ (n : Nat) (s : ByteArray) (acc : List S91), s.size ≤ n → s.size ≤ 128 → acc.length + s.size ≤ 1000 → Ev (fun k => r02_Decode.l0 k s acc) (decO (dec none (bytesOf s) acc))
  | n, s, acc, hn, hs, ha => by
    by_cases h0 : s.size = 0
    · have e : bytesOf s = [] := List.eq_nil_of_length_eq_zero (by rw [bytesOf_length]; exact h0)
      rw [e, dec_nil]
      refine Ev.succ (fun k => ?_) (Ev.const _)
      simp only [r02_Decode.l0]
      rw [if_neg (by omega)]
      rfl
    · have hp : (s.size : Int) > 0 := by omega
      obtain ⟨r, hr⟩ : ∃ r, bytesOf s = bt s 0 :: r := by
        cases hx : bytesOf s with
        | nil =>
          have := bytesOf_length s
          rw [hx] at this
          simp at this
          omega
        | cons c r =>
          refine ⟨r, ?_⟩
          rw [← rd_bytesOf, hx]
          rfl
      have hrl : r.length + 1 = s.size := by rw [← bytesOf_length, hr]; rfl
      have hbr : byteL r := fun c hc => bytes_byte s c (by rw [hr]; exact List.mem_cons_of_mem _ hc)
      -- what is left behind the first part
      have next : ∀ (m : Nat) (p : S91) (mi : Int), mi = (m : Int) → 1 ≤ m → m ≤ s.size → Ev (fun k => if mi = 0 then (some (([] : List (S91)), (4 : Int))) else (if acc.length < 4398046511104 then (if 0 ≤ mi then (if mi ≤ (s.size : Int) then (r02_Decode.l0 k (s.extract (mi : Int).toNat s.size) (acc ++ [p])) else (none)) else (none)) else (none))) (decO (dec none ((bytesOf s).drop m) (acc ++ [p]))) := by
        intro m p mi hmi h1 h2
        subst hmi
        have hsz : (s.extract m s.size).size = s.size - m := by
          rw [← bytesOf_length, bytes_rest, List.length_drop, bytesOf_length]
        cases n with
        | zero => omega
        | succ n =>
          have ih := rdecode_l0 n (s.extract m s.size) (acc ++ [p]) (by omega) (by omega) (by rw [List.length_append, List.length_singleton]; omega)
          rw [bytes_rest] at ih
          refine Ev.congr (fun k => ?_) ih
          rw [if_neg (by omega), if_pos (by omega), if_pos (by omega), if_pos (by omega), Int.toNat_natCast]
      refine Ev.succ (G := fun k => (r02_first.f k s).bind fun bt318 => (if bt318.2.2.2 = 0 then (some (([] : List (S91)), 4)) else (if acc.length < 4398046511104 then (if 0 ≤ bt318.2.2.2 then (if bt318.2.2.2 ≤ (s.size : Int) then (r02_Decode.l0 k (s.extract (bt318.2.2.2 : Int).toNat s.size) (acc ++ [(⟨bt318.1, bt318.2.1, bt318.2.2.1⟩ : S91)])) else (none)) else (none)) else (none)))) (fun k => ?_) ?_
      · simp only [r02_Decode.l0]
        rw [if_pos hp]
      have hsz1 : 1 ≤ s.size ∧ s.size ≤ 1000000 := by omega
      have fail : ∀ k : Nat, (if (0 : Int) = 0 then (some (([] : List (S91)), (4 : Int))) else (if acc.length < 4398046511104 then (if 0 ≤ (0 : Int) then (if (0 : Int) ≤ (s.size : Int) then (r02_Decode.l0 k (s.extract (0 : Int).toNat s.size) (acc ++ [(⟨0, 0, ⟨#[]⟩⟩ : S91)])) else (none)) else (none)) else (none))) = some (([] : List (S91)), (4 : Int)) := fun k => if_pos rfl
      by_cases h34 : bt s 0 = 3 ∨ bt s 0 = 4
      · have hd : dec none (bytesOf s) acc = if r.length < 8 then none else dec none (r.drop 8) (acc ++ [⟨bt s 0 - 1, rdv (if bt s 0 = 3 then 0 else 255) (r.take 8), ⟨#[]⟩⟩]) := by
          rw [hr, dec_cons, if_neg (by omega), if_pos h34]
        by_cases h9 : s.size < 9
        · rw [hd, if_pos (by omega)]
          refine Ev.bind (a := (0, 0, ⟨#[]⟩, 0)) (Ev.of (fun k => ?_)) (Ev.of fail)
          unfold r02_first.f
          rw [if_pos hsz1, if_pos h34, if_pos h9]
        · have e8 : bytesOf (s.extract 1 9) = r.take 8 := by
            rw [bytesOf_extract, hr]
            rfl
          have ht8 : (r.take 8).length = 8 := by rw [List.length_take]; omega
          obtain ⟨q1, q2, q3⟩ := eight_eq h34 (r.take 8) ht8 (fun c hc => hbr c (List.mem_of_mem_take hc))
          rw [hd, if_neg (by omega), q1]
          refine Ev.bind (a := (bt s 0 - 1, wrap64 (numU (eightL (bt s 0) (r.take 8))), ⟨#[]⟩, 9)) ?_ ?_
          · unfold r02_first.f
            refine Ev.congr (fun k => (if_pos hsz1).trans ((if_pos h34).trans (if_neg h9))) ?_
            rw [e8]
            exact Ev.bind (rnumber_f _ q2 q3) (Ev.const _)
          · have := next 9 ⟨bt s 0 - 1, wrap64 (numU (eightL (bt s 0) (r.take 8))), ⟨#[]⟩⟩ 9 rfl (by omega) (by omega)
            rw [hr] at this
            exact this
      · by_cases h2 : bt s 0 = 2
        · have hd : dec none (bytesOf s) acc = dec (some []) r acc := by
            rw [hr, dec_cons, if_pos h2]
          have hf : ∀ k, r02_first.f k s = firstR (ftxt [] r 1) := by
            intro k
            unfold r02_first.f
            rw [if_pos hsz1, if_neg h34, if_pos h2, hr]
            rfl
          obtain ⟨g1, g2⟩ := ftxt_dec _ r [] 1 acc (Nat.le_refl _)
          rw [hd]
          cases hx : ftxt [] r 1 with
          | none =>
            rw [g1 hx]
            refine Ev.bind (a := (0, 0, ⟨#[]⟩, 0)) (Ev.of (fun k => ?_)) (Ev.of fail)
            rw [hf, hx]
            rfl
          | some tj =>
            obtain ⟨t', j⟩ := tj
            obtain ⟨j1, j2, j3⟩ := g2 t' j hx
            rw [j3]
            refine Ev.bind (a := (1, 0, strOfNums t', (j : Int))) (Ev.of (fun k => ?_)) ?_
            · rw [hf, hx]
              rfl
            · have := next j ⟨1, 0, strOfNums t'⟩ (j : Int) rfl (by omega) (by omega)
              rw [hr, show (bt s 0 :: r).drop j = r.drop (j - 1) by rw [show j = (j - 1) + 1 by omega]; rfl] at this
              exact this
        · have hd : dec none (bytesOf s) acc = none := by
            rw [hr, dec_cons, if_neg h2, if_neg h34]
          rw [hd]
          refine Ev.bind (a := (0, 0, ⟨#[]⟩, 0)) (Ev.of (fun k => ?_)) (Ev.of fail)
          unfold r02_first.f
          rw [if_pos hsz1, if_neg h34, if_neg h2]
  termination_by n => n
  decreasing_by omega
theorem rdecode_f (s : ByteArray) : ∃ r, tuple_Decode.f s = some r ∧ Ev (fun k => r02_Decode.f k s) r := by
  unfold tuple_Decode.f r02_Decode.f
  by_cases h : s.size > 128
  · refine ⟨_, if_pos h, ?_⟩
    exact Ev.of (fun k => if_pos (by omega))
  · have hd := rdecode_l0 _ s [] (Nat.le_refl _) (by omega) (by simp; omega)
    refine ⟨decO (dec none (bytesOf s) []), ?_, ?_⟩
    · rw [if_neg h]
      cases dec none (bytesOf s) [] <;> rfl
    · exact Ev.congr (fun k => if_neg (by omega)) hd
end Go.Proofs.YtbdfmjgndeigpaaDoor.Pure
