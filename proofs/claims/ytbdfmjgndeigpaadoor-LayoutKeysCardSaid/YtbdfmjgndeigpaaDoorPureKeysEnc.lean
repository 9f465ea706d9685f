import Derived.Test.YtbdfmjgndeigpaaDoorPureKeysRef
import Derived.Test.YtbdfmjgndeigpaaDoorPureKeyRes
import Derived.KernelRfl
import Derived.Laws.BitsAllLaws
import Derived.Test.YtbdfmjgndeigpaaDoorPx20
import Derived.Test.YtbdfmjgndeigpaaDoorPx21
import Derived.Test.YtbdfmjgndeigpaaDoorPx18
import Derived.Test.YtbdfmjgndeigpaaDoorPx16
import Derived.Test.YtbdfmjgndeigpaaDoorPx17
namespace Go.Proofs.YtbdfmjgndeigpaaDoor.Pure
open Go.RowKit Go.Proofs.YtbdfmjgndeigpaaDoor.P Go.Proofs.YtbdfmjgndeigpaaDoorW.PrintWords Go.Proofs.YtbdfmjgndeigpaaDoorW.PrintLast Go.Proofs.YtbdfmjgndeigpaaDoorW.PrintMore
set_option linter.unusedVariables false
/-! ### The reference's bytes of parts -/
theorem nums_app (x y : List Int) : strOfNums x ++ strOfNums y = strOfNums (x ++ y) := by
  unfold strOfNums
  rw [List.map_append]
  apply ByteArray.ext
  simp
theorem bytesOf_nums {l : List Int} (h : byteL l) : bytesOf (strOfNums l) = l := by
  unfold bytesOf
  rw [strOfNums_data, List.map_map]
  conv => rhs; rw [← List.map_id l]
  refine List.map_congr_left fun c hc => ?_
  have := h c hc
  simp only [Function.comp, id]
  simp
  omega
theorem rd_at {l : List Int} {j : Nat} (h : j < l.length) : rd l (j : Int) = l[j] := by
  unfold rd
  rw [Int.toNat_natCast, List.getD_eq_getElem?_getD, List.getElem?_eq_getElem h]
  rfl
theorem bt_get {x : ByteArray} {j : Nat} (h : j < (bytesOf x).length) : bt x (j : Int) = (bytesOf x)[j] := by rw [← rd_bytesOf, rd_at h]
theorem bt_mem {x : ByteArray} {j : Nat} (h : j < x.size) : bt x (j : Int) ∈ bytesOf x := by
  have hl : j < (bytesOf x).length := by rw [bytesOf_length]; exact h
  rw [bt_get hl]
  exact List.getElem_mem hl
theorem nums_of_bytes (x : ByteArray) : strOfNums (bytesOf x) = x := by
  unfold strOfNums bytesOf
  rw [List.map_map]
  have : (fun n : Int => UInt8.ofNat n.toNat) ∘ (fun b : UInt8 => (b.toNat : Int)) = id := by
    funext b
    simp
  cases x with
  | mk d => simp [this]
theorem bytesOf_extract (x : ByteArray) (i j : Nat) : bytesOf (x.extract i j) = ((bytesOf x).take j).drop i := by
  unfold bytesOf
  rw [ByteArray.data_extract, Array.toList_extract, List.extract_eq_take_drop, ← List.map_take, ← List.map_drop]
  congr 1
  rw [List.drop_take]
theorem ext_one {x : ByteArray} {j : Nat} (h : j < x.size) : x.extract j (j + 1) = strOfNums [bt x (j : Int)] := by
  have hl : j < (bytesOf x).length := by rw [bytesOf_length]; exact h
  have e : bytesOf (x.extract j (j + 1)) = [bt x (j : Int)] := by
    rw [bytesOf_extract, List.take_add_one, List.getElem?_eq_getElem hl, List.drop_append, List.drop_of_length_le (by rw [List.length_take]; omega), bt_get hl, List.length_take, Nat.min_eq_left (by omega), Nat.sub_self]
    rfl
  rw [← e, nums_of_bytes]
/-! ### Right, size, Check -/
theorem rright_f {p : S91} (hp : goodP p) : r02_right.f p.f0 p.f1 p.f2 = some true := by
  rcases hp with ⟨x, rfl, hx⟩ | ⟨n, rfl, hn⟩ | ⟨n, rfl, hn⟩
  · rfl
  · show some ((⟨#[]⟩ : ByteArray).toList == ([] : List UInt8)) = some true
    rw [nil_toList]
    rfl
  · show some ((⟨#[]⟩ : ByteArray).toList == ([] : List UInt8)) = some true
    rw [nil_toList]
    rfl
theorem rsize_l0 (x : ByteArray) (hx : goodT x) (hs : x.size ≤ 128) (n a b : Int) : ∀ (r j : Nat), x.size - j = r → Ev (fun k => r02_size.l0 k n (j : Int) a b x) n
  | r, j, hr => by
    by_cases hj : j < x.size
    · have ih := rsize_l0 x hx hs n a b (r - 1) (j + 1) (by omega)
      have hb := hx _ (bt_mem hj)
      refine Ev.succ (fun k => ?_) ih
      simp only [r02_size.l0]
      rw [if_pos (by omega), if_pos (by omega), if_neg (by omega), wr_one j (by omega)]
    · refine Ev.succ (fun k => ?_) (Ev.const n)
      simp only [r02_size.l0]
      rw [if_neg (by omega)]
  termination_by r => r
  decreasing_by omega
theorem rsize_f {p : S91} (hp : goodP p) (hs : p.f2.size ≤ 128) : Ev (fun k => r02_size.f k p.f0 p.f1 p.f2) ((partB p).length : Int) := by
  rcases hp with ⟨x, rfl, hx⟩ | ⟨n, rfl, hn⟩ | ⟨n, rfl, hn⟩
  · rw [flat_text hx]
    have hs : x.size ≤ 128 := hs
    have e : wrap64 (3 + (x.size : Int)) = ((x.size + 3 : Nat) : Int) := by rw [wr_in _ (by omega)]; omega
    refine Ev.congr (fun k => ?_) (rsize_l0 x hx hs ((x.size + 3 : Nat) : Int) 1 0 _ 0 rfl)
    show (if (1 : Int) = 1 then (r02_size.l0 k (wrap64 (3 + (x.size : Int))) 0 1 0 x) else (some 9)) = _
    rw [if_pos rfl, e]
    rfl
  · exact Ev.of (fun k => rfl)
  · exact Ev.of (fun k => rfl)
theorem rcheck_l1 (ps : List S91) (hn : ps.length ≤ 1000) (hg : ∀ p ∈ ps, goodP p) (hs : ∀ p ∈ ps, p.f2.size ≤ 128) : ∀ (r j n : Nat), ps.length - j = r → n + (flat (ps.drop j)).length ≤ 128 → Ev (fun k => r02_Check.l1 k ps (n : Int) (j : Int)) 0
  | r, j, n, hr, hl => by
    by_cases hj : j < ps.length
    · rw [drop_T91 ps j hj, flat_cons, List.length_append] at hl
      have ih := rcheck_l1 ps hn hg hs (r - 1) (j + 1) (n + (partB (rd_T91 ps (j : Int))).length) (by omega) (by omega)
      have hm := mem_T91 ps j hj
      refine Ev.succ (G := fun k => (r02_size.f k ((rd_T91 ps (j : Int)).f0) ((rd_T91 ps (j : Int)).f1) ((rd_T91 ps (j : Int)).f2)).bind fun t241 => (if (wrap64 ((n : Int) + t241)) > 128 then (some 5) else (r02_Check.l1 k ps (wrap64 ((n : Int) + t241)) (wrap64 ((j : Int) + 1))))) (fun k => ?_) ?_
      · simp only [r02_Check.l1]
        rw [if_pos (by omega), if_pos (by omega)]
      · refine Ev.bind (rsize_f (hg _ hm) (hs _ hm)) ?_
        have e : wrap64 ((n : Int) + ((partB (rd_T91 ps (j : Int))).length : Int)) = ((n + (partB (rd_T91 ps (j : Int))).length : Nat) : Int) := by rw [wr_in _ (by omega)]; omega
        refine Ev.congr (fun k => ?_) ih
        rw [e, if_neg (by omega), wr_one j (by omega)]
    · refine Ev.succ (fun k => ?_) (Ev.const 0)
      simp only [r02_Check.l1]
      rw [if_neg (by omega)]
  termination_by r => r
  decreasing_by omega
theorem rcheck_l0 (ps : List S91) (hn : ps.length ≤ 1000) (hg : ∀ p ∈ ps, goodP p) (hs : ∀ p ∈ ps, p.f2.size ≤ 128) (hl : (flat ps).length ≤ 128) : ∀ (r j : Nat), ps.length - j = r → Ev (fun k => r02_Check.l0 k ps (j : Int)) 0
  | r, j, hr => by
    by_cases hj : j < ps.length
    · have ih := rcheck_l0 ps hn hg hs hl (r - 1) (j + 1) (by omega)
      have hm := mem_T91 ps j hj
      refine Ev.succ (fun k => ?_) ih
      simp only [r02_Check.l0]
      rw [if_pos (by omega), if_pos (by omega), rright_f (hg _ hm), Option.bind_some, if_pos rfl, wr_one j (by omega)]
    · refine Ev.succ (fun k => ?_) (rcheck_l1 ps hn hg hs _ 0 0 rfl (by rw [List.drop_zero]; omega))
      simp only [r02_Check.l0]
      rw [if_neg (by omega)]
      rfl
  termination_by r => r
  decreasing_by omega
/-! ### Fields and parts -/
def pb8 (x s : Int) : Int := (shr .u64 (IntKind.u64.wrap x) s) % 256
def bytes8 : Nat → Int → List Int
  | 0, _ => []
  | n + 1, x => pb8 x (8 * (n : Int)) :: bytes8 n x
theorem rField_l0 (x : Int) : ∀ (n : Nat) (l : List Int), n ≤ 8 → l.length + n ≤ 1000000 → Ev (fun k => r01_Field.l0 k (IntKind.u64.wrap x) l ((n : Int) - 1)) (strOfNums (l ++ bytes8 n x))
  | 0, l, _, _ => by
    refine Ev.succ (G := fun _ => some (strOfNums l)) (fun k => ?_) (by rw [bytes8, List.append_nil]; exact Ev.const _)
    simp only [r01_Field.l0]
    rw [if_neg (by omega)]
  | n + 1, l, hn, hl => by
    have ih := rField_l0 x n (l ++ [pb8 x (8 * (n : Int))]) (by omega) (by simp; omega)
    rw [List.append_assoc] at ih
    have e1 : (((n + 1 : Nat) : Int) - 1) = (n : Int) := by omega
    have e2 : IntKind.u64.wrap (n : Int) = (n : Int) := by simp [IntKind.wrap, IntKind.bits, IntKind.signed]; omega
    have e3 : IntKind.u64.wrap (8 * (n : Int)) = 8 * (n : Int) := by simp [IntKind.wrap, IntKind.bits, IntKind.signed]; omega
    refine Ev.succ (fun k => ?_) ih
    simp only [r01_Field.l0]
    rw [e1, e2, e3, if_pos (by omega), if_pos (by omega), if_pos (by omega), wr_in _ (by omega)]
    rfl
theorem rField_f (x : Int) : Ev (fun k => r01_Field.f k x 8) (strOfNums (bytes8 8 x)) := by
  unfold r01_Field.f
  rw [wr_in _ (by omega)]
  exact rField_l0 x 8 [] (by omega) (by simp)
theorem pb8_nat (x s : Nat) (hx : x < 18446744073709551616) (hs : s ≤ 64) : pb8 (x : Int) (s : Int) = ((x / 2 ^ s % 256 : Nat) : Int) := by
  unfold pb8
  have e : IntKind.u64.wrap (x : Int) = (x : Int) := by
    simp [IntKind.wrap, IntKind.bits, IntKind.signed]
    omega
  rw [e]
  unfold shr
  rw [Int.toNat_natCast, show IntKind.u64.bits = 64 from rfl, Nat.min_eq_left hs]
  simp
theorem xor128 : ∀ b, b < 128 → Go.bits .xor .u8 ((b : Nat) : Int) 128 = ((b + 128 : Nat) : Int) := by decide +kernel
theorem turn_up {n : Nat} (h : n < 9223372036854775808) : (bytes8 8 (n : Int)).set 0 (Go.bits .xor .u8 ((bytes8 8 (n : Int)).getD 0 0) 128) = num8 (unum (n : Int)) 0 ∧ ((bytes8 8 (n : Int)).set 0 (Go.bits .xor .u8 ((bytes8 8 (n : Int)).getD 0 0) 128)).map (fun c => 255 - c) = num8 (unum (n : Int)) 255 := by
  have e : bytes8 8 (n : Int) = [pb8 (n : Int) ((56 : Nat) : Int), pb8 (n : Int) ((48 : Nat) : Int), pb8 (n : Int) ((40 : Nat) : Int), pb8 (n : Int) ((32 : Nat) : Int), pb8 (n : Int) ((24 : Nat) : Int), pb8 (n : Int) ((16 : Nat) : Int), pb8 (n : Int) ((8 : Nat) : Int), pb8 (n : Int) ((0 : Nat) : Int)] := rfl
  have eu : ∀ m : Int, num8 (unum (n : Int)) m = [nb (unum (n : Int)) m ((56 : Nat) : Int), nb (unum (n : Int)) m ((48 : Nat) : Int), nb (unum (n : Int)) m ((40 : Nat) : Int), nb (unum (n : Int)) m ((32 : Nat) : Int), nb (unum (n : Int)) m ((24 : Nat) : Int), nb (unum (n : Int)) m ((16 : Nat) : Int), nb (unum (n : Int)) m ((8 : Nat) : Int), nb (unum (n : Int)) m ((0 : Nat) : Int)] := fun m => rfl
  have q : ∀ s : Nat, s ≤ 64 → pb8 (n : Int) (s : Int) = ((n / 2 ^ s % 256 : Nat) : Int) := fun s hs => pb8_nat n s (by omega) hs
  have c7 : n / 2 ^ 56 % 256 < 128 := by omega
  have t7 : n / 2 ^ 56 % 256 + 128 = (n + 9223372036854775808) / 2 ^ 56 % 256 := by omega
  have t6 : n / 2 ^ 48 % 256 = (n + 9223372036854775808) / 2 ^ 48 % 256 := by omega
  have t5 : n / 2 ^ 40 % 256 = (n + 9223372036854775808) / 2 ^ 40 % 256 := by omega
  have t4 : n / 2 ^ 32 % 256 = (n + 9223372036854775808) / 2 ^ 32 % 256 := by omega
  have t3 : n / 2 ^ 24 % 256 = (n + 9223372036854775808) / 2 ^ 24 % 256 := by omega
  have t2 : n / 2 ^ 16 % 256 = (n + 9223372036854775808) / 2 ^ 16 % 256 := by omega
  have t1 : n / 2 ^ 8 % 256 = (n + 9223372036854775808) / 2 ^ 8 % 256 := by omega
  have t0 : n / 2 ^ 0 % 256 = (n + 9223372036854775808) / 2 ^ 0 % 256 := by omega
  rw [e, q 56 (by decide), q 48 (by decide), q 40 (by decide), q 32 (by decide), q 24 (by decide), q 16 (by decide), q 8 (by decide), q 0 (by decide)]
  have d : ∀ l : List Int, ∀ c : Int, (c :: l).getD 0 0 = c := fun _ _ => rfl
  rw [d, xor128 _ c7, t7, t6, t5, t4, t3, t2, t1, t0]
  rw [eu 0, eu 255, unum_eq n h]
  generalize hu : n + 9223372036854775808 = u
  rw [nb_up u 56 (by decide), nb_up u 48 (by decide), nb_up u 40 (by decide), nb_up u 32 (by decide), nb_up u 24 (by decide), nb_up u 16 (by decide), nb_up u 8 (by decide), nb_up u 0 (by decide)]
  rw [nb_down u 56 (by decide), nb_down u 48 (by decide), nb_down u 40 (by decide), nb_down u 32 (by decide), nb_down u 24 (by decide), nb_down u 16 (by decide), nb_down u 8 (by decide), nb_down u 0 (by decide)]
  refine ⟨rfl, ?_⟩
  have g : ∀ b : Nat, (255 : Int) - ((b % 256 : Nat) : Int) = ((255 - b % 256 : Nat) : Int) := fun b => by omega
  show [_, _, _, _, _, _, _, _] = [_, _, _, _, _, _, _, _]
  dsimp only
  rw [g, g, g, g, g, g, g, g]
theorem bytes8_byte : ∀ (n : Nat) (x : Int), byteL (bytes8 n x)
  | 0, _ => fun c hc => by simp [bytes8] at hc
  | n + 1, x => fun c hc => by
    rw [bytes8] at hc
    rcases List.mem_cons.1 hc with rfl | hc
    · unfold pb8
      omega
    · exact bytes8_byte n x c hc
theorem bytes8_length (n : Nat) (x : Int) : (bytes8 n x).length = n := by
  induction n with
  | zero => rfl
  | succ n ih => rw [bytes8, List.length_cons, ih]
theorem rturned_f (n : Int) (d : Bool) : r02_turned.f (strOfNums (bytes8 8 n)) d = some (strOfNums (turnL (bytes8 8 n) d)) := by
  unfold r02_turned.f
  rw [if_pos (by rw [strOfNums_size, bytes8_length]; omega), bytesOf_nums (bytes8_byte 8 n)]
theorem rpart_l0 (x : ByteArray) (hx : goodT x) (hs : x.size ≤ 128) (a b : Int) : ∀ (r j : Nat), x.size - j = r → j ≤ x.size → Ev (fun k => r02_part.l0 k (strOfNums (2 :: (bytesOf x).take j)) (j : Int) a b x) (strOfNums (2 :: (bytesOf x ++ [0, 1])))
  | r, j, hr, hj => by
    have hlen : (2 :: (bytesOf x).take j).length ≤ 1000 := by rw [List.length_cons, List.length_take, bytesOf_length]; omega
    by_cases hjl : j < x.size
    · have ih := rpart_l0 x hx hs a b (r - 1) (j + 1) (by omega) (by omega)
      have hb := hx _ (bt_mem hjl)
      have hl : j < (bytesOf x).length := by rw [bytesOf_length]; exact hjl
      have et : strOfNums (2 :: (bytesOf x).take j) ++ x.extract (j : Int).toNat ((j + 1 : Nat) : Int).toNat = strOfNums (2 :: (bytesOf x).take (j + 1)) := by
        rw [Int.toNat_natCast, Int.toNat_natCast, ext_one hjl, nums_app]
        congr 1
        rw [List.take_add_one, List.getElem?_eq_getElem hl, bt_get hl]
        rfl
      refine Ev.succ (fun k => ?_) ih
      simp only [r02_part.l0]
      rw [wr_one j (by omega), if_pos (by omega), if_pos (by omega), if_pos (by omega), if_pos (by omega), if_pos (by rw [strOfNums_size, Int.toNat_natCast, Int.toNat_natCast, ext_one hjl, strOfNums_size]; simp only [List.length_singleton]; omega), if_neg (by omega), et]
    · have ej : j = x.size := by omega
      have e : (bytesOf x).take j = bytesOf x := List.take_of_length_le (by rw [bytesOf_length]; omega)
      rw [e] at hlen ⊢
      refine Ev.succ (fun k => ?_) (Ev.const _)
      simp only [r02_part.l0]
      rw [if_neg (by omega), if_pos (by rw [strOfNums_size]; omega)]
      have : (⟨#[0, 1]⟩ : ByteArray) = strOfNums [0, 1] := rfl
      rw [this, nums_app]
      rfl
  termination_by r => r
  decreasing_by omega
theorem rpart_f {p : S91} (hp : goodP p) (hs : p.f2.size ≤ 128) : Ev (fun k => r02_part.f k p.f0 p.f1 p.f2) (strOfNums (partB p)) := by
  rcases hp with ⟨x, rfl, hx⟩ | ⟨n, rfl, hn⟩ | ⟨n, rfl, hn⟩
  · rw [partB_t hx]
    refine Ev.congr (fun k => ?_) (rpart_l0 x hx hs 1 0 _ 0 rfl (by omega))
    rfl
  · obtain ⟨m, rfl, hm⟩ := goodN_nat hn
    have ht := (turn_up hm).1
    rw [partB_up, ← ht]
    unfold r02_part.f
    refine Ev.congr (fun k => if_pos rfl) ?_
    refine Ev.bind (rField_f _) ?_
    refine Ev.bind (Ev.of (fun _ => rturned_f _ _)) ?_
    have e : (⟨#[3]⟩ : ByteArray) ++ strOfNums (turnL (bytes8 8 (m : Int)) false) = strOfNums (3 :: (bytes8 8 (m : Int)).set 0 (Go.bits .xor .u8 ((bytes8 8 (m : Int)).getD 0 0) 128)) := by
      rw [show (⟨#[3]⟩ : ByteArray) = strOfNums [3] from rfl, nums_app]
      rfl
    rw [← e]
    refine Ev.of (fun _ => if_pos ?_)
    rw [strOfNums_size]
    show 1 + ((bytes8 8 (m : Int)).set 0 _).length ≤ _
    rw [List.length_set, bytes8_length]
    omega
  · obtain ⟨m, rfl, hm⟩ := goodN_nat hn
    have ht := (turn_up hm).2
    rw [partB_down, ← ht]
    unfold r02_part.f
    refine Ev.congr (fun k => (if_neg (show ¬ ((3 : Int) = 2) by decide)).trans (if_pos rfl)) ?_
    refine Ev.bind (rField_f _) ?_
    refine Ev.bind (Ev.of (fun _ => rturned_f _ _)) ?_
    have e : (⟨#[4]⟩ : ByteArray) ++ strOfNums (turnL (bytes8 8 (m : Int)) true) = strOfNums (4 :: ((bytes8 8 (m : Int)).set 0 (Go.bits .xor .u8 ((bytes8 8 (m : Int)).getD 0 0) 128)).map (fun c => 255 - c)) := by
      rw [show (⟨#[4]⟩ : ByteArray) = strOfNums [4] from rfl, nums_app]
      rfl
    rw [← e]
    refine Ev.of (fun _ => if_pos ?_)
    rw [strOfNums_size]
    show 1 + (((bytes8 8 (m : Int)).set 0 _).map _).length ≤ _
    rw [List.length_map, List.length_set, bytes8_length]
    omega
theorem rencode_l0 (ps : List S91) (hn : ps.length ≤ 1000) (hg : ∀ p ∈ ps, goodP p) (hs : ∀ p ∈ ps, p.f2.size ≤ 128) : ∀ (r j : Nat) (b : List Int), ps.length - j = r → (b ++ flat (ps.drop j)).length ≤ 128 → Ev (fun k => r02_Encode.l0 k ps (strOfNums b) (j : Int)) (strOfNums (b ++ flat (ps.drop j)), 0)
  | r, j, b, hr, hl => by
    by_cases hj : j < ps.length
    · rw [drop_T91 ps j hj, flat_cons, ← List.append_assoc] at hl ⊢
      have ih := rencode_l0 ps hn hg hs (r - 1) (j + 1) (b ++ partB (rd_T91 ps (j : Int))) (by omega) hl
      have hm := mem_T91 ps j hj
      refine Ev.succ (G := fun k => (r02_part.f k ((rd_T91 ps (j : Int)).f0) ((rd_T91 ps (j : Int)).f1) ((rd_T91 ps (j : Int)).f2)).bind fun t252 => (if (strOfNums b).size + t252.size ≤ 9223372036854775807 then (r02_Encode.l0 k ps ((strOfNums b) ++ t252) (wrap64 ((j : Int) + 1))) else (none))) (fun k => ?_) ?_
      · simp only [r02_Encode.l0]
        rw [if_pos (by omega), if_pos (by omega)]
      · refine Ev.bind (rpart_f (hg _ hm) (hs _ hm)) ?_
        refine Ev.congr (fun k => ?_) ih
        rw [if_pos (by rw [strOfNums_size, strOfNums_size]; simp only [List.length_append] at hl; omega), nums_app, wr_one j (by omega)]
    · have hd : ps.drop j = [] := List.drop_eq_nil_of_le (by omega)
      rw [hd]
      refine Ev.succ (fun k => ?_) (Ev.const _)
      simp only [r02_Encode.l0]
      rw [if_neg (by omega), show flat [] = [] from rfl, List.append_nil]
  termination_by r => r
  decreasing_by omega
theorem rbytes_f (ps : List S91) (hn : ps.length ≤ 1000) (hg : ∀ p ∈ ps, goodP p) (hs : ∀ p ∈ ps, p.f2.size ≤ 128) (hl : (flat ps).length ≤ 128) : Ev (fun k => r21_bytes.f k ps) (strOfNums (flat ps)) := by
  unfold r21_bytes.f r02_Encode.f r02_Check.f
  refine Ev.bind (a := (strOfNums (flat ps), 0)) ?_ (Ev.const _)
  refine Ev.bind (rcheck_l0 ps hn hg hs hl _ 0 rfl) ?_
  refine Ev.congr (fun k => if_pos rfl) ?_
  exact rencode_l0 ps hn hg hs _ 0 [] rfl (by rw [List.nil_append, List.drop_zero]; exact hl)
theorem rkeybytes_f {a : Int} {b c : ByteArray} {l : List Int} (h0 : 1 ≤ a) (h1 : a ≤ 6) (hb : nameOr bOk b) (hc : nameOr oOk c) (hl : l.length ≤ 3) (hg : ∀ n ∈ l, goodN n) : Ev (fun k => (r21_parts.f k a b c l).bind fun t => r21_bytes.f k t) (strOfNums (keyBytes a b c l)) := by
  refine Ev.bind (rparts_f a b c l h0 h1 (by omega)) ?_
  have hlen := keyBytes_length (l := l) h0 h1 hb hc hl
  have hsb : b.size ≤ 128 := by rcases hb with h | h; · rw [nil_size h]; omega
                                · have := bOk_pos h; omega
  have hsc : c.size ≤ 128 := by rcases hc with h | h; · rw [nil_size h]; omega
                                · have := oOk_pos h; omega
  have htl : (textsP [b, c]).length ≤ 2 := by
    unfold textsP
    rw [List.length_map]
    exact List.length_filter_le _ _
  refine rbytes_f (keyParts a b c l) ?_ (keyParts_good h0 h1 hb hc hg) ?_ (by have : flat (keyParts a b c l) = keyBytes a b c l := rfl; rw [this]; omega)
  · unfold keyParts
    simp only [List.length_cons, List.length_append, List.length_map]
    omega
  · intro p hp
    unfold keyParts at hp
    rcases List.mem_append.1 hp with hp | hp
    · rcases List.mem_cons.1 hp with rfl | hp
      · obtain ⟨x, hx, _, _⟩ := letter_bytes h0 h1
        show (letterOf a).size ≤ 128
        have := congrArg List.length hx
        rw [bytesOf_length] at this
        rw [this]
        simp
      · obtain ⟨x, hx, hne, rfl⟩ := mem_textsP hp
        rcases List.mem_cons.1 hx with rfl | hx
        · exact hsb
        · obtain rfl : x = c := by simpa using hx
          exact hsc
    · obtain ⟨n, hn, rfl⟩ := List.mem_map.1 hp
      rw [numP_size]
      omega
end Go.Proofs.YtbdfmjgndeigpaaDoor.Pure
