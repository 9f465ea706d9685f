import Derived.Test.YtbhmffbpbicilaaPx12
import Derived.Lib.Strings
import Derived.Lib.Bytealg
namespace Go.Proofs.Ytbhmffbpbicilaa.Pure
open Go.RowKit Go.Proofs.Ytbhmffbpbicilaa.P Go.Proofs.YtbhmffbpbicilaaW.PrintWords Go.Proofs.YtbhmffbpbicilaaW.PrintLast
/-! ### From some number of rounds on -/
def Ev {α : Type} (F : Nat → Option α) (r : α) : Prop := ∃ K, ∀ k, K ≤ k → F k = some r
theorem Ev.succ {α : Type} {F G : Nat → Option α} {r : α} (h : ∀ k, F (k + 1) = G k) (e : Ev G r) : Ev F r := by
  obtain ⟨K, e⟩ := e
  refine ⟨K + 1, fun k hk => ?_⟩
  obtain ⟨k, rfl⟩ : ∃ m, k = m + 1 := ⟨k - 1, by omega⟩
  rw [h]
  exact e k (by omega)
theorem Ev.congr {α : Type} {F G : Nat → Option α} {r : α} (h : ∀ k, F k = G k) (e : Ev G r) : Ev F r := by
  obtain ⟨K, e⟩ := e
  exact ⟨K, fun k hk => (h k).trans (e k hk)⟩
theorem Ev.const {α : Type} (r : α) : Ev (fun _ => some r) r := ⟨0, fun _ _ => rfl⟩
theorem Ev.bind {α β : Type} {F : Nat → Option α} {G : Nat → α → Option β} {a : α} {b : β} (h : Ev F a) (g : Ev (fun k => G k a) b) : Ev (fun k => (F k).bind (G k)) b := by
  obtain ⟨K, h⟩ := h
  obtain ⟨L, g⟩ := g
  refine ⟨max K L, fun k hk => ?_⟩
  show (F k).bind (G k) = _
  rw [h k (by omega)]
  exact g k (by omega)
theorem wr_in (n : Int) (h : -9223372036854775808 ≤ n ∧ n ≤ 9223372036854775807) : wrap64 n = n := by unfold wrap64; omega
theorem wr_up (i : Nat) (h : i < 9223372036854775807) : wrap64 ((i : Int) + 1) = ((i + 1 : Nat) : Int) := by rw [wr_in _ (by omega)]; omega
/-! ### Texts as lists of bytes -/
theorem tl_length (x : ByteArray) : x.toList.length = x.size := by rw [Lib.toList_data]; exact data_length x
theorem tl_inj {x y : ByteArray} (h : x.toList = y.toList) : x = y := by
  rw [Lib.toList_data, Lib.toList_data] at h
  obtain ⟨⟨l⟩⟩ := x
  obtain ⟨⟨m⟩⟩ := y
  have : l = m := h
  rw [this]
theorem drop_bt (x : ByteArray) (i : Nat) (h : i < x.size) : ∃ b : UInt8, x.toList.drop i = b :: x.toList.drop (i + 1) ∧ bt x (i : Int) = (b.toNat : Int) := by
  have hl : i < x.toList.length := by rw [tl_length]; exact h
  refine ⟨x.toList[i], List.drop_eq_getElem_cons hl, ?_⟩
  have e : x.toList[i] = x[i]'h := by
    simp only [Lib.toList_data]
    rfl
  rw [e]
  simp [bt, h]
theorem bl_cases : ∀ x y : List UInt8, (Op.bytesLess x y = true ∧ Op.bytesLess y x = false ∧ x ≠ y) ∨ (Op.bytesLess x y = false ∧ Op.bytesLess y x = true ∧ x ≠ y) ∨ (Op.bytesLess x y = false ∧ Op.bytesLess y x = false ∧ x = y)
  | [], [] => .inr (.inr ⟨rfl, rfl, rfl⟩)
  | [], _ :: _ => .inl ⟨rfl, rfl, by simp⟩
  | _ :: _, [] => .inr (.inl ⟨rfl, rfl, by simp⟩)
  | a :: x, b :: y => by
    have ih := bl_cases x y
    unfold Op.bytesLess
    by_cases h1 : a < b
    · have h2 : ¬ b < a := by rw [UInt8.lt_iff_toNat_lt] at h1 ⊢; omega
      have h3 : a ≠ b := by rintro rfl; rw [UInt8.lt_iff_toNat_lt] at h1; omega
      exact .inl ⟨by simp [h1], by simp [h2, Ne.symm h3], by simp [h3]⟩
    · by_cases h2 : b < a
      · have h3 : a ≠ b := by rintro rfl; rw [UInt8.lt_iff_toNat_lt] at h2; omega
        exact .inr (.inl ⟨by simp [h1, h3], by simp [h2], by simp [h3]⟩)
      · obtain rfl : a = b := by
          rw [UInt8.lt_iff_toNat_lt] at h1 h2
          exact UInt8.toNat_inj.1 (by omega)
        rcases ih with ⟨e1, e2, e3⟩ | ⟨e1, e2, e3⟩ | ⟨e1, e2, e3⟩
        · exact .inl ⟨by simp [e1], by simp [h1, e2], by simp [e3]⟩
        · exact .inr (.inl ⟨by simp [h1, e1], by simp [e2], by simp [e3]⟩)
        · exact .inr (.inr ⟨by simp [h1, e1], by simp [h1, e2], by simp [e3]⟩)
theorem bl_not (x y : List UInt8) : (Op.bytesLess x y || x == y) = !Op.bytesLess y x := by
  rcases bl_cases x y with ⟨e1, e2, e3⟩ | ⟨e1, e2, e3⟩ | ⟨e1, e2, e3⟩
  · rw [e1, e2]; rfl
  · rw [e1, e2]; simp [e3]
  · rw [e1, e2, e3]; simp
/-! ### ref02.Below -/
theorem below_l0 (x y : ByteArray) (hx : x.size ≤ 9223372036854775807) : ∀ n i, x.size - i = n → i ≤ x.size → i ≤ y.size → Ev (fun k => r02_Below.l0 k x y (i : Int)) (Op.bytesLess (x.toList.drop i) (y.toList.drop i))
  | n, i, hn, h1, h2 => by
    by_cases hb : i < x.size ∧ i < y.size
    · obtain ⟨b, eb, vb⟩ := drop_bt x i hb.1
      obtain ⟨c, ec, vc⟩ := drop_bt y i hb.2
      refine Ev.succ (G := fun k => r02_Below.j1 k x y (i : Int) true) (fun k => ?_) ?_
      · simp only [r02_Below.l0]
        rw [if_pos (by omega), decide_eq_true (by omega)]
      · refine Ev.succ (G := fun k => if b = c then r02_Below.l0 k x y ((i + 1 : Nat) : Int) else some (decide (b < c))) (fun k => ?_) ?_
        · simp only [r02_Below.j1]
          rw [if_pos trivial, if_pos (by omega), if_pos (by omega), if_pos (by omega), wr_up i (by omega), vb, vc]
          by_cases e : b = c
          · rw [if_pos (by rw [e]), if_pos e]
          · rw [if_neg (by intro h; exact e (UInt8.toNat_inj.1 (by omega))), if_neg e]
            have : decide ((b.toNat : Int) < (c.toNat : Int)) = decide (b < c) := by
              rw [Bool.eq_iff_iff, decide_eq_true_eq, decide_eq_true_eq, UInt8.lt_iff_toNat_lt]
              omega
            rw [this]
        · rw [eb, ec]
          by_cases e : b = c
          · subst e
            have ih := below_l0 x y hx (n - 1) (i + 1) (by omega) (by omega) (by omega)
            have : Op.bytesLess (b :: x.toList.drop (i + 1)) (b :: y.toList.drop (i + 1)) = Op.bytesLess (x.toList.drop (i + 1)) (y.toList.drop (i + 1)) := by
              have hb : ¬ b < b := by rw [UInt8.lt_iff_toNat_lt]; omega
              show (decide (b < b) || (b == b && _)) = _
              rw [decide_eq_false hb]
              simp
            rw [this]
            exact Ev.congr (fun k => if_pos rfl) ih
          · have : Op.bytesLess (b :: x.toList.drop (i + 1)) (c :: y.toList.drop (i + 1)) = decide (b < c) := by
              show (decide (b < c) || (b == c && _)) = _
              have hf : (b == c) = false := by simp [e]
              rw [hf]
              simp
            rw [this]
            exact Ev.congr (fun k => if_neg e) (Ev.const _)
    · have hv : Op.bytesLess (x.toList.drop i) (y.toList.drop i) = decide ((x.size : Int) < (y.size : Int)) := by
        by_cases e : i = x.size
        · have : x.toList.drop i = [] := List.drop_eq_nil_of_le (by rw [tl_length]; omega)
          rw [this]
          cases hd : y.toList.drop i with
          | nil =>
            have := congrArg List.length hd
            rw [List.length_drop, tl_length] at this
            rw [decide_eq_false (by simp at this; omega)]
            rfl
          | cons c l =>
            have := congrArg List.length hd
            rw [List.length_drop, tl_length] at this
            rw [decide_eq_true (by simp at this; omega)]
            rfl
        · have : y.toList.drop i = [] := List.drop_eq_nil_of_le (by rw [tl_length]; omega)
          rw [this, decide_eq_false (by omega)]
          cases x.toList.drop i <;> rfl
      rw [hv]
      refine Ev.succ (G := fun k => r02_Below.j1 k x y (i : Int) false) (fun k => ?_) (Ev.succ (G := fun _ => some (decide ((x.size : Int) < (y.size : Int)))) (fun k => rfl) (Ev.const _))
      simp only [r02_Below.l0]
      by_cases e : (i : Int) < (x.size : Int)
      · rw [if_pos e, decide_eq_false (by omega)]
      · rw [if_neg e]
  termination_by n => n
  decreasing_by omega
theorem below_f (x y : ByteArray) (hx : x.size ≤ 9223372036854775807) : Ev (fun k => r02_Below.f k x y) (Op.bytesLess x.toList y.toList) := below_l0 x y hx _ 0 rfl (by omega) (by omega)
/-! ### an entry -/
def entOf (x d : ByteArray) (i : Nat) : ByteArray × Bool :=
  if d.toList = [] then (x, false) else
    if 0 ≤ Lib.indexByte (x.toList.drop i) (bt d 0).toNat.toUInt8 then (x.extract 0 ((i : Int) + Lib.indexByte (x.toList.drop i) (bt d 0).toNat.toUInt8 + 1).toNat, true) else (x, false)
theorem delim_one {d : ByteArray} (h : d.size = 1) : d.toList = [(bt d 0).toNat.toUInt8] := by
  obtain ⟨b, e, v⟩ := drop_bt d 0 (by omega)
  have hl : d.toList.drop 1 = [] := List.drop_eq_nil_of_le (by rw [tl_length]; omega)
  rw [List.drop_zero] at e
  have e2 : d.toList = [b] := by rw [e]; congr 1
  have v2 : bt d 0 = (b.toNat : Int) := v
  rw [e2, v2]
  simp
theorem one_at (x : ByteArray) (i : Nat) (h : i < x.size) : ∃ b : UInt8, (x.extract i (i + 1)).toList = [b] ∧ x.toList.drop i = b :: x.toList.drop (i + 1) := by
  obtain ⟨b, e, _⟩ := drop_bt x i h
  refine ⟨b, ?_, e⟩
  rw [Lib.extract_toList, ← Lib.toList_data, e, show i + 1 - i = 1 by omega]
  rfl
theorem indexByte_up (b c : UInt8) (l : List UInt8) : Lib.indexByte (b :: l) c = if b = c then 0 else if Lib.indexByte l c = -1 then -1 else Lib.indexByte l c + 1 := by
  show (if (b == c) = true then (0 : Int) else if (Lib.indexByte l c == -1) = true then -1 else Lib.indexByte l c + 1) = _
  simp only [beq_iff_eq]
theorem indexByte_lt (c : UInt8) : ∀ l : List UInt8, Lib.indexByte l c < (l.length : Int)
  | [] => by show (-1 : Int) < 0; omega
  | b :: l => by
    have ih := indexByte_lt c l
    rw [indexByte_up, List.length_cons]
    split
    · omega
    · split <;> omega
theorem entry_l0 (x d : ByteArray) (hx : x.size ≤ 9223372036854775807) (hd : d.size ≤ 1) : ∀ n i, x.size - i = n → i ≤ x.size → Ev (fun k => r20_entry.l0 k x d (i : Int)) (entOf x d i)
  | n, i, hn, h1 => by
    by_cases hd0 : d.size = 0
    · have e0 : d.toList = [] := List.eq_nil_of_length_eq_zero (by rw [tl_length]; exact hd0)
      have hv : entOf x d i = (x, false) := by unfold entOf; rw [if_pos e0]
      rw [hv]
      refine Ev.succ (G := fun k => r20_entry.j1 k x d (i : Int) false) (fun k => ?_) (Ev.succ (G := fun _ => some (x, false)) (fun k => rfl) (Ev.const _))
      simp only [r20_entry.l0]
      rw [e0]
      split <;> rfl
    · have hd1 := delim_one (d := d) (by omega)
      have hne : d.toList ≠ [] := by rw [hd1]; simp
      by_cases hi : i < x.size
      · obtain ⟨b, eb, ed⟩ := one_at x i hi
        refine Ev.succ (G := fun k => r20_entry.j1 k x d (i : Int) true) (fun k => ?_) ?_
        · simp only [r20_entry.l0]
          rw [if_pos (by omega), hd1]
          rfl
        · refine Ev.succ (G := fun k => if b = (bt d 0).toNat.toUInt8 then some (x.extract 0 (i + 1), true) else r20_entry.l0 k x d ((i + 1 : Nat) : Int)) (fun k => ?_) ?_
          · simp only [r20_entry.j1]
            rw [if_pos trivial, if_pos (by omega), wr_up i (by omega), if_pos (by omega), if_pos (by omega), if_pos (by omega : (0 : Int) ≤ ((i + 1 : Nat) : Int)), Int.toNat_natCast, Int.toNat_natCast, eb, hd1]
            by_cases e : b = (bt d 0).toNat.toUInt8
            · rw [if_pos (by rw [e]), if_pos e]
            · rw [if_neg (by intro h; exact e (by simpa using h)), if_neg e]
          · by_cases e : b = (bt d 0).toNat.toUInt8
            · have hv : entOf x d i = (x.extract 0 (i + 1), true) := by
                unfold entOf
                rw [if_neg hne, ed, indexByte_up, if_pos e, if_pos (by omega)]
                congr 2
              rw [hv]
              exact Ev.congr (fun k => if_pos e) (Ev.const _)
            · have ih := entry_l0 x d hx hd (n - 1) (i + 1) (by omega) (by omega)
              have hv : entOf x d i = entOf x d (i + 1) := by
                unfold entOf
                rw [if_neg hne, if_neg hne, ed, indexByte_up, if_neg e]
                have hge := Lib.indexByte_ge (x.toList.drop (i + 1)) (bt d 0).toNat.toUInt8
                by_cases e1 : Lib.indexByte (x.toList.drop (i + 1)) (bt d 0).toNat.toUInt8 = -1
                · rw [if_pos e1, e1]; rfl
                · rw [if_neg e1, if_pos (by omega), if_pos (by omega)]
                  congr 3
                  omega
              rw [hv]
              exact Ev.congr (fun k => if_neg e) ih
      · have hnil : x.toList.drop i = [] := List.drop_eq_nil_of_le (by rw [tl_length]; omega)
        have hv : entOf x d i = (x, false) := by
          unfold entOf
          rw [if_neg hne, hnil]
          rfl
        rw [hv]
        refine Ev.succ (G := fun k => r20_entry.j1 k x d (i : Int) false) (fun k => ?_) (Ev.succ (G := fun _ => some (x, false)) (fun k => rfl) (Ev.const _))
        simp only [r20_entry.l0]
        rw [if_neg (by omega)]
  termination_by n => n
  decreasing_by omega
theorem entry_f (x p d : ByteArray) (hx : x.size ≤ 9223372036854775807) (hd : d.size ≤ 1) (hp : p.size ≤ x.size) : Ev (fun k => r20_entry.f k x p d) (entOf x d p.size) := entry_l0 x d hx hd _ p.size rfl hp
theorem of_f (x p d : ByteArray) (hx : x.size ≤ 9223372036854775807) (hd : d.size ≤ 1) (hp : p.size ≤ x.size) : listing_of.f x p d = some (entOf x d p.size) := by
  unfold listing_of.f entOf
  by_cases e0 : d.toList = []
  · rw [if_pos e0, if_pos e0]
  · rw [if_neg e0, if_neg e0, if_pos (by omega), if_pos (by omega)]
    have hd1 : d.size = 1 := by
      have : d.toList.length ≠ 0 := by intro h; exact e0 (List.eq_nil_of_length_eq_zero h)
      rw [tl_length] at this
      omega
    have hi : strings_Index.f (x.extract ((p.size : Int)).toNat x.size) d = some (Lib.indexByte (x.toList.drop p.size) (bt d 0).toNat.toUInt8) := by
      unfold strings_Index.f stringslite_Index.f
      rw [if_pos hd1, Int.toNat_natCast]
      have : (x.extract p.size x.size).data.toList = x.toList.drop p.size := by
        rw [Lib.extract_data, Lib.toList_data]
        refine List.take_of_length_le ?_
        rw [List.length_drop, data_length]
        omega
      rw [this]
      rfl
    rw [hi]
    show (if Lib.indexByte (x.toList.drop p.size) (bt d 0).toNat.toUInt8 ≥ 0 then _ else _) = _
    have hlt := indexByte_lt (bt d 0).toNat.toUInt8 (x.toList.drop p.size)
    rw [List.length_drop, tl_length] at hlt
    generalize Lib.indexByte (x.toList.drop p.size) (bt d 0).toNat.toUInt8 = j at hlt ⊢
    by_cases hj : 0 ≤ j
    · rw [if_pos hj, if_pos hj, wr_in ((p.size : Int) + j) (by omega), wr_in _ (by omega), if_pos (by omega), if_pos (by omega)]
    · rw [if_neg hj, if_neg hj]
end Go.Proofs.Ytbhmffbpbicilaa.Pure
