import Derived.Test.YtbdfmjgndeigpaaDoorPureKeyRes
namespace Go.Proofs.YtbdfmjgndeigpaaDoor.Pure
open Go.RowKit Go.Proofs.YtbdfmjgndeigpaaDoor.P Go.Proofs.YtbdfmjgndeigpaaDoorW.PrintWords Go.Proofs.YtbdfmjgndeigpaaDoorW.PrintLast Go.Proofs.YtbdfmjgndeigpaaDoorW.PrintMore
/-! ### The order of bytes -/
def ltI : List Int → List Int → Bool
  | [], [] => false
  | [], _ :: _ => true
  | _ :: _, [] => false
  | a :: x, b :: y => decide (a < b) || (decide (a = b) && ltI x y)
def byteL (l : List Int) : Prop := ∀ c ∈ l, 0 ≤ c ∧ c < 256
theorem byteL_app {x y : List Int} : byteL (x ++ y) ↔ byteL x ∧ byteL y := by
  unfold byteL
  constructor
  · intro h
    exact ⟨fun c hc => h c (by simp [hc]), fun c hc => h c (by simp [hc])⟩
  · rintro ⟨h, g⟩ c hc
    rcases List.mem_append.1 hc with hc | hc
    · exact h c hc
    · exact g c hc
theorem less_map : ∀ x y : List Int, byteL x → byteL y → Op.bytesLess (x.map fun n => UInt8.ofNat n.toNat) (y.map fun n => UInt8.ofNat n.toNat) = ltI x y
  | [], [], _, _ => rfl
  | [], _ :: _, _, _ => rfl
  | _ :: _, [], _, _ => rfl
  | a :: x, b :: y, hx, hy => by
    have ha := hx a (by simp)
    have hb := hy b (by simp)
    have ih := less_map x y (fun c hc => hx c (by simp [hc])) (fun c hc => hy c (by simp [hc]))
    show (decide (UInt8.ofNat a.toNat < UInt8.ofNat b.toNat) || (UInt8.ofNat a.toNat == UInt8.ofNat b.toNat && Op.bytesLess _ _)) = (decide (a < b) || (decide (a = b) && ltI x y))
    rw [ih]
    have na : (UInt8.ofNat a.toNat).toNat = a.toNat := by simp; omega
    have nb : (UInt8.ofNat b.toNat).toNat = b.toNat := by simp; omega
    have e1 : decide (UInt8.ofNat a.toNat < UInt8.ofNat b.toNat) = decide (a < b) := by
      rw [Bool.eq_iff_iff, decide_eq_true_eq, decide_eq_true_eq, UInt8.lt_iff_toNat_lt, na, nb]
      omega
    have e2 : (UInt8.ofNat a.toNat == UInt8.ofNat b.toNat) = decide (a = b) := by
      rw [Bool.eq_iff_iff, beq_iff_eq, decide_eq_true_eq]
      constructor
      · intro h
        have := congrArg UInt8.toNat h
        rw [na, nb] at this
        omega
      · intro h
        rw [h]
    rw [e1, e2]
theorem less_nums (x y : List Int) (hx : byteL x) (hy : byteL y) : Op.bytesLess (strOfNums x).toList (strOfNums y).toList = ltI x y := by
  rw [Lib.toList_data, Lib.toList_data, strOfNums_data, strOfNums_data]
  exact less_map x y hx hy
theorem nums_inj {x y : List Int} (hx : byteL x) (hy : byteL y) (h : (strOfNums x).toList = (strOfNums y).toList) : x = y := by
  rw [Lib.toList_data, Lib.toList_data, strOfNums_data, strOfNums_data] at h
  induction x generalizing y with
  | nil => cases y with
    | nil => rfl
    | cons b y => simp at h
  | cons a x ih => cases y with
    | nil => simp at h
    | cons b y =>
      have ha := hx a (by simp)
      have hb := hy b (by simp)
      simp only [List.map_cons, List.cons.injEq] at h
      obtain ⟨h1, h2⟩ := h
      rw [ih (fun c hc => hx c (by simp [hc])) (fun c hc => hy c (by simp [hc])) h2]
      have := congrArg UInt8.toNat h1
      simp at this
      congr 1
      omega
theorem ltI_irrefl : ∀ x, ltI x x = false
  | [] => rfl
  | a :: x => by
    show (decide (a < a) || (decide (a = a) && ltI x x)) = false
    rw [ltI_irrefl x, decide_eq_false (by omega)]
    simp
theorem ltI_app (p x y : List Int) : ltI (p ++ x) (p ++ y) = ltI x y := by
  induction p with
  | nil => rfl
  | cons a p ih =>
    show (decide (a < a) || (decide (a = a) && ltI (p ++ x) (p ++ y))) = _
    rw [ih, decide_eq_false (by omega)]
    simp
/-- Between a text and what stands behind all that it begins. -/
theorem between : ∀ x y : List Int, (ltI y x = false ∧ ltI y (x ++ [255]) = true) ↔ ∃ r, y = x ++ r ∧ ∀ c s, r = c :: s → c < 255
  | [], [] => by
    constructor
    · intro _
      exact ⟨[], rfl, fun c s h => by cases h⟩
    · intro _
      exact ⟨rfl, rfl⟩
  | [], b :: y => by
    constructor
    · rintro ⟨_, h⟩
      refine ⟨b :: y, rfl, fun c s e => ?_⟩
      cases e
      simp only [List.nil_append, ltI, Bool.or_eq_true, decide_eq_true_eq, Bool.and_eq_true] at h
      rcases h with h | ⟨_, h⟩
      · exact h
      · cases y <;> cases h
    · rintro ⟨r, e, h⟩
      have := h b y (by rw [← List.nil_append r, ← e])
      refine ⟨rfl, ?_⟩
      show (decide (b < 255) || _) = true
      rw [decide_eq_true this]
      rfl
  | a :: x, [] => by
    constructor
    · rintro ⟨h, _⟩
      cases h
    · rintro ⟨r, e, _⟩
      cases e
  | a :: x, b :: y => by
    have ih := between x y
    simp only [List.cons_append, ltI, Bool.or_eq_true, Bool.or_eq_false_iff, decide_eq_true_eq, decide_eq_false_iff_not, Bool.and_eq_true, Bool.and_eq_false_imp, List.cons.injEq]
    constructor
    · rintro ⟨⟨h1, h2⟩, h3⟩
      have e : b = a := by
        rcases h3 with h3 | h3
        · omega
        · exact h3.1
      subst e
      have h4 : ltI y (x ++ [255]) = true := by
        rcases h3 with h3 | h3
        · omega
        · exact h3.2
      obtain ⟨r, e, h⟩ := ih.1 ⟨h2 rfl, h4⟩
      exact ⟨r, ⟨rfl, e⟩, h⟩
    · rintro ⟨r, ⟨rfl, e⟩, h⟩
      obtain ⟨h1, h2⟩ := ih.2 ⟨r, e, h⟩
      exact ⟨⟨by omega, fun _ => h1⟩, .inr ⟨rfl, h2⟩⟩
/-! ### Numbers, big end first -/
def be : Nat → Nat → List Int
  | 0, _ => []
  | k + 1, u => ((u / 256 ^ k % 256 : Nat) : Int) :: be k u
theorem be_lt (u v : Nat) : ∀ k, ltI (be k u) (be k v) = decide (u % 256 ^ k < v % 256 ^ k)
  | 0 => by rw [Nat.pow_zero, Nat.mod_one, Nat.mod_one]; rfl
  | k + 1 => by
    show (decide (((u / 256 ^ k % 256 : Nat) : Int) < ((v / 256 ^ k % 256 : Nat) : Int)) || (decide (((u / 256 ^ k % 256 : Nat) : Int) = ((v / 256 ^ k % 256 : Nat) : Int)) && ltI (be k u) (be k v))) = _
    rw [be_lt u v k, Nat.mod_pow_succ, Nat.mod_pow_succ]
    have hu := Nat.mod_lt u (show 0 < 256 ^ k from Nat.pow_pos (by decide))
    have hv := Nat.mod_lt v (show 0 < 256 ^ k from Nat.pow_pos (by decide))
    generalize 256 ^ k = P at hu hv ⊢
    generalize u / P % 256 = d
    generalize v / P % 256 = e
    rw [Bool.eq_iff_iff]
    simp only [Bool.or_eq_true, Bool.and_eq_true, decide_eq_true_eq]
    by_cases h1 : d < e
    · have := Nat.mul_le_mul_left P (show d + 1 ≤ e from h1)
      rw [Nat.mul_add] at this
      exact ⟨fun _ => by omega, fun _ => .inl (by omega)⟩
    · by_cases h2 : d = e
      · subst h2
        exact ⟨fun h => by omega, fun h => .inr ⟨rfl, by omega⟩⟩
      · have := Nat.mul_le_mul_left P (show e + 1 ≤ d by omega)
        rw [Nat.mul_add] at this
        exact ⟨fun h => by omega, fun h => by omega⟩
theorem be_byte (u : Nat) : ∀ k, byteL (be k u)
  | 0 => fun c h => by cases h
  | k + 1 => fun c h => by
    rcases List.mem_cons.1 h with rfl | h
    · have := Nat.mod_lt (u / 256 ^ k) (show 256 > 0 by decide)
      omega
    · exact be_byte u k c h
theorem be_length (u : Nat) : ∀ k, (be k u).length = k
  | 0 => rfl
  | k + 1 => by rw [be, List.length_cons, be_length u k]
theorem be_inj {u v : Nat} {k : Nat} (hu : u < 256 ^ k) (hv : v < 256 ^ k) (h : be k u = be k v) : u = v := by
  have h1 := be_lt u v k
  have h2 := be_lt v u k
  rw [h, ltI_irrefl, Nat.mod_eq_of_lt hu, Nat.mod_eq_of_lt hv] at h1
  rw [h, ltI_irrefl, Nat.mod_eq_of_lt hu, Nat.mod_eq_of_lt hv] at h2
  have h3 := of_decide_eq_false h1.symm
  have h4 := of_decide_eq_false h2.symm
  omega
def turned (l : List Int) : List Int := l.map (fun c => 255 - c)
theorem turned_lt : ∀ x y : List Int, x.length = y.length → ltI (turned x) (turned y) = ltI y x
  | [], [], _ => rfl
  | [], _ :: _, h => by cases h
  | _ :: _, [], h => by cases h
  | a :: x, b :: y, h => by
    have ih := turned_lt x y (by simpa using h)
    show (decide (255 - a < 255 - b) || (decide (255 - a = 255 - b) && ltI (turned x) (turned y))) = (decide (b < a) || (decide (b = a) && ltI y x))
    rw [ih]
    congr 1
    · rw [decide_eq_decide]; omega
    · congr 1
      rw [decide_eq_decide]; omega
theorem num8_up (n : Nat) (h : n < 9223372036854775808) : num8 (unum (n : Int)) 0 = be 8 (n + 9223372036854775808) := by
  rw [unum_eq n h]
  generalize n + 9223372036854775808 = u
  unfold num8
  have e := fun s hs => nb_up u s hs
  have f : ∀ s : Nat, s ≤ 64 → nb (u : Int) 0 (s : Int) = ((u / 2 ^ s % 256 : Nat) : Int) := e
  rw [show (56 : Int) = ((56 : Nat) : Int) from rfl, show (48 : Int) = ((48 : Nat) : Int) from rfl, show (40 : Int) = ((40 : Nat) : Int) from rfl, show (32 : Int) = ((32 : Nat) : Int) from rfl, show (24 : Int) = ((24 : Nat) : Int) from rfl, show (16 : Int) = ((16 : Nat) : Int) from rfl, show (8 : Int) = ((8 : Nat) : Int) from rfl]
  rw [f 56 (by omega), f 48 (by omega), f 40 (by omega), f 32 (by omega), f 24 (by omega), f 16 (by omega), f 8 (by omega), show nb (u : Int) 0 0 = _ from f 0 (by omega)]
  rfl
theorem num8_down (n : Nat) (h : n < 9223372036854775808) : num8 (unum (n : Int)) 255 = turned (be 8 (n + 9223372036854775808)) := by
  rw [unum_eq n h]
  generalize n + 9223372036854775808 = u
  unfold num8
  have f : ∀ s : Nat, s ≤ 64 → nb (u : Int) 255 (s : Int) = 255 - ((u / 2 ^ s % 256 : Nat) : Int) := by
    intro s hs
    rw [nb_down u s hs]
    have := Nat.mod_lt (u / 2 ^ s) (show 256 > 0 by decide)
    omega
  rw [show (56 : Int) = ((56 : Nat) : Int) from rfl, show (48 : Int) = ((48 : Nat) : Int) from rfl, show (40 : Int) = ((40 : Nat) : Int) from rfl, show (32 : Int) = ((32 : Nat) : Int) from rfl, show (24 : Int) = ((24 : Nat) : Int) from rfl, show (16 : Int) = ((16 : Nat) : Int) from rfl, show (8 : Int) = ((8 : Nat) : Int) from rfl]
  rw [f 56 (by omega), f 48 (by omega), f 40 (by omega), f 32 (by omega), f 24 (by omega), f 16 (by omega), f 8 (by omega), show nb (u : Int) 255 0 = _ from f 0 (by omega)]
  rfl
def goodN (n : Int) : Prop := 0 ≤ n ∧ n < 9223372036854775808
theorem goodN_nat {n : Int} (h : goodN n) : ∃ m : Nat, n = m ∧ m < 9223372036854775808 := ⟨n.toNat, by unfold goodN at h; omega, by unfold goodN at h; omega⟩
theorem pow8 : 256 ^ 8 = 18446744073709551616 := by decide
theorem num8_lt {n m : Int} (hn : goodN n) (hm : goodN m) : ltI (num8 (unum n) 0) (num8 (unum m) 0) = decide (n < m) ∧ ltI (num8 (unum n) 255) (num8 (unum m) 255) = decide (n > m) := by
  obtain ⟨n, rfl, h1⟩ := goodN_nat hn
  obtain ⟨m, rfl, h2⟩ := goodN_nat hm
  rw [num8_up n h1, num8_up m h2, num8_down n h1, num8_down m h2, turned_lt _ _ (by rw [be_length, be_length]), be_lt, be_lt, pow8, Nat.mod_eq_of_lt (by omega), Nat.mod_eq_of_lt (by omega)]
  exact ⟨decide_eq_decide.2 (by omega), decide_eq_decide.2 (by omega)⟩
theorem num8_byte {n : Int} (hn : goodN n) : byteL (num8 (unum n) 0) ∧ byteL (num8 (unum n) 255) := by
  obtain ⟨n, rfl, h1⟩ := goodN_nat hn
  rw [num8_up n h1, num8_down n h1]
  refine ⟨be_byte _ _, fun c hc => ?_⟩
  obtain ⟨d, hd, rfl⟩ := List.mem_map.1 hc
  have := be_byte _ _ d hd
  omega
theorem turned_inj {x y : List Int} (h : turned x = turned y) : x = y := by
  have := congrArg turned h
  unfold turned at this
  rw [List.map_map, List.map_map] at this
  have e : ((fun c : Int => 255 - c) ∘ fun c => 255 - c) = id := by funext c; show 255 - (255 - c) = c; omega
  rw [e, List.map_id, List.map_id] at this
  exact this
theorem num8_inj {n m : Int} (hn : goodN n) (hm : goodN m) (h : num8 (unum n) 0 = num8 (unum m) 0 ∨ num8 (unum n) 255 = num8 (unum m) 255) : n = m := by
  obtain ⟨n, rfl, h1⟩ := goodN_nat hn
  obtain ⟨m, rfl, h2⟩ := goodN_nat hm
  rw [num8_up n h1, num8_up m h2, num8_down n h1, num8_down m h2] at h
  have h3 : be 8 (n + 9223372036854775808) = be 8 (m + 9223372036854775808) := h.elim id turned_inj
  have := be_inj (by rw [pow8]; omega) (by rw [pow8]; omega) h3
  omega
end Go.Proofs.YtbdfmjgndeigpaaDoor.Pure
