import Derived.Test.YtbaaklcoafgcdaaGreatEvO
set_option linter.unusedVariables false
set_option linter.unusedSimpArgs false
namespace Go.Ev
/-! ### Numbers -/
theorem eqK_iff {a b : IntKind} : eqK a b = true ↔ a = b := by cases a <;> cases b <;> decide
theorem notB_eq (b : Bool) : notB b = !b := by cases b <;> rfl
theorem eqB_eq (a b : Bool) : eqB a b = (a == b) := by cases a <;> cases b <;> rfl
theorem ble_eq (a b : Nat) : Nat.ble a b = decide (a ≤ b) := by
  by_cases h : a ≤ b
  · simp [h, Nat.ble_eq_true_of_le h]
  · cases hb : Nat.ble a b
    · simp [h]
    · exact absurd (Nat.le_of_ble_eq_true hb) h
theorem beq_eq (a b : Nat) : Nat.beq a b = decide (a = b) := by
  by_cases h : a = b
  · simp [h]
  · simp [h, beq_false.2 h]
theorem eqI_eq (a b : Int) : eqI a b = (a == b) := by
  rw [Bool.eq_iff_iff, beq_iff_eq]
  cases a with
  | ofNat m => cases b with
    | ofNat n => show Nat.beq m n = true ↔ _; rw [beq_iff]; exact Int.ofNat_inj.symm
    | negSucc n => show false = true ↔ _; simp
  | negSucc m => cases b with
    | ofNat n => show false = true ↔ _; simp
    | negSucc n => show Nat.beq m n = true ↔ _; rw [beq_iff]; simp
theorem ltI_eq (a b : Int) : ltI a b = decide (a < b) := by
  cases a with
  | ofNat m => cases b with
    | ofNat n => show Nat.ble (Nat.succ m) n = _; rw [ble_eq]; simp [Nat.succ_le_iff]
    | negSucc n => show false = _; simp; omega
  | negSucc m => cases b with
    | ofNat n => show true = _; simp; omega
    | negSucc n => show Nat.ble (Nat.succ n) m = _; rw [ble_eq]; simp only [Nat.succ_le_iff, decide_eq_decide, Int.negSucc_eq]; omega
theorem two_pos (k : IntKind) : 0 < two k := by cases k <;> decide
theorem two_bits (k : IntKind) : two k = 2 ^ k.bits := by cases k <;> decide
theorem half_bits (k : IntKind) : half k = 2 ^ (k.bits - 1) := by cases k <;> decide
theorem toU_ofNat (k : IntKind) (m : Nat) : toU k (.ofNat m) = m % two k := rfl
theorem toU_negSucc (k : IntKind) (m : Nat) : toU k (.negSucc m) = two k - 1 - m % two k := rfl
theorem toU_eq (k : IntKind) (n : Int) : ((toU k n : Nat) : Int) = n % (2 ^ k.bits : Int) := by
  have h2 : (2 ^ k.bits : Int) = ((two k : Nat) : Int) := by rw [two_bits]; norm_cast
  rw [h2]
  cases n with
  | ofNat m => rw [toU_ofNat]; simp
  | negSucc m =>
    rw [toU_negSucc]
    cases k <;> simp only [two] <;> omega
theorem toU_lt (k : IntKind) (n : Int) : toU k n < two k := by
  have h := toU_eq k n
  have h2 : (2 ^ k.bits : Int) = ((two k : Nat) : Int) := by rw [two_bits]; norm_cast
  rw [h2] at h
  have := Int.emod_lt_of_pos n (show (0 : Int) < ((two k : Nat) : Int) by have := two_pos k; omega)
  omega
theorem wrapU_eq (k : IntKind) (m : Nat) (h : m < two k) : wrapU k m = k.wrap (m : Int) := by
  have h2 : (2 ^ k.bits : Int) = ((two k : Nat) : Int) := by rw [two_bits]; norm_cast
  have h3 : (2 ^ (k.bits - 1) : Int) = ((half k : Nat) : Int) := by rw [half_bits]; norm_cast
  have hm : ((m : Nat) : Int) % ((two k : Nat) : Int) = (m : Int) := Int.emod_eq_of_lt (by omega) (by omega)
  unfold IntKind.wrap
  simp only [h2, h3, hm]
  unfold wrapU
  cases hs : k.signed with
  | false => simp [cnd]
  | true =>
    rw [ble_eq]
    by_cases hh : half k ≤ m
    · have : (m : Int) ≥ ((half k : Nat) : Int) := by omega
      simp only [hh, decide_true, this, Bool.and_self, if_true, cnd]
      show Int.negSucc (two k - 1 - m) = _
      rw [Int.negSucc_eq]; omega
    · have : ¬ (m : Int) ≥ ((half k : Nat) : Int) := by omega
      simp only [hh, decide_false, this, Bool.and_false, Bool.false_eq_true, if_false, cnd]
      rfl
theorem wrap_mod (k : IntKind) (n : Int) : k.wrap (n % (2 ^ k.bits : Int)) = k.wrap n := by
  unfold IntKind.wrap; simp [Int.emod_emod]
theorem wrapS_eq (k : IntKind) (n : Int) : wrapS k n = k.wrap n := by
  unfold wrapS
  rw [wrapU_eq k _ (toU_lt k n), toU_eq, wrap_mod]
theorem wrapF_eq (k : IntKind) (n : Int) : wrapF k n = k.wrap n := by
  cases n with
  | ofNat m =>
    show cnd (Nat.ble (half k) m) (wrapS k (.ofNat m)) (.ofNat m) = _
    rw [ble_eq]
    by_cases h : half k ≤ m
    · simp [h, cnd, wrapS_eq]
    · simp only [h, decide_false, cnd]
      have h1 : m < two k := by cases k <;> simp [two, half] at * <;> omega
      have := wrapU_eq k m h1
      rw [← show ((m : Nat) : Int) = Int.ofNat m from rfl, ← this]
      unfold wrapU
      cases k.signed <;> simp [cnd, ble_eq, h]
  | negSucc m => show wrapS k _ = _; exact wrapS_eq k _
theorem ofInt_toNat (k : IntKind) (n : Int) : (BitVec.ofInt k.bits n).toNat = toU k n := by
  rw [BitVec.toNat_ofInt]
  have := toU_eq k n
  have h2 : (2 ^ k.bits : Int) = ((2 ^ k.bits : Nat) : Int) := by norm_cast
  rw [h2] at this
  omega
theorem pow2_int (n : Nat) : (2 : Int) ^ n = Int.ofNat (Nat.pow 2 n) := by
  show (2 : Int) ^ n = ((2 ^ n : Nat) : Int); norm_cast
theorem shrI_eq (x : Int) (n : Nat) : shrI x n = x.fdiv (2 ^ n) := by
  rw [pow2_int]
  have hp : 0 < Nat.pow 2 n := Nat.pow_pos (by decide)
  cases x with
  | ofNat m =>
    show Int.ofNat (Nat.div m (Nat.pow 2 n)) = _
    rw [show (Int.ofNat m).fdiv (Int.ofNat (Nat.pow 2 n)) = ((m : Nat) : Int).fdiv ((Nat.pow 2 n : Nat) : Int) from rfl, Int.fdiv_eq_ediv_of_nonneg _ (Int.natCast_nonneg _)]; rfl
  | negSucc m =>
    show Int.negSucc (Nat.div m (Nat.pow 2 n)) = _
    cases hq : Nat.pow 2 n with
    | zero => omega
    | succ q => rfl
theorem minN_eq (a b : Nat) : minN a b = min a b := by
  unfold minN; rw [ble_eq]
  by_cases h : a ≤ b
  · simp [h, cnd, Nat.min_eq_left h]
  · simp only [h, decide_false, cnd]; rw [Nat.min_eq_right (by omega)]

/-! ### Texts -/
theorem strOf_toList (s : List Nat) : (strOf s).toList = s.map UInt8.ofNat := by rw [Go.ByteArray.toList_eq]; simp [strOf]
theorem strOf_size (s : List Nat) : (strOf s).size = s.length := by simp [strOf, ByteArray.size]
theorem ofNat_eq (a b : Nat) : (UInt8.ofNat a == UInt8.ofNat b) = decide (a % 256 = b % 256) := by
  rw [Bool.eq_iff_iff]; simp [← UInt8.toNat_inj]
theorem ofNat_lt (a b : Nat) : (UInt8.ofNat a < UInt8.ofNat b) ↔ a % 256 < b % 256 := by simp [UInt8.lt_iff_toNat_lt]
theorem eqS_eq : ∀ (a b : List Nat), eqS a b = (a.map UInt8.ofNat == b.map UInt8.ofNat)
  | [], [] => rfl
  | [], _ :: _ => rfl
  | _ :: _, [] => rfl
  | x :: a, y :: b => by
    show cnd (Nat.beq (Nat.mod x 256) (Nat.mod y 256)) (eqS a b) false = _
    have e : (Nat.beq (Nat.mod x 256) (Nat.mod y 256)) = (UInt8.ofNat x == UInt8.ofNat y) := by rw [beq_eq, ofNat_eq]; rfl
    rw [e, eqS_eq a b]
    simp only [List.map_cons]
    show _ = (UInt8.ofNat x == UInt8.ofNat y && (a.map UInt8.ofNat == b.map UInt8.ofNat))
    cases (UInt8.ofNat x == UInt8.ofNat y) <;> rfl
theorem ltS_eq : ∀ (a b : List Nat), ltS a b = Op.bytesLess (a.map UInt8.ofNat) (b.map UInt8.ofNat)
  | [], [] => rfl
  | [], _ :: _ => rfl
  | _ :: _, [] => rfl
  | x :: a, y :: b => by
    show cnd (Nat.ble (Nat.succ (Nat.mod x 256)) (Nat.mod y 256)) true (cnd (Nat.beq (Nat.mod x 256) (Nat.mod y 256)) (ltS a b) false) = _
    have e : (Nat.beq (Nat.mod x 256) (Nat.mod y 256)) = (UInt8.ofNat x == UInt8.ofNat y) := by rw [beq_eq, ofNat_eq]; rfl
    have e2 : Nat.ble (Nat.succ (Nat.mod x 256)) (Nat.mod y 256) = decide (UInt8.ofNat x < UInt8.ofNat y) := by
      rw [ble_eq]; simp only [ofNat_lt]; rfl
    rw [e, e2, ltS_eq a b]
    simp only [List.map_cons, Op.bytesLess]
    cases decide (UInt8.ofNat x < UInt8.ofNat y) <;> cases (UInt8.ofNat x == UInt8.ofNat y) <;> rfl
theorem less_total : ∀ (x y : List UInt8), (Op.bytesLess x y || x == y) = !Op.bytesLess y x
  | [], [] => rfl
  | [], _ :: _ => rfl
  | _ :: _, [] => rfl
  | a :: x, b :: y => by
    have ih := less_total x y
    have e : ((a :: x) == (b :: y)) = (a == b && x == y) := rfl
    simp only [Op.bytesLess, e]
    rcases Nat.lt_trichotomy a.toNat b.toNat with h | h | h
    · have h1 : a < b := UInt8.lt_iff_toNat_lt.2 h
      have h2 : ¬ b < a := by rw [UInt8.lt_iff_toNat_lt]; omega
      have h3 : (b == a) = false := by rw [beq_eq_false_iff_ne]; intro e; rw [e] at h; omega
      simp [h1, h2, h3]
    · have h1 : a = b := UInt8.toNat_inj.1 h
      subst h1
      have h2 : ¬ a < a := by rw [UInt8.lt_iff_toNat_lt]; omega
      simp [h2, ih]
    · have h1 : b < a := UInt8.lt_iff_toNat_lt.2 h
      have h2 : ¬ a < b := by rw [UInt8.lt_iff_toNat_lt]; omega
      have h3 : (a == b) = false := by rw [beq_eq_false_iff_ne]; intro e; rw [e] at h; omega
      simp [h1, h2, h3]
theorem strOf_app (a b : List Nat) : strOf (a ++ b) = strOf a ++ strOf b := by
  apply ByteArray.ext; simp [strOf]

/-! ### Binary operations -/
section
variable {P : Program} {E : Env} {w : World}
theorem intA_sound {op : BinOp} {k : IntKind} {a b : Int} {v : AVal} (h : intA op k a b = some v) (t : TypeId) (hs : isShift op = false) :
    ∃ u, (Go.binOp op t (.int k a) (.int k b)).run P w = .ok u w ∧ gam E v = some u := by
  have bits : ∀ m : Nat, m < two k → ∀ v, some (AVal.int k (wrapU k m)) = some v → gam E v = some (.int k (k.wrap (m : Int))) := fun m hm v hv => by
    injection hv with hv; subst hv; simp only [gam, wrapU_eq k m hm]
  cases op with
  | add | sub | mul => cases h; exact ⟨_, by simp [Go.binOp, Op.intArith]; rfl, by simp only [gam, wrapF_eq]; rfl⟩
  | quo =>
    change cnd (eqI b (.ofNat 0)) none (some (.int k (wrapF k (Int.tdiv a b)))) = some v at h
    cases hb : eqI b (.ofNat 0) with
    | true => rw [hb] at h; cases h
    | false =>
      rw [hb] at h; cases h
      have hb0 : b ≠ 0 := by rw [eqI_eq] at hb; simpa using hb
      exact ⟨_, by simp [Go.binOp, Op.intDiv, hb0]; rfl, by simp only [gam, wrapF_eq]⟩
  | rem =>
    change cnd (eqI b (.ofNat 0)) none (some (.int k (Int.tmod a b))) = some v at h
    cases hb : eqI b (.ofNat 0) with
    | true => rw [hb] at h; cases h
    | false =>
      rw [hb] at h; cases h
      have hb0 : b ≠ 0 := by rw [eqI_eq] at hb; simpa using hb
      exact ⟨_, by simp [Go.binOp, Op.intDiv, hb0]; rfl, by simp only [gam]⟩
  | and => exact ⟨.int k (k.wrap ((toU k a &&& toU k b : Nat) : Int)), by simp only [Go.binOp, Op.intBits, ne_eq, not_true_eq_false, if_false, BitVec.toNat_and, ofInt_toNat, Sem.run_pure], bits _ (Nat.lt_of_le_of_lt Nat.and_le_left (toU_lt k a)) v h⟩
  | or =>
    refine ⟨_, by simp only [Go.binOp, Op.intBits, ne_eq, not_true_eq_false, if_false, BitVec.toNat_or, ofInt_toNat, Sem.run_pure]; rfl, bits _ ?_ v h⟩
    have h1 := toU_lt k a; have h2 := toU_lt k b; rw [two_bits] at *
    exact Nat.or_lt_two_pow h1 h2
  | xor =>
    refine ⟨_, by simp only [Go.binOp, Op.intBits, ne_eq, not_true_eq_false, if_false, BitVec.toNat_xor, ofInt_toNat, Sem.run_pure]; rfl, bits _ ?_ v h⟩
    have h1 := toU_lt k a; have h2 := toU_lt k b; rw [two_bits] at *
    exact Nat.xor_lt_two_pow h1 h2
  | andNot =>
    refine ⟨_, by simp only [Go.binOp, Op.intBits, ne_eq, not_true_eq_false, if_false, BitVec.toNat_and, BitVec.toNat_not, ofInt_toNat, ← two_bits, Sem.run_pure]; rfl, bits _ (Nat.lt_of_le_of_lt Nat.and_le_left (toU_lt k a)) v h⟩
  | eql => cases h; exact ⟨_, by simp [Go.binOp, Op.intCmp]; rfl, by simp only [gam, eqI_eq]⟩
  | neq => cases h; exact ⟨_, by simp [Go.binOp, Op.intCmp]; rfl, by simp only [gam, eqI_eq, notB_eq]; rfl⟩
  | lss => cases h; exact ⟨_, by simp [Go.binOp, Op.intCmp]; rfl, by simp only [gam, ltI_eq]⟩
  | leq => cases h; exact ⟨_, by simp [Go.binOp, Op.intCmp]; rfl, by simp only [gam, ltI_eq, notB_eq]; rw [← decide_not]; simp only [Int.not_lt]⟩
  | gtr => cases h; exact ⟨_, by simp [Go.binOp, Op.intCmp]; rfl, by simp only [gam, ltI_eq]⟩
  | geq => cases h; exact ⟨_, by simp [Go.binOp, Op.intCmp]; rfl, by simp only [gam, ltI_eq, notB_eq]; rw [← decide_not]; simp only [Int.not_lt]⟩
  | shl | shr => cases hs
theorem shiftA_sound {op : BinOp} {k k' : IntKind} {a b : Int} {v : AVal} (h : shiftA op k a b = some v) (t : TypeId) :
    ∃ u, (Go.binOp op t (.int k a) (.int k' b)).run P w = .ok u w ∧ gam E v = some u := by
  unfold shiftA at h
  split at h
  · rename_i n
    have hn : ¬ (Int.ofNat n < 0) := by simp
    have ht : (Int.ofNat n).toNat = n := rfl
    split at h
    · cases h
      exact ⟨_, by simp only [Go.binOp, Op.shift, hn, if_false, ht, Sem.run_pure]; rfl, by simp only [gam, wrapF_eq, minN_eq, ← pow2_int]; rfl⟩
    · cases h
      exact ⟨_, by simp only [Go.binOp, Op.shift, hn, if_false, ht, Sem.run_pure]; rfl, by simp only [gam, shrI_eq, minN_eq]⟩
    · cases h
  · cases h
theorem binInt_sound {op : BinOp} {k k' : IntKind} {a b : Int} {v : AVal} (h : binInt op k a k' b = some v) (t : TypeId) :
    ∃ u, (Go.binOp op t (.int k a) (.int k' b)).run P w = .ok u w ∧ gam E v = some u := by
  unfold binInt at h
  cases hs : isShift op with
  | true => rw [hs] at h; exact shiftA_sound h t
  | false =>
    rw [hs] at h
    obtain ⟨hk, h2⟩ := cnd_some (show cnd (eqK k k') (intA op k a b) none = some v from h)
    clear h
    rw [eqK_iff] at hk; subst hk
    exact intA_sound (by assumption) t hs
theorem strA_sound {op : BinOp} {a b : List Nat} {v : AVal} (h : strA op a b = some v) (t : TypeId) :
    ∃ u, (Go.binOp op t (.string (strOf a)) (.string (strOf b))).run P w = .ok u w ∧ gam E v = some u := by
  cases op with
  | add =>
    obtain ⟨hl, h⟩ := cnd_some h
    cases h
    rw [len_eq, len_eq] at hl
    have hl := Nat.le_of_ble_eq_true hl
    have : ¬ (((strOf a).size + (strOf b).size : Nat) : Int) > IntKind.i64.max := by
      rw [strOf_size, strOf_size]
      have e : IntKind.i64.max = 9223372036854775807 := by decide
      rw [e]; have : a.length + b.length ≤ 1000000 := hl; omega
    exact ⟨_, by simp only [Go.binOp, Op.stringOp, this, if_false, Sem.run_pure]; rfl, by simp only [gam, app_eq, strOf_app]⟩
  | eql => cases h; exact ⟨_, by simp only [Go.binOp, Op.stringOp, strOf_toList, Sem.run_pure]; rfl, by simp only [gam, eqS_eq]⟩
  | neq => cases h; exact ⟨_, by simp only [Go.binOp, Op.stringOp, strOf_toList, Sem.run_pure]; rfl, by simp only [gam, eqS_eq, notB_eq]⟩
  | lss => cases h; exact ⟨_, by simp only [Go.binOp, Op.stringOp, strOf_toList, Sem.run_pure]; rfl, by simp only [gam, ltS_eq]⟩
  | leq => cases h; exact ⟨_, by simp only [Go.binOp, Op.stringOp, strOf_toList, Sem.run_pure]; rfl, by simp only [gam, ltS_eq, notB_eq, less_total]⟩
  | gtr => cases h; exact ⟨_, by simp only [Go.binOp, Op.stringOp, strOf_toList, Sem.run_pure]; rfl, by simp only [gam, ltS_eq, less_total, Bool.not_not]⟩
  | geq => cases h; exact ⟨_, by simp only [Go.binOp, Op.stringOp, strOf_toList, Sem.run_pure]; rfl, by simp only [gam, ltS_eq, notB_eq]⟩
  | _ => cases h
end
end Go.Ev
