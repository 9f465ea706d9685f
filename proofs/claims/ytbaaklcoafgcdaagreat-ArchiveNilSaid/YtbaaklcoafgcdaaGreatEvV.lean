import Derived.Test.YtbaaklcoafgcdaaGreatEvU
set_option linter.unusedVariables false
set_option linter.unusedSimpArgs false
namespace Go.Ev
section
variable {C : Cx} {E : Env} {H : AHp} {w : World} {n : Nat} {T : Tm} {A : Array Value}
theorem ap_int {k : IntKind} {a : Int} {v : Value} : Apart (.int k a) v := ⟨nofun, nofun⟩
theorem ap_str {a : ByteArray} {v : Value} : Apart (.string a) v := ⟨nofun, nofun⟩
theorem ap_flt {k : FloatKind} {a : Nat} {v : Value} : Apart (.float k a) v := ⟨nofun, nofun⟩
theorem ap_cplx {k : FloatKind} {a b : Nat} {v : Value} : Apart (.complex k a b) v := ⟨nofun, nofun⟩
theorem fltA_sound {op : BinOp} {a b : Nat} {v : AVal} (h : fltA op a b = some v) (t : TypeId) : ∃ z, (Go.binOp op t (.float .f64 a) (.float .f64 b)).run C.P w = .ok z w ∧ gam E v = some z := by
  have okf : ∀ (r : Option Nat) v, okF r = some v → ∃ z, r = some z ∧ v = .flt .f64 z := fun r v h => by
    cases r with
    | none => cases h
    | some z => cases h; exact ⟨z, rfl, rfl⟩
  cases op with
  | add | sub | mul | quo =>
    obtain ⟨z, hz, rfl⟩ := okf _ _ h
    exact ⟨.float .f64 z, by simp [Go.binOp, Op.floatArith, hz], rfl⟩
  | eql | neq | lss | leq | gtr | geq => cases h; exact ⟨_, by simp only [Go.binOp, Op.floatCmp, ne_eq, not_true_eq_false, if_false, Sem.run_pure], rfl⟩
  | _ => cases h
theorem cplxA_sound {op : BinOp} {a b c d : Nat} {v : AVal} (h : cplxA op a b c d = some v) (t : TypeId) : ∃ z, (Go.binOp op t (.complex .f64 a b) (.complex .f64 c d)).run C.P w = .ok z w ∧ gam E v = some z := by
  have okc : ∀ (r s : Option Nat) v, okC r s = some v → ∃ y z, r = some y ∧ s = some z ∧ v = .cplx .f64 y z := fun r s v h => by
    cases r with
    | none => cases h
    | some y => cases s with
      | none => cases h
      | some z => cases h; exact ⟨y, z, rfl, rfl, rfl⟩
  cases op with
  | add | sub =>
    obtain ⟨y, z, hy, hz, rfl⟩ := okc _ _ _ h
    exact ⟨.complex .f64 y z, by simp [Go.binOp, Op.complexOp, Op.Complex.arith, Op.floatArith, hy, hz], rfl⟩
  | _ => cases h
theorem capA_sound {op : BinOp} {a : Int} {geq : Bool} {m q : Nat} {v : AVal} (h : capA op a geq m = some v) (hq : if geq then m ≤ q else q < m) (t : TypeId) :
    ∃ z, (Go.binOp op t (.int .i64 a) (.int .i64 (q : Int))).run C.P w = .ok z w ∧ gam E v = some z := by
  unfold capA at h
  split at h
  · split at h
    · rename_i k
      cases geq with
      | true =>
        obtain ⟨h1, h⟩ := cnd_some h
        cases h
        have h1 := Nat.le_of_ble_eq_true h1
        simp only [if_true] at hq
        refine ⟨_, by simp only [Go.binOp, Op.intCmp, ne_eq, not_true_eq_false, if_false, Sem.run_pure]; rfl, ?_⟩
        simp only [gam]
        have : ¬ (Int.ofNat k > (q : Int)) := by simp; omega
        simp [this]; omega
      | false =>
        obtain ⟨h1, h⟩ := cnd_some h
        cases h
        have h1 := Nat.le_of_ble_eq_true h1
        simp only [Bool.false_eq_true, if_false] at hq
        refine ⟨_, by simp only [Go.binOp, Op.intCmp, ne_eq, not_true_eq_false, if_false, Sem.run_pure]; rfl, ?_⟩
        simp only [gam]
        have : (Int.ofNat k > (q : Int)) := by simp; omega
        simp; omega
    · cases h
  · cases h
theorem binA_sound (ok : CxOk C) {op : BinOp} {t : TypeId} {x y r : AVal} (h : binA C op t x y = some r) {u v : Value} (hu : gam E x = some u) (hv : gam E y = some v) (X Y : Operand) (w : World) :
    (eqGuard op t X Y u v).run C.P w = .ok () w ∧ ∃ z, (Go.binOp op t u v).run C.P w = .ok z w ∧ gam E r = some z := by
  cases x
  case int k a =>
    change binI k a op y = some r at h
    simp only [gam] at hu; cases hu
    cases y
    case int k' b =>
      change binInt op k a k' b = some r at h
      simp only [gam] at hv; cases hv
      exact ⟨guard_apart ap_int op t X Y w, binInt_sound h t⟩
    case capGe b m =>
      obtain ⟨hk, h⟩ := cnd_some (show cnd (eqK k .i64) (capA op a true m) none = some r from h)
      rw [eqK_iff] at hk; subst hk
      simp only [gam] at hv
      split at hv
      · obtain ⟨h1, hv⟩ := bif_some hv
        cases hv
        exact ⟨guard_apart ap_int op t X Y w, capA_sound h (by simpa using Nat.le_of_ble_eq_true h1) t⟩
      · cases hv
    case capLt b m =>
      obtain ⟨hk, h⟩ := cnd_some (show cnd (eqK k .i64) (capA op a false m) none = some r from h)
      rw [eqK_iff] at hk; subst hk
      simp only [gam] at hv
      split at hv
      · obtain ⟨h1, hv⟩ := bif_some hv
        cases hv
        exact ⟨guard_apart ap_int op t X Y w, capA_sound h (by have := Nat.le_of_ble_eq_true h1; simp only [Bool.false_eq_true, if_false]; omega) t⟩
      · cases hv
    all_goals cases h
  case str a =>
    change binS a op y = some r at h
    simp only [gam] at hu; cases hu
    cases y
    case str b =>
      change strA op a b = some r at h
      simp only [gam] at hv; cases hv
      exact ⟨guard_apart ap_str op t X Y w, strA_sound h t⟩
    all_goals cases h
  case flt k a =>
    cases k with
    | f32 => cases h
    | f64 =>
      change binF a op y = some r at h
      simp only [gam] at hu; cases hu
      cases y
      case flt k b =>
        cases k with
        | f32 => cases h
        | f64 =>
          change fltA op a b = some r at h
          simp only [gam] at hv; cases hv
          exact ⟨guard_apart ap_flt op t X Y w, fltA_sound h t⟩
      all_goals cases h
  case cplx k a b =>
    cases k with
    | f32 => cases h
    | f64 =>
      change binC a b op y = some r at h
      simp only [gam] at hu; cases hu
      cases y
      case cplx k c d =>
        cases k with
        | f32 => cases h
        | f64 =>
          change cplxA op a b c d = some r at h
          simp only [gam] at hv; cases hv
          exact ⟨guard_apart ap_cplx op t X Y w, cplxA_sound h t⟩
      all_goals cases h
  case opq => cases h
  case capGe => cases h
  case capLt => cases h
  all_goals (refine eqOp_sound ok ?_ h hu hv X Y w; trivial)
theorem unA_sound {op : UnOp} {x r : AVal} (h : unA op x = some r) {u : Value} (hu : gam E x = some u) (w : World) : ∃ z, (Op.unary op u).run C.P w = .ok z w ∧ gam E r = some z := by
  cases x
  case int k m =>
    simp only [gam] at hu; cases hu
    cases op with
    | neg => cases h; exact ⟨_, by simp only [Op.unary, Op.intArith, Sem.run_pure]; rfl, by simp only [gam, wrapF_eq]; rfl⟩
    | xor =>
      cases h
      have hb : BitVec.ofInt k.bits (if k.signed then -1 else k.max) = BitVec.allOnes k.bits := by cases k <;> decide
      have hx : BitVec.allOnes k.bits ^^^ BitVec.ofInt k.bits m = ~~~ (BitVec.ofInt k.bits m) := by rw [BitVec.xor_comm, BitVec.xor_allOnes]
      refine ⟨.int k (k.wrap ((2 ^ k.bits - 1 - toU k m : Nat) : Int)), ?_, ?_⟩
      · simp only [Op.unary, Op.intBits, hb, hx, BitVec.toNat_not, ofInt_toNat, Sem.run_pure]
      · simp only [gam]
        have := toU_lt k m
        rw [wrapU_eq k _ (by show two k - 1 - toU k m < two k; omega), ← two_bits]; rfl
    | _ => cases h
  case bool b =>
    simp only [gam] at hu; cases hu
    cases op with
    | not => cases h; exact ⟨_, by simp only [Op.unary, Sem.run_pure]; rfl, by simp only [gam, notB_eq]⟩
    | _ => cases h
  case flt k b =>
    simp only [gam] at hu; cases hu
    cases op with
    | neg => cases h; exact ⟨_, by simp only [Op.unary, Sem.run_pure]; rfl, by simp only [gam]⟩
    | _ => cases h
  all_goals cases h

/-! ### Cells of a slice -/
/-- what a slice of cells stands for: the first 'm' cells from its place on -/
theorem sliceCells_sound (ok : CxOk C) (hr : HR C.P E H w) {s : Nat} {a : Option (Nat × Nat)} {m : Nat} {cs : List AVal} (h : sliceCells H s a m = some cs) {p : Option Addr} (hp : ptrOf E a = some p) :
    (match p with
    | none => cs = []
    | some q => ∃ (b : Nat × Nat) (x : Nat) (R : Array Value) (e : TypeId) (fz : Nat × Nat), a = some b ∧ E.ν b.1 = some x ∧ q = ⟨x, b.2, none⟩ ∧ w.heap[x]? = some (.cells R e fz) ∧ b.2 + m * s ≤ R.size ∧ gams E cs = some (R.extract b.2 (b.2 + m * s)).toList ∧ cs.length = m * s) := by
  cases a with
  | none => simp [ptrOf] at hp; subst hp; obtain ⟨_, h⟩ := cnd_some h; cases h; rfl
  | some b =>
    change (match rowAt H b.1 with
      | some c => cnd (Nat.ble (Nat.add b.2 (Nat.mul m s)) (len c)) (some (takeL (Nat.mul m s) (dropL b.2 c))) none
      | none => none) = some cs at h
    obtain ⟨b1, b2⟩ := b
    simp only [ptrOf] at hp
    cases hx : E.ν b1 with
    | none => simp [hx] at hp
    | some x =>
      simp [hx] at hp; subst hp
      split at h
      · rename_i c hc
        obtain ⟨h1, h2⟩ := cnd_some h
        rw [len_eq] at h1
        have h1 : b2 + m * s ≤ c.length := Nat.le_of_ble_eq_true h1
        injection h2 with h2
        rw [takeL_eq, dropL_eq] at h2
        have h2 : (c.drop b2).take (m * s) = cs := h2
        obtain ⟨e, tl, st, hb⟩ := rowAt_some hc
        obtain ⟨x', R, fz, vs, rest, hx', hw, _, hR, hg, _⟩ := row_of hr hb
        rw [hx] at hx'; cases hx'
        have hl := gams_len hg
        have hsize : R.size = vs.length + rest.length := by rw [← Array.length_toList, hR]; simp
        refine ⟨(b1, b2), x, R, e, fz, rfl, hx, rfl, hw, by show b2 + m * s ≤ R.size; omega, ?_, ?_⟩
        · rw [← h2, gams_take (m * s) (gams_drop b2 hg)]
          simp only [Array.toList_extract, List.extract_eq_take_drop, hR]
          have e1 : b2 + m * s - b2 = m * s := by omega
          rw [e1, List.drop_append_of_le_length (by omega), List.take_append_of_le_length (by simp; omega)]
        · rw [← h2]; simp; omega
      · cases h
theorem sliceCells_len {s : Nat} {a : Option (Nat × Nat)} {m : Nat} {cs : List AVal} (h : sliceCells H s a m = some cs) : cs.length = m * s := by
  cases a with
  | none =>
    obtain ⟨h1, h⟩ := cnd_some h
    cases h
    rw [beq_iff.1 h1]; simp
  | some b =>
    change (match rowAt H b.1 with
      | some c => cnd (Nat.ble (Nat.add b.2 (Nat.mul m s)) (len c)) (some (takeL (Nat.mul m s) (dropL b.2 c))) none
      | none => none) = some cs at h
    split at h
    · rename_i c hc
      obtain ⟨h1, h2⟩ := cnd_some h
      rw [len_eq] at h1
      have h1 : b.2 + m * s ≤ c.length := Nat.le_of_ble_eq_true h1
      injection h2 with h2
      rw [← h2, takeL_eq, dropL_eq]
      show ((c.drop b.2).take (m * s)).length = m * s
      simp; omega
    · cases h
theorem slice_ptr {a : Option (Nat × Nat)} {l : Nat} {c : Cap} {u : Value} (h : gam E (.slice a l c) = some u) (hc : ∀ d k s, c ≠ .edge d k s) : ∃ p m, u = .slice p l m ∧ ptrOf E a = some p := by
  simp only [gam] at h
  unfold sliceOf at h
  split at h
  · obtain ⟨_, h⟩ := bif_some h; cases h; exact ⟨none, _, rfl, rfl⟩
  · split at h
    · rename_i x hx; obtain ⟨_, h⟩ := bif_some h; cases h; exact ⟨_, _, rfl, by simp [ptrOf, hx]⟩
    · cases h
  · split at h
    · rename_i x hx; obtain ⟨_, h⟩ := bif_some h; cases h; exact ⟨_, _, rfl, by simp [ptrOf, hx]⟩
    · cases h
  · exact absurd rfl (hc _ _ _)
  · split at h
    · rename_i x hx; obtain ⟨_, h⟩ := bif_some h; cases h; exact ⟨_, _, rfl, by simp [ptrOf, hx]⟩
    · cases h
  · split at h
    · rename_i x hx; obtain ⟨_, h⟩ := bif_some h; cases h; exact ⟨_, _, rfl, by simp [ptrOf, hx]⟩
    · cases h
  · cases h
theorem edge_gam {a : Option (Nat × Nat)} {l d k z : Nat} {u : Value} (h : gam E (.slice a l (.edge d k z)) = some u) : l = 0 ∧ ∃ b, a = some b := by
  cases a with
  | none => simp [gam, sliceOf] at h
  | some b => cases l with
    | zero => exact ⟨rfl, b, rfl⟩
    | succ l => simp [gam, sliceOf] at h
/-- the length of a slice, and that its cells (none, of an edge) are read -/
theorem firstCells_sound (ok : CxOk C) (hr : HR C.P E H w) {s : Nat} {a : Option (Nat × Nat)} {l : Nat} {c : Cap} {u : Value} (hu : gam E (.slice a l c) = some u) {m : Nat} {cs : List AVal} (hm : m ≤ l) (h : sliceCells H s a m = some cs) :
    ∃ V : Array Value, (Builtin.firstCells s m u).run C.P w = .ok V w ∧ gams E cs = some V.toList := by
  by_cases hc : ∀ d k s, c ≠ .edge d k s
  · obtain ⟨p, q, rfl, hp⟩ := slice_ptr hu hc
    have hs := sliceCells_sound ok hr h hp
    cases p with
    | none => subst hs; exact ⟨#[], by simp [Builtin.firstCells], rfl⟩
    | some p =>
      obtain ⟨b, x, R, e, fz, rfl, hx, rfl, hw, hle, hg, _⟩ := hs
      exact ⟨_, by simp only [Builtin.firstCells]; exact run_loadCells hw hle, hg⟩
  · have : ∃ d k z, c = .edge d k z := by
      cases c
      case edge d k z => exact ⟨d, k, z, rfl⟩
      all_goals exact absurd nofun hc
    obtain ⟨d, k, z, rfl⟩ := this
    have hl := edge_gam hu
    obtain ⟨rfl, b, rfl⟩ := hl
    obtain rfl : m = 0 := by omega
    obtain ⟨p, q, rfl, hp⟩ := slice_gam hu
    cases p with
    | none => cases hp
    | some p =>
      change (match rowAt H b.1 with
        | some c => cnd (Nat.ble (Nat.add b.2 (Nat.mul 0 s)) (len c)) (some (takeL (Nat.mul 0 s) (dropL b.2 c))) none
        | none => none) = some cs at h
      split at h
      · obtain ⟨_, h2⟩ := cnd_some h
        have e0 : Nat.mul 0 s = 0 := Nat.zero_mul s
        rw [e0] at h2
        cases h2
        exact ⟨#[], by simp [Builtin.firstCells, loadCells, loadCellsFrom], rfl⟩
      · cases h
end
end Go.Ev
